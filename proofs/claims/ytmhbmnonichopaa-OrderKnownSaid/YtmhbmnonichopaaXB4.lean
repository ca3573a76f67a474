/-
  The other operations that look at temporaries alone.
-/
import Derived.Test.YtmhbmnonichopaaXB3
namespace Go.Ax

variable {P : Program} {base : Nat}

theorem addr_add (B k n : Nat) : (⟨B, k, none⟩ : Addr).add n = ⟨B, k + n, none⟩ := by
  unfold Addr.add; split <;> simp_all

theorem sim_un {o : Oper} (op : UnOp) (t : TypeId) (x : Operand) (ho : o.op = .unOp op t x) : OpSim P base o (.un op (ao x)) := by
  refine OpSim.val (fun ρ => Op.unary op (ρ x)) (fun e => unAV op ((ao x).ev e)) (fun e => rfl) (fun ρ => by simp [execOp, ho]) ?_
  intro ι e a w r hE hr
  exact un_rel op w (ao_rel hE x) hr

theorem sim_conv {o : Oper} (s d : TypeId) (k k0 : IntKind) (x : Operand) (ho : o.op = .convert s d x) (hs : P.underlying s = some (.int k0)) (hd : P.underlying d = some (.int k)) : OpSim P base o (.conv k (ao x)) := by
  refine OpSim.val (fun ρ => convert s d (ρ x)) (fun e => match (ao x).ev e with | .int _ n => some (.int k (k.wrap n)) | _ => none) (fun e => rfl) (fun ρ => by simp [execOp, ho]) ?_
  intro ι e a w r hE hr
  have hx := ao_rel hE x
  split at hr
  · rename_i k' n hp
    simp only [Option.some.injEq] at hr; subst hr
    rw [hp] at hx
    rw [rel_int hx]
    exact ⟨_, by simp [convert, run_underlying hs, run_underlying hd, Conv.intToInt], .int _ _⟩
  · cases hr

theorem sim_convS {o : Oper} (s d : TypeId) (x : Operand) (ho : o.op = .convert s d x) (hs : P.underlying s = some .string) (hd : P.underlying d = some .string) : OpSim P base o (.convS (ao x)) := by
  refine OpSim.val (fun ρ => convert s d (ρ x)) (fun e => match (ao x).ev e with | .str n => some (.str n) | _ => none) (fun e => rfl) (fun ρ => by simp [execOp, ho]) ?_
  intro ι e a w r hE hr
  have hx := ao_rel hE x
  split at hr
  · rename_i n hp
    simp only [Option.some.injEq] at hr; subst hr
    rw [hp] at hx
    rw [rel_str hx]
    exact ⟨_, by simp [convert, run_underlying hs, run_underlying hd], .str _⟩
  · cases hr

theorem sim_mkfn {o : Oper} (g : FuncId) (first caps : Array Operand) (ho : o.op = .makeFunc (.func g) first caps) : OpSim P base o (.mkfn g (first.toList.map ao) (caps.toList.map ao)) := by
  refine OpSim.val (fun ρ => Instr.makeFunc (.func g) (first.map ρ) (caps.map ρ)) (fun e => some (.fn (.func g) ((first.toList.map ao).map (·.ev e)) ((caps.toList.map ao).map (·.ev e)))) (fun e => rfl) (fun ρ => by simp [execOp, ho]) ?_
  intro ι e a w r hE hr
  simp only [Option.some.injEq] at hr; subst hr
  have h1 := ao_relL hE first.toList
  have h2 := ao_relL hE caps.toList
  refine ⟨.func (.func g) (first.map a.eval) (caps.map a.eval), rfl, .fn (.func g) (by simp) (fun i x v hx hv => h1.2 i x v hx ?_) (by simp) (fun i x v hx hv => h2.2 i x v hx ?_)⟩
  · rw [← Array.getElem?_toList, Array.toList_map] at hv; exact hv
  · rw [← Array.getElem?_toList, Array.toList_map] at hv; exact hv

theorem sim_mkif {o : Oper} (t : TypeId) (d : TypeDesc) (x : Operand) (ho : o.op = .makeInterface t x) (hu : P.underlying t = some d) (hd : (match d with | .interface _ => false | _ => true) = true) : OpSim P base o (.mkif t (ao x)) := by
  refine OpSim.val (fun ρ => Instr.makeInterface t (ρ x)) (fun e => some (.iface t ((ao x).ev e))) (fun e => rfl) (fun ρ => by simp [execOp, ho]) ?_
  intro ι e a w r hE hr
  simp only [Option.some.injEq] at hr; subst hr
  refine ⟨.iface t (a.eval x), ?_, .iface (ao_rel hE x)⟩
  cases d <;> simp [Instr.makeInterface, run_underlying hu] at hd ⊢

theorem sim_faddr {o : Oper} (t : TypeId) (x : Operand) (i : Nat) (fs : Array Field) (f : Field) (n : Nat) (ho : o.op = .fieldAddr t x i) (hu : P.underlying t = some (.struct fs)) (hf : fs[i]? = some f) (hs : sz P f.type = some (n + 1)) :
    OpSim P base o (.faddr f.offset (ao x)) := by
  refine OpSim.val (fun ρ => Instr.fieldAt t (ρ x) i) (fun e => match (ao x).ev e with | .ptr (some a) => some (.ptr (some (a.1, a.2 + f.offset))) | _ => none) (fun e => rfl) (fun ρ => by simp [execOp, ho]) ?_
  intro ι e a w r hE hr
  have hx := ao_rel hE x
  split at hr
  · rename_i p hp
    obtain ⟨b, k⟩ := p
    simp only [Option.some.injEq] at hr; subst hr
    rw [hp] at hx
    obtain ⟨q, hq, hv⟩ := rel_ptr hx
    rw [hv]
    refine ⟨.pointer (some ⟨q.B, q.O + (k + f.offset), none⟩), ?_, .ptr hq⟩
    simp [Instr.fieldAt, run_underlying hu, hf, Instr.sureAddr, fieldPlace, sz_run hs, addr_add, Nat.add_assoc]
  · cases hr

theorem partC_rel {ι : Io} {t : TypeId} {n : Option Nat} {l : List AV} {l' : Array Value} {off : Nat} {r : AV} (w : World) (ha : agn P t = some n) (h : RelC ι l l'.toList) (hr : partC l off n = some r) :
    ∃ r', (part t l' off).run P w = .ok r' w ∧ RelV ι r r' := by
  unfold part
  simp only [Sem.run_bind, agn_isAgg ha, Result.andThen_ok]
  cases n with
  | none =>
    simp only [partC] at hr
    obtain ⟨v, hv, hrel⟩ := h.1.get hr
    rw [Array.getElem?_toList] at hv
    refine ⟨v, ?_, hrel⟩
    simp [hv]
  | some m =>
    simp only [partC] at hr
    split at hr
    · simp only [Option.some.injEq] at hr; subst hr
      refine ⟨.agg (l'.extract off (off + m)), by simp [sz_run (agn_some ha)], ?_⟩
      have h2 := ((h.drop off).take m).agg
      have e : ((l'.toList.drop off).take m).toArray = l'.extract off (off + m) := by
        apply Array.ext'
        rw [Array.toList_extract, List.extract_eq_take_drop, Nat.add_sub_cancel_left]
      rw [← e]; exact h2
    · cases hr

theorem sim_field {o : Oper} (t : TypeId) (x : Operand) (i : Nat) (fs : Array Field) (f : Field) (n : Option Nat) (ho : o.op = .field t x i) (hu : P.underlying t = some (.struct fs)) (hf : fs[i]? = some f) (ha : agn P f.type = some n) :
    OpSim P base o (.field f.offset n (ao x)) := by
  refine OpSim.val (fun ρ => Instr.field t (ρ x) i) (fun e => match (ao x).ev e with | .agg l => partC l f.offset n | _ => none) (fun e => rfl) (fun ρ => by simp [execOp, ho]) ?_
  intro ι e a w r hE hr
  have hx := ao_rel hE x
  split at hr
  · rename_i l hp
    rw [hp] at hx
    obtain ⟨l', hl', hc⟩ := hx.aggC
    rw [hl']
    obtain ⟨r', h1, h2⟩ := partC_rel w ha hc hr
    exact ⟨r', by simp [Instr.field, run_underlying hu, hf, asAgg, h1], h2⟩
  · cases hr

theorem sim_idxA {o : Oper} (t el : TypeId) (x i : Operand) (n s : Nat) (m : Option Nat) (ho : o.op = .index t x i) (hu : P.underlying t = some (.array n el)) (hs : sz P el = some s) (ha : agn P el = some m) :
    OpSim P base o (.idxA n s m (ao x) (ao i)) := by
  refine OpSim.val (fun ρ => Instr.index t (ρ x) (ρ i)) (fun e => match (ao x).ev e, (ao i).ev e with
    | .agg l, .int _ j => if 0 ≤ j ∧ j < (n : Int) then partC l (j.toNat * s) m else none
    | _, _ => none) (fun e => rfl) (fun ρ => by simp [execOp, ho]) ?_
  intro ι e a w r hE hr
  have hx := ao_rel hE x
  have hi := ao_rel hE i
  split at hr
  · rename_i l k j hp hq
    rw [hp] at hx
    rw [hq] at hi
    obtain ⟨l', hl', hc⟩ := hx.aggC
    rw [hl', rel_int hi]
    split at hr
    · rename_i hj
      obtain ⟨r', h1, h2⟩ := partC_rel w ha hc hr
      exact ⟨r', by simp [Instr.index, asIntOf, run_underlying hu, hj, sz_run hs, h1], h2⟩
    · cases hr
  · cases hr

theorem sim_idxS {o : Oper} (t : TypeId) (x i : Operand) (ho : o.op = .index t x i) (hu : P.underlying t = some .string) : OpSim P base o (.idxS (ao x) (ao i)) := by
  refine OpSim.val (fun ρ => Instr.index t (ρ x) (ρ i)) (fun e => match (ao x).ev e, (ao i).ev e with
    | .str s, .int _ j => if 0 ≤ j then (s[j.toNat]?).map fun b => .int .u8 b.toNat else none
    | _, _ => none) (fun e => rfl) (fun ρ => by simp [execOp, ho]) ?_
  intro ι e a w r hE hr
  have hx := ao_rel hE x
  have hi := ao_rel hE i
  split at hr
  · rename_i s k j hp hq
    rw [hp] at hx
    rw [hq] at hi
    rw [rel_str hx, rel_int hi]
    split at hr
    · rename_i hj
      cases hb : s[j.toNat]? with
      | none => simp [hb] at hr
      | some b =>
        simp [hb] at hr; subst hr
        exact ⟨.int .u8 b.toNat, by simp [Instr.index, asIntOf, run_underlying hu, hj, hb], .int _ _⟩
    · cases hr
  · cases hr

theorem sim_iaddrA {o : Oper} (t el : TypeId) (x i : Operand) (n s : Nat) (ho : o.op = .indexAddr t x i) (hu : P.underlying t = some (.array n el)) (hs : sz P el = some s) :
    OpSim P base o (.iaddrA n s (ao x) (ao i)) := by
  refine OpSim.val (fun ρ => Instr.indexAt t (ρ x) (ρ i)) (fun e => match (ao x).ev e, (ao i).ev e with
    | .ptr (some a), .int _ j => if 0 ≤ j ∧ j < (n : Int) then some (.ptr (some (moved a j.toNat s))) else none
    | _, _ => none) (fun e => rfl) (fun ρ => by simp [execOp, ho]) ?_
  intro ι e a w r hE hr
  have hx := ao_rel hE x
  have hi := ao_rel hE i
  split at hr
  · rename_i p k j hp hq
    obtain ⟨b, c⟩ := p
    rw [hp] at hx
    rw [hq] at hi
    obtain ⟨q, hq', hv⟩ := rel_ptr hx
    rw [hv, rel_int hi]
    split at hr
    · rename_i hj
      simp only [Option.some.injEq] at hr; subst hr
      refine ⟨.pointer (some ⟨q.B, q.O + (c + j.toNat * s), none⟩), ?_, .ptr hq'⟩
      simp [Instr.indexAt, asIntOf, run_underlying hu, Instr.sureAddr, hj, sz_run hs, addr_add, Nat.add_assoc]
    · cases hr
  · cases hr

theorem sim_iaddrS {o : Oper} (t el : TypeId) (x i : Operand) (s : Nat) (ho : o.op = .indexAddr t x i) (hu : P.underlying t = some (.slice el)) (hs : sz P el = some s) :
    OpSim P base o (.iaddrS s (ao x) (ao i)) := by
  refine OpSim.val (fun ρ => Instr.indexAt t (ρ x) (ρ i)) (fun e => match (ao x).ev e, (ao i).ev e with
    | .slc (some a) len _ _ _, .int _ j => if 0 ≤ j ∧ j < (len : Int) then some (.ptr (some (moved a j.toNat s))) else none
    | _, _ => none) (fun e => rfl) (fun ρ => by simp [execOp, ho]) ?_
  intro ι e a w r hE hr
  have hx := ao_rel hE x
  have hi := ao_rel hE i
  split at hr
  · rename_i p len cap ex es k j hp hq
    obtain ⟨b, c⟩ := p
    rw [hp] at hx
    rw [hq] at hi
    split at hr
    · rename_i hj
      simp only [Option.some.injEq] at hr; subst hr
      generalize a.eval x = X at hx ⊢
      cases hx with
      | slc h1 h2 h3 h4 h5 =>
        rename_i C A q
        rcases h5 with h5 | ⟨rfl, _⟩
        · omega
        · rw [rel_int hi]
          refine ⟨.pointer (some ⟨q.B, q.O + (c + j.toNat * s), none⟩), ?_, .ptr h1⟩
          simp [Instr.indexAt, asIntOf, run_underlying hu, hj, sz_run hs, addr_add, Nat.add_assoc]
    · cases hr
  · cases hr

theorem sim_ext {o : Oper} (x : Operand) (i : Nat) (ho : o.op = .extract x i) : OpSim P base o (.ext (ao x) i) := by
  refine OpSim.val (fun ρ => Instr.extract (ρ x) i) (fun e => match (ao x).ev e with | .tup l => l[i]? | _ => none) (fun e => rfl) (fun ρ => by simp [execOp, ho]) ?_
  intro ι e a w r hE hr
  have hx := ao_rel hE x
  split at hr
  · rename_i l hp
    rw [hp] at hx
    obtain ⟨l', hl', hc⟩ := hx.tupL
    rw [hl']
    obtain ⟨v, hv, hrel⟩ := hc.get hr
    rw [Array.getElem?_toList] at hv
    exact ⟨v, by simp [Instr.extract, hv], hrel⟩
  · cases hr

theorem run_builtin {o : Oper} {c : Call} {b : Builtin} (ho : o.op = .call c) (hb : c.callee = .builtin b) (ρ : Operand → Value) :
    ∃ cs, execOp ρ o = builtin b c.argTypes o.type cs (c.args.map ρ) := by
  simp only [execOp, ho, resolve, hb]
  exact ⟨_, rfl⟩

theorem args_one {c : Call} {x : Operand} (h : c.args.toList = [x]) (ρ : Operand → Value) : c.args.map ρ = #[ρ x] := by
  apply Array.ext'; simp [h]
theorem args_two {c : Call} {x y : Operand} (h : c.args.toList = [x, y]) (ρ : Operand → Value) : c.args.map ρ = #[ρ x, ρ y] := by
  apply Array.ext'; simp [h]

theorem sim_len {o : Oper} (c : Call) (t el : TypeId) (x : Operand) (ho : o.op = .call c) (hb : c.callee = .builtin .len) (ha : c.args.toList = [x]) (ht : c.argTypes[0]? = some t) (hu : P.underlying t = some (.slice el)) :
    OpSim P base o (.len (ao x)) := by
  refine OpSim.val (fun ρ => Builtin.len_ c.argTypes o.type #[ρ x]) (fun e => match (ao x).ev e with | .slc _ n _ _ _ => some (.int .i64 n) | _ => none) (fun e => rfl) (fun ρ => by obtain ⟨cs, h⟩ := run_builtin ho hb ρ; rw [h, args_one ha]; rfl) ?_
  intro ι e a w r hE hr
  have hx := ao_rel hE x
  split at hr
  · rename_i p n cc ex es hp
    simp only [Option.some.injEq] at hr; subst hr
    rw [hp] at hx
    obtain ⟨p', C, hv, _⟩ := rel_slc_any hx
    rw [hv]
    exact ⟨_, by simp [Builtin.len_, ht, run_underlying hu, goInt], .int _ _⟩
  · cases hr
theorem sim_lenS {o : Oper} (c : Call) (t : TypeId) (x : Operand) (ho : o.op = .call c) (hb : c.callee = .builtin .len) (ha : c.args.toList = [x]) (ht : c.argTypes[0]? = some t) (hu : P.underlying t = some .string) :
    OpSim P base o (.lenS (ao x)) := by
  refine OpSim.val (fun ρ => Builtin.len_ c.argTypes o.type #[ρ x]) (fun e => match (ao x).ev e with | .str s => some (.int .i64 s.size) | _ => none) (fun e => rfl) (fun ρ => by obtain ⟨cs, h⟩ := run_builtin ho hb ρ; rw [h, args_one ha]; rfl) ?_
  intro ι e a w r hE hr
  have hx := ao_rel hE x
  split at hr
  · rename_i s hp
    simp only [Option.some.injEq] at hr; subst hr
    rw [hp] at hx
    rw [rel_str hx]
    exact ⟨_, by simp [Builtin.len_, ht, run_underlying hu, goInt], .int _ _⟩
  · cases hr
theorem sim_lenC {o : Oper} (c : Call) (t el : TypeId) (n : Nat) (x : Operand) (ho : o.op = .call c) (hb : c.callee = .builtin .len) (ha : c.args.toList = [x]) (ht : c.argTypes[0]? = some t) (hu : P.underlying t = some (.array n el)) :
    OpSim P base o (.lenC n) := by
  refine OpSim.val (fun ρ => Builtin.len_ c.argTypes o.type #[ρ x]) (fun e => some (.int .i64 n)) (fun e => rfl) (fun ρ => by obtain ⟨cs, h⟩ := run_builtin ho hb ρ; rw [h, args_one ha]; rfl) ?_
  intro ι e a w r hE hr
  simp only [Option.some.injEq] at hr; subst hr
  exact ⟨_, by simp [Builtin.len_, ht, run_underlying hu, goInt], .int _ _⟩

/-! ### Bounds -/
theorem bound_run {ι : Io} {x : AV} {x' : Value} {y n : Nat} {code : BoundsCode} (w : World) (hx : RelV ι x x') {d : Nat} (h : bound (some x) d y = some n) {y' : Nat} (hy : y ≤ y') :
    (Instr.sliceBound x' y' code).run P w = .ok n w ∧ n ≤ y := by
  unfold bound at h
  split at h
  · rename_i he; cases he
  · rename_i k i he
    simp only [Option.some.injEq] at he; subst he
    split at h
    · rename_i hi
      simp only [Option.some.injEq] at h; subst h
      rw [rel_int hx]
      refine ⟨?_, by omega⟩
      have : 0 ≤ i ∧ i ≤ (y' : Int) := ⟨hi.1, by omega⟩
      simp [Instr.sliceBound, asIntOf, this]
    · cases h
  · cases h

theorem bounds_run {ι : Io} {lo hi mx : Option Operand} {e : Env} {a : Act} (isS : Bool) (w : World) (hE : RelE ι e a.tmps) {len cap C l h m : Nat} (hc : cap ≤ C)
    (hb : bounds3 len cap ((lo.map ao).map (·.ev e)) ((hi.map ao).map (·.ev e)) ((mx.map ao).map (·.ev e)) = some (l, h, m)) :
    ∃ M, (Instr.sliceBounds isS len C (lo.map a.eval) (hi.map a.eval) (mx.map a.eval)).run P w = .ok (l, h, M) w ∧ l ≤ h ∧ (hi = none → h = len) ∧ (hi ≠ none → h ≤ m) ∧
      ((mx = none ∧ M = C ∧ m = cap) ∨ (mx ≠ none ∧ M = m ∧ m ≤ cap ∧ hi ≠ none)) := by
  unfold bounds3 at hb
  simp only [Option.bind_eq_bind, Option.bind_eq_some_iff] at hb
  obtain ⟨m', hm, h', hh, hb⟩ := hb
  split at hb
  · cases hb
  rename_i hmh
  simp only [Option.bind_eq_some_iff] at hb
  obtain ⟨l', hl, hb⟩ := hb
  simp only [Option.some.injEq, Prod.mk.injEq] at hb
  obtain ⟨rfl, rfl, rfl⟩ := hb
  cases mx with
  | none =>
    simp [bound] at hm
    subst hm
    cases hi with
    | none =>
      simp [bound] at hh
      subst hh
      cases lo with
      | none =>
        simp [bound] at hl
        subst hl
        exact ⟨C, by simp [Instr.sliceBounds], by omega, fun _ => rfl, fun h => absurd rfl h, .inl ⟨rfl, rfl, rfl⟩⟩
      | some lo =>
        have := bound_run (P := P) (code := .sliceB) w (ao_rel hE lo) (by simpa using hl) (Nat.le_refl _)
        exact ⟨C, by simp [Instr.sliceBounds, this.1], this.2, fun _ => rfl, fun h => absurd rfl h, .inl ⟨rfl, rfl, rfl⟩⟩
    | some hi =>
      have h1 := bound_run (P := P) (code := if isS then .sliceAcap else .sliceAlen) w (ao_rel hE hi) (by simpa using hh) hc
      cases lo with
      | none =>
        simp [bound] at hl
        subst hl
        exact ⟨C, by simp [Instr.sliceBounds, h1.1], by omega, fun h => by simp at h, fun _ => h1.2, .inl ⟨rfl, rfl, rfl⟩⟩
      | some lo =>
        have := bound_run (P := P) (code := .sliceB) w (ao_rel hE lo) (by simpa using hl) (Nat.le_refl _)
        exact ⟨C, by simp [Instr.sliceBounds, h1.1, this.1], this.2, fun h => by simp at h, fun _ => h1.2, .inl ⟨rfl, rfl, rfl⟩⟩
  | some mx =>
    have h0 := bound_run (P := P) (code := if isS then .slice3Acap else .slice3Alen) w (ao_rel hE mx) (by simpa using hm) hc
    cases hi with
    | none => simp at hmh
    | some hi =>
      have h1 := bound_run (P := P) (code := .slice3B) w (ao_rel hE hi) (by simpa using hh) (Nat.le_refl _)
      cases lo with
      | none =>
        simp [bound] at hl
        subst hl
        exact ⟨m', by simp [Instr.sliceBounds, h0.1, h1.1], by omega, fun h => by simp at h, fun _ => h1.2, .inr ⟨by simp, rfl, h0.2, by simp⟩⟩
      | some lo =>
        have := bound_run (P := P) (code := .slice3C) w (ao_rel hE lo) (by simpa using hl) (Nat.le_refl _)
        exact ⟨m', by simp [Instr.sliceBounds, h0.1, h1.1, this.1], this.2, fun h => by simp at h, fun _ => h1.2, .inr ⟨by simp, rfl, h0.2, by simp⟩⟩

theorem sim_slcS {o : Oper} (t : TypeId) (x : Operand) (lo hi : Option Operand) (ho : o.op = .slice t x lo hi none) (hu : P.underlying t = some .string) : OpSim P base o (.slcS (ao x) (lo.map ao) (hi.map ao)) := by
  refine OpSim.val (fun ρ => Instr.sliceAt t (ρ x) (lo.map ρ) (hi.map ρ) none) (fun e => match (ao x).ev e with
    | .str s => (bounds3 s.size s.size ((lo.map ao).map (·.ev e)) ((hi.map ao).map (·.ev e)) none).map fun (l, h, _) => .str (s.extract l h)
    | _ => none) (fun e => rfl) (fun ρ => by simp [execOp, ho]) ?_
  intro ι e a w r hE hr
  have hx := ao_rel hE x
  split at hr
  · rename_i s hp
    rw [hp] at hx
    rw [rel_str hx]
    cases hb : bounds3 s.size s.size ((lo.map ao).map (·.ev e)) ((hi.map ao).map (·.ev e)) none with
    | none => rw [hb] at hr; cases hr
    | some q =>
      obtain ⟨l, h, m⟩ := q
      rw [hb] at hr
      simp only [Option.map_some, Option.some.injEq] at hr; subst hr
      obtain ⟨M, h1, _⟩ := bounds_run (P := P) (mx := none) false w hE (Nat.le_refl _) hb
      simp only [Option.map_none] at h1
      exact ⟨.string (s.extract l h), by simp [Instr.sliceAt, run_underlying hu, Instr.slice, h1], .str _⟩
  · cases hr

theorem sim_slcA {o : Oper} (t el : TypeId) (n s : Nat) (x : Operand) (lo hi mx : Option Operand) (ho : o.op = .slice t x lo hi mx) (hu : P.underlying t = some (.array n el)) (hs : sz P el = some s) :
    OpSim P base o (.slcA n s (ao x) (lo.map ao) (hi.map ao) (mx.map ao)) := by
  refine OpSim.val (fun ρ => Instr.sliceAt t (ρ x) (lo.map ρ) (hi.map ρ) (mx.map ρ)) (fun e => match (ao x).ev e with
    | .ptr (some a) => (bounds3 n n ((lo.map ao).map (·.ev e)) ((hi.map ao).map (·.ev e)) ((mx.map ao).map (·.ev e))).bind fun (l, h, m) =>
        some (.slc (some (moved a l s)) (h - l) (m - l) true 0)
    | _ => none) (fun e => rfl) (fun ρ => by simp [execOp, ho]) ?_
  intro ι e a w r hE hr
  have hx := ao_rel hE x
  split at hr
  · rename_i p hp
    obtain ⟨b, c⟩ := p
    rw [hp] at hx
    obtain ⟨q, hq, hv⟩ := rel_ptr hx
    rw [hv]
    cases hb : bounds3 n n ((lo.map ao).map (·.ev e)) ((hi.map ao).map (·.ev e)) ((mx.map ao).map (·.ev e)) with
    | none => rw [hb] at hr; cases hr
    | some z =>
      obtain ⟨l, h, m⟩ := z
      rw [hb] at hr
      simp only [Option.bind_some, Option.some.injEq] at hr; subst hr
      obtain ⟨M, h1, h2, h3, h4, h5⟩ := bounds_run (P := P) false w hE (Nat.le_refl _) hb
      have hMm : M = m ∧ m ≤ n := by rcases h5 with ⟨_, a, b⟩ | ⟨_, a, b, _⟩ <;> omega
      obtain ⟨rfl, hmn⟩ := hMm
      have hhm : h ≤ M := by
        by_cases e' : hi = none
        · rcases h5 with ⟨_, a, b⟩ | ⟨_, a, b, hh⟩
          · have := h3 e'; omega
          · exact absurd e' hh
        · exact h4 e'
      refine ⟨.slice (some (if M = l then (⟨q.B, q.O + c, none⟩ : Addr) else (⟨q.B, q.O + c, none⟩ : Addr).add (l * s))) (h - l) (M - l), ?_, ?_⟩
      · simp [Instr.sliceAt, run_underlying hu, Instr.sureAddr, h1, sz_run hs]
      · refine .slc hq (by omega) (Nat.le_refl _) (fun _ => rfl) ?_
        by_cases e' : M = l
        · left; omega
        · right; rw [if_neg e', addr_add]; exact ⟨by rw [Nat.add_assoc], .inl rfl⟩
  · cases hr

theorem sim_slc {o : Oper} (t el : TypeId) (s : Nat) (x : Operand) (lo hi mx : Option Operand) (ho : o.op = .slice t x lo hi mx) (hu : P.underlying t = some (.slice el)) (hs : sz P el = some s) :
    OpSim P base o (.slc s (ao x) (lo.map ao) (hi.map ao) (mx.map ao)) := by
  refine OpSim.val (fun ρ => Instr.sliceAt t (ρ x) (lo.map ρ) (hi.map ρ) (mx.map ρ)) (fun e => match (ao x).ev e with
    | .slc a len cap ex es => (bounds3 len cap ((lo.map ao).map (·.ev e)) ((hi.map ao).map (·.ev e)) ((mx.map ao).map (·.ev e))).bind fun (l, h, m) =>
        match a with
        | none => some (.slc none (h - l) (m - l) (ex || (mx.map ao).isSome) es)
        | some a => bif Nat.beq es 0 || Nat.beq es s then some (.slc (some (moved a l s)) (h - l) (m - l) (ex || (mx.map ao).isSome) es) else none
    | _ => none) (fun e => rfl) (fun ρ => by simp [execOp, ho]) ?_
  intro ι e a w r hE hr
  have hx := ao_rel hE x
  split at hr
  · rename_i A len cap ex es hp
    rw [hp] at hx
    cases hb : bounds3 len cap ((lo.map ao).map (·.ev e)) ((hi.map ao).map (·.ev e)) ((mx.map ao).map (·.ev e)) with
    | none => rw [hb] at hr; cases hr
    | some z =>
      obtain ⟨l, h, m⟩ := z
      rw [hb] at hr
      simp only [Option.bind_some] at hr
      generalize a.eval x = X at hx ⊢
      have hmx : (mx.map ao).isSome = mx.isSome := by cases mx <;> rfl
      rw [hmx] at hr
      cases hx with
      | slcN =>
        obtain ⟨M, h1, h2, h3, h4, h5⟩ := bounds_run (P := P) true w hE (Nat.le_refl 0) hb
        simp only [Option.some.injEq] at hr; subst hr
        have hz : l = 0 ∧ h = 0 ∧ m = 0 := by
          have : m = 0 := by rcases h5 with ⟨_, a, b⟩ | ⟨_, a, b, _⟩ <;> omega
          have : h = 0 := by
            by_cases e' : hi = none
            · exact h3 e'
            · have := h4 e'; omega
          omega
        obtain ⟨rfl, rfl, rfl⟩ := hz
        refine ⟨.slice none 0 M, ?_, ?_⟩
        · simp [Instr.sliceAt, run_underlying hu, Instr.slice, h1, sz_run hs]
        · have : M = 0 := by rcases h5 with ⟨_, a, _⟩ | ⟨_, a, _⟩ <;> exact a
          subst this
          exact .slcN
      | slc g1 g2 g3 g4 g5 =>
        rename_i b o' C A' q
        obtain ⟨M, h1, h2, h3, h4, h5⟩ := bounds_run (P := P) true w hE g3 hb
        simp only [cond_eq_ite, Bool.or_eq_true, Nat.beq_eq] at hr
        split at hr
        · rename_i hes
          simp only [Option.some.injEq] at hr; subst hr
          have hmM : m ≤ M ∧ M ≤ C ∧ m ≤ cap := by rcases h5 with ⟨_, a, b⟩ | ⟨_, a, b, _⟩ <;> omega
          have hhm : h ≤ m := by
            by_cases e' : hi = none
            · rcases h5 with ⟨_, a, b⟩ | ⟨_, a, b, hh⟩
              · have := h3 e'; omega
              · exact absurd e' hh
            · exact h4 e'
          refine ⟨.slice (some (if M = l then A' else A'.add (l * s))) (h - l) (M - l), ?_, ?_⟩
          · simp only [Instr.sliceAt, Sem.run_bind, run_underlying hu, Result.andThen_ok, Instr.slice, h1, sz_run hs, Sem.run_pure]
            congr 2
            split <;> rfl
          · refine .slc g1 (by omega) (by omega) ?_ ?_
            · intro he
              simp only [Bool.or_eq_true] at he
              rcases h5 with ⟨hm, a, b⟩ | ⟨_, a, _⟩
              · subst hm
                rcases he with he | he
                · have := g4 he; omega
                · simp at he
              · omega
            · by_cases e' : M = l
              · left; omega
              · rcases g5 with g5 | ⟨rfl, g5⟩
                · left; omega
                · right
                  rw [if_neg e', addr_add]
                  refine ⟨by simp only [moved]; rw [Nat.add_assoc], ?_⟩
                  rcases hes with hes | hes
                  · exact .inl hes
                  · rcases g5 with g5 | g5
                    · exact .inl g5
                    · right
                      subst hes
                      simp only [moved]
                      have e1 : l * es + (M - l) * es = M * es := by rw [← Nat.add_mul]; congr 1; omega
                      have e2 : M * es ≤ C * es := Nat.mul_le_mul_right _ hmM.2.1
                      omega
        · cases hr
  · cases hr

/-! ### min and max -/
theorem mm_none (mx : Bool) (k : IntKind) : ∀ (l : List AV), l.foldl (mmStep mx k) none = none
  | [] => rfl
  | _ :: l => mm_none mx k l
theorem fold_rel {ι : Io} (mx : Bool) (k : IntKind) (w : World) : ∀ (l : List AV) (l' : List Value) (x y : Int), RelL ι l l' →
    l.foldl (mmStep mx k) (some x) = some y → (l'.foldlM (if mx then Builtin.max2 else Builtin.min2) (.int k x)).run P w = .ok (.int k y) w
  | [], [], x, y, _, h => by simp at h; subst h; rfl
  | [], _ :: _, x, y, hl, h => by have := hl.1; simp at this
  | _ :: _, [], x, y, hl, h => by have := hl.1; simp at this
  | a :: l, v :: l', x, y, hl, h => by
    simp only [List.foldl_cons] at h
    cases a with
    | int k' z =>
      simp only [mmStep] at h
      split at h
      · rename_i hk
        subst hk
        have hv := rel_int hl.head
        subst hv
        have ih := fold_rel mx k' w l l' _ y hl.tail h
        simp only [List.foldlM_cons, Sem.run_bind]
        cases mx
        · simpa [Builtin.min2] using ih
        · simpa [Builtin.max2] using ih
      · rw [mm_none] at h; cases h
    | _ => simp only [mmStep] at h; rw [mm_none] at h; cases h

theorem sim_mnx {o : Oper} (mx : Bool) (c : Call) (ho : o.op = .call c) (hb : c.callee = .builtin (if mx then .max else .min)) : OpSim P base o (.mnx mx (c.args.toList.map ao)) := by
  refine OpSim.val (fun ρ => (if mx then Builtin.max_ else Builtin.min_) c.argTypes o.type (c.args.map ρ)) (fun e => minmax mx ((c.args.toList.map ao).map (·.ev e))) (fun e => rfl)
    (fun ρ => by obtain ⟨cs, h⟩ := run_builtin ho hb ρ; rw [h]; cases mx <;> rfl) ?_
  intro ι e a w r hE hr
  have hl := ao_relL hE c.args.toList
  have hargs : (c.args.map a.eval).toList = c.args.toList.map a.eval := by simp
  generalize hL : (c.args.toList.map ao).map (·.ev e) = L at hl hr
  generalize hV : c.args.toList.map a.eval = V at hl hargs
  cases L with
  | nil => simp [minmax] at hr
  | cons x L =>
    cases V with
    | nil => have := hl.1; simp at this
    | cons v V =>
      cases x <;> simp only [minmax, reduceCtorEq] at hr
      rename_i k z
      have hv := rel_int hl.head
      subst hv
      cases hf : L.foldl (mmStep mx k) (some z) with
      | none => rw [hf] at hr; simp at hr
      | some y =>
        rw [hf] at hr
        simp at hr; subst hr
        have := fold_rel (P := P) mx k w L V z y hl.tail hf
        refine ⟨.int k y, ?_, .int _ _⟩
        cases mx
        · simp only [Bool.false_eq_true, if_false, Builtin.min_, hargs] at this ⊢; exact this
        · simp only [if_true, Builtin.max_, hargs] at this ⊢; exact this
end Go.Ax
