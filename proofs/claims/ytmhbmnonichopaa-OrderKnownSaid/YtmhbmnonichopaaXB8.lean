/-
  Operations on maps.
-/
import Derived.Test.YtmhbmnonichopaaXB7
namespace Go.Ax

variable {P : Program} {base : Nat}

theorem RelS.map {ι : Io} {h : H} {w : World} (hS : RelS P base ι h w) {r : Nat} {es : List AEnt} {c : Nat} (hb : h.get r = some (.map es c)) :
    ∃ p es', ι r = some p ∧ w.heap[p.B]? = some (.map es' c) ∧ RelEs ι es es'.toList := by
  obtain ⟨p, hp, _, _, es', h1, h2⟩ := hS.blk r _ hb
  exact ⟨p, es', hp, h1, h2⟩

/-- a block that is no row of cells -/
def Obj.boxed : Obj → Bool
  | .cells .. => false
  | _ => true
theorem getObj_of {w : World} {r : Nat} {es : Array MapEntry} {c : Nat} (h : w.heap[r]? = some (.map es c)) : (getObj r).run P w = .ok (.map es c) w := by simp [getObj, Sem.run, h]
theorem setObj_of {w : World} {r : Nat} {o : Obj} (o' : Obj) (h : w.heap[r]? = some o) (hb : Obj.boxed o = true) : (setObj r o').run P w = .ok () (w.putObj r o') := by
  cases o <;> first | (simp [Obj.boxed] at hb; done) | simp [setObj, Sem.run, h, World.putObj]

theorem RelEs.nil {ι : Io} : RelEs ι [] [] := ⟨rfl, fun i x y h => by simp at h⟩
theorem RelEs.head {ι : Io} {x : AEnt} {y : MapEntry} {l : List AEnt} {l' : List MapEntry} (h : RelEs ι (x :: l) (y :: l')) : RelEnt ι x y := h.2 0 x y rfl rfl
theorem RelEs.tail {ι : Io} {x : AEnt} {y : MapEntry} {l : List AEnt} {l' : List MapEntry} (h : RelEs ι (x :: l) (y :: l')) : RelEs ι l l' :=
  ⟨by simpa using h.1, fun i a b ha hb => h.2 (i + 1) a b (by simpa using ha) (by simpa using hb)⟩
theorem RelEs.get {ι : Io} {a : List AEnt} {a' : List MapEntry} (h : RelEs ι a a') {i : Nat} {x : AEnt} (hx : a[i]? = some x) : ∃ v, a'[i]? = some v ∧ RelEnt ι x v := by
  have hi : i < a'.length := by rw [← h.1]; exact (List.getElem?_eq_some_iff.1 hx).1
  exact ⟨a'[i], List.getElem?_eq_getElem hi, h.2 i x _ hx (List.getElem?_eq_getElem hi)⟩
theorem RelEs.push {ι : Io} {l : List AEnt} {l' : List MapEntry} {x : AEnt} {y : MapEntry} (h : RelEs ι l l') (hx : RelEnt ι x y) : RelEs ι (l ++ [x]) (l' ++ [y]) :=
  ⟨by simp [h.1], fun i a b ha hb => by
    rw [List.getElem?_append] at ha hb
    rw [← h.1] at hb
    split at ha
    · rename_i hi; rw [if_pos hi] at hb; exact h.2 i a b ha hb
    · rename_i hi
      rw [if_neg hi] at hb
      rw [List.getElem?_singleton] at ha hb
      split at ha
      · rename_i e; rw [if_pos e] at hb; cases ha; cases hb; exact hx
      · cases ha⟩
theorem RelEs.modify {ι : Io} {l : List AEnt} {l' : List MapEntry} {f : AEnt → AEnt} {g : MapEntry → MapEntry} (i : Nat) (h : RelEs ι l l') (hf : ∀ x y, RelEnt ι x y → RelEnt ι (f x) (g y)) : RelEs ι (l.modify i f) (l'.modify i g) :=
  ⟨by simp [h.1], fun j a b ha hb => by
    rw [List.getElem?_modify] at ha hb
    cases hx : l[j]? with
    | none => rw [hx] at ha; cases ha
    | some x =>
      obtain ⟨y, hy, hr⟩ := h.get hx
      rw [hx] at ha
      rw [hy] at hb
      simp only [Option.map_eq_map, Option.map_some, Option.some.injEq] at ha hb
      subst ha; subst hb
      split
      · exact hf x y hr
      · exact hr⟩
theorem RelEs.erase {ι : Io} {l : List AEnt} {l' : List MapEntry} (i : Nat) (h : RelEs ι l l') : RelEs ι (l.eraseIdx i) (l'.eraseIdx i) :=
  ⟨by simp [List.length_eraseIdx, h.1], fun j a b ha hb => by
    rw [List.getElem?_eraseIdx] at ha hb
    split at ha
    · rename_i hj; rw [if_pos hj] at hb; exact h.2 j a b ha hb
    · rename_i hj; rw [if_neg hj] at hb; exact h.2 _ a b ha hb⟩

def RelFound (ι : Io) : Option (Nat × AV) → Option (Nat × Value) → Prop
  | none, none => True
  | some (i, v), some (j, u) => i = j ∧ RelV ι v u
  | _, _ => False

section find
variable {ι : Io} {kt : TypeId} {ag : Bool} {ks : List Leaf} {k : AV} {K : Value}

theorem keyKind_inv (h : keyKind P kt = some (ag, ks)) : leaves P 8 kt = some ks ∧ ∃ a, agn P kt = some a ∧ a.isSome = ag := by
  unfold keyKind at h
  split at h
  · rename_i l a h1 h2
    simp only [Option.some.injEq, Prod.mk.injEq] at h
    obtain ⟨rfl, rfl⟩ := h
    exact ⟨h1, a, h2, rfl⟩
  · cases h

theorem findAsk_ok (w : World) (hk : keyKind P kt = some (ag, ks)) (hK : RelV ι k K) : ∀ (es : List AEnt) (es' : List MapEntry) (i : Nat) (r : Option (Nat × AV)), RelEs ι es es' → findE ag ks k es i = some r →
    ∃ r', (Instr.findAsking kt K es' i).run P w = .ok r' w ∧ RelFound ι r r'
  | [], [], i, r, _, h => by simp [findE] at h; subst h; exact ⟨none, by simp [Instr.findAsking], trivial⟩
  | [], _ :: _, i, r, hr, h => by have := hr.1; simp at this
  | _ :: _, [], i, r, hr, h => by have := hr.1; simp at this
  | x :: es, y :: es', i, r, hr, h => by
    obtain ⟨hl, hag⟩ := keyKind_inv hk
    obtain ⟨h1, h2, h3⟩ := hr.head
    simp only [findE] at h
    split at h
    · rename_i he
      simp only [Option.some.injEq] at h; subst h
      have heq : (Op.equal kt K y.key).run P w = .ok true w := eq_of_leaves (P := P) (D := 10000) w hl hag (by omega) hK h1 he
      exact ⟨some (i, y.val), by simp [Instr.findAsking, heq], rfl, h2⟩
    · rename_i he
      have heq : (Op.equal kt K y.key).run P w = .ok false w := eq_of_leaves (P := P) (D := 10000) w hl hag (by omega) hK h1 he
      obtain ⟨r', h4, h5⟩ := findAsk_ok w hk hK es es' (i + 1) r hr.tail h
      exact ⟨r', by simp [Instr.findAsking, heq, h4], h5⟩
    · cases h

theorem findNow_ok {d : TypeDesc} (hn : ∀ (x : AV) (X : Value) (b : Bool), RelV ι x X → eqAV ag ks k x = some b → Instr.sameNow d K X = some b) : ∀ (es : List AEnt) (es' : List MapEntry) (i : Nat) (r : Option (Nat × AV)), RelEs ι es es' → findE ag ks k es i = some r →
    ∃ r', Instr.findNow d K es' i = some r' ∧ RelFound ι r r'
  | [], [], i, r, _, h => by simp [findE] at h; subst h; exact ⟨none, by simp [Instr.findNow], trivial⟩
  | [], _ :: _, i, r, hr, h => by have := hr.1; simp at this
  | _ :: _, [], i, r, hr, h => by have := hr.1; simp at this
  | x :: es, y :: es', i, r, hr, h => by
    obtain ⟨h1, h2, h3⟩ := hr.head
    simp only [findE] at h
    split at h
    · rename_i he
      simp only [Option.some.injEq] at h; subst h
      exact ⟨some (i, y.val), by simp [Instr.findNow, hn _ _ _ h1 he], rfl, h2⟩
    · rename_i he
      obtain ⟨r', h4, h5⟩ := findNow_ok hn es es' (i + 1) r hr.tail h
      exact ⟨r', by simp [Instr.findNow, hn _ _ _ h1 he, h4], h5⟩
    · cases h

theorem findKey_ok (w : World) (hk : keyKind P kt = some (ag, ks)) (hK : RelV ι k K) {es : List AEnt} {es' : List MapEntry} {r : Option (Nat × AV)} (hr : RelEs ι es es') (h : findE ag ks k es 0 = some r) :
    ∃ r', (Instr.findKey kt K es').run P w = .ok r' w ∧ RelFound ι r r' := by
  obtain ⟨hl, a, ha, hs⟩ := keyKind_inv hk
  have hu := leaves_und hl
  obtain ⟨d, hd⟩ := Option.isSome_iff_exists.1 hu
  by_cases hwide : (match P.underlying kt with | some (.array _ _) | some (.struct _) => true | _ => false) = true
  · rw [run_findKey_eq w hwide K es']
    exact findAsk_ok w hk hK es es' 0 r hr h
  · have hag : ag = false := by
      rw [← hs]
      unfold agn at ha
      rw [hd] at ha hwide
      cases d <;> simp at ha hwide <;> (subst ha; rfl)
    subst hag
    have hn : ∀ (x : AV) (X : Value) (b : Bool), RelV ι x X → eqAV false ks k x = some b → Instr.sameNow d K X = some b := by
      intro x X b hx hb
      have hl : leaves P (7 + 1) kt = some ks := hl
      simp only [leaves] at hl
      rw [hd] at hl hwide
      have hb' : leafsEq ks [k] [x] = some b := by simpa [eqAV] using hb
      cases d <;> simp at hl hwide
      · subst hl
        obtain ⟨p, q, e1, e2, rfl⟩ := leaf_bool (.cons hK .nil) (.cons hx .nil) hb'
        simp only [List.cons.injEq, and_true] at e1 e2
        subst e1; subst e2; rfl
      · subst hl
        obtain ⟨k', p, q, e1, e2, rfl⟩ := leaf_int (.cons hK .nil) (.cons hx .nil) hb'
        simp only [List.cons.injEq, and_true] at e1 e2
        subst e1; subst e2; simp [Instr.sameNow]
      · subst hl
        obtain ⟨p, q, e1, e2, rfl⟩ := leaf_str (.cons hK .nil) (.cons hx .nil) hb'
        simp only [List.cons.injEq, and_true] at e1 e2
        subst e1; subst e2; rfl
    obtain ⟨r', h1, h2⟩ := findNow_ok hn es es' 0 r hr h
    refine ⟨r', ?_, h2⟩
    simp [Instr.findKey, run_underlying hd, h1]

theorem checkKey_ok (w : World) (hk : keyKind P kt = some (ag, ks)) (hK : RelV ι k K) (em : Bool) (h : keyOk ag ks k = true) : (Instr.checkKey em 10000 kt K).run P w = .ok () w := by
  obtain ⟨hl, a, ha, hs⟩ := keyKind_inv hk
  have hb : eqAV ag ks k k = some true := by simpa [keyOk] using h
  have hb' : ∃ xs X b, RelL ι xs X ∧ leafsEq ks xs xs = some b ∧ K = packV a X := by
    cases ag with
    | true =>
      cases k <;> simp [eqAV] at hb
      rename_i zs
      obtain ⟨Z, rfl, hz⟩ := hK.aggC
      obtain ⟨n, rfl⟩ := Option.isSome_iff_exists.1 hs
      exact ⟨zs, Z.toList, true, hz.1, hb, by simp [packV]⟩
    | false =>
      obtain rfl : a = none := by simpa using hs
      exact ⟨[k], [K], true, .cons hK .nil, by simpa [eqAV] using hb, rfl⟩
  obtain ⟨xs, X, b, g1, g2, rfl⟩ := hb'
  exact leaves_ckOk 8 kt ks hl 10000 (by omega) ι w em a xs X b ha g1 g2

theorem leafs_same : ∀ {ks : List Leaf} {xs ys : List AV} {X Y : List Value}, leafsEq ks xs ys = some true → RelL ι xs X → RelL ι ys Y → X = Y ∧ ∀ v ∈ X, ∀ n, Instr.sameBits n v v = true
  | [], [], [], X, Y, _, hx, hy => by
    have h1 := hx.1; have h2 := hy.1
    simp at h1 h2
    have := List.length_eq_zero_iff.1 h1.symm
    have := List.length_eq_zero_iff.1 h2.symm
    subst X; subst Y; simp
  | [], [], _ :: _, _, _, h, _, _ => by simp [leafsEq] at h
  | [], _ :: _, _, _, _, h, _, _ => by simp [leafsEq] at h
  | _ :: _, [], _, _, _, h, _, _ => by simp [leafsEq] at h
  | _ :: _, _ :: _, [], _, _, h, _, _ => by simp [leafsEq] at h
  | q :: ks, x :: xs, y :: ys, X, Y, h, hx, hy => by
    cases X with
    | nil => have := hx.1; simp at this
    | cons u X => cases Y with
      | nil => have := hy.1; simp at this
      | cons v Y =>
        simp only [leafsEq] at h
        split at h
        · rename_i b1 b2 h1 h2
          simp only [Option.some.injEq, Bool.and_eq_true] at h
          obtain ⟨rfl, rfl⟩ := h
          obtain ⟨rfl, h4⟩ := leafs_same h2 hx.tail hy.tail
          have h5 : u = v ∧ ∀ n, Instr.sameBits n u u = true := by
            have hu := hx.head
            have hv := hy.head
            cases q <;> cases x <;> cases y <;> simp [leafEq] at h1
            · rw [rel_bool hu, rel_bool hv, h1]; exact ⟨rfl, fun n => by cases n <;> simp [Instr.sameBits]⟩
            · obtain ⟨rfl, rfl⟩ := h1
              rw [rel_int hu, rel_int hv]; exact ⟨rfl, fun n => by cases n <;> simp [Instr.sameBits]⟩
            · rename_i b c
              have e : b = c := by
                rw [beq_toListBytes, beq_iff_eq, ByteArray.toList_eq, ByteArray.toList_eq] at h1
                cases b; cases c; congr 1; exact Array.ext' h1
              subst e
              rw [rel_str hu, rel_str hv]; exact ⟨rfl, fun n => by cases n <;> simp [Instr.sameBits, beq_toListBytes]⟩
          obtain ⟨rfl, h6⟩ := h5
          refine ⟨rfl, fun z hz => ?_⟩
          rcases List.mem_cons.1 hz with rfl | hz
          · exact h6
          · exact h4 z hz
        · cases h

theorem stays_ok (w : World) {x : AV} {X : Value} (hK : RelV ι k K) (hX : RelV ι x X) (h : eqAV ag ks k x = some true) : (Instr.keyThatStays X K).run P w = .ok K w := by
  obtain ⟨a, xs, ys, X', Y', h1, h2, h3, h4, rfl, rfl, h7⟩ := rel_eqAV hK hX h
  obtain ⟨rfl, hall⟩ := leafs_same h4 h2 h3
  have : Instr.sameBits 10000 (packV a X') (packV a X') = true := by
    cases a with
    | none =>
      cases X' with
      | nil => have := h7 rfl; simp at this
      | cons v l => simpa [packV] using hall v (by simp) 10000
    | some n =>
      show ((X'.toArray.size == X'.toArray.size) && (X'.toArray.toList.zip X'.toArray.toList).all fun (x, y) => Instr.sameBits 9999 x y) = true
      simp only [beq_self_eq_true, Bool.true_and, List.all_eq_true]
      intro p hp
      obtain ⟨i, hi, rfl⟩ := List.mem_iff_getElem.1 hp
      simp only [List.getElem_zip]
      exact hall _ (List.getElem_mem _) 9999
  simp [Instr.keyThatStays, this]
end find

theorem findE_found {ag : Bool} {ks : List Leaf} {k : AV} : ∀ (es : List AEnt) (i : Nat) (j : Nat) (v : AV), findE ag ks k es i = some (some (j, v)) → ∃ x, i ≤ j ∧ es[j - i]? = some x ∧ eqAV ag ks k x.key = some true ∧ x.val = v
  | [], i, j, v, h => by simp [findE] at h
  | x :: es, i, j, v, h => by
    simp only [findE] at h
    split at h
    · rename_i he
      simp only [Option.some.injEq, Prod.mk.injEq] at h
      obtain ⟨rfl, rfl⟩ := h
      exact ⟨x, Nat.le_refl _, by simp, he, rfl⟩
    · obtain ⟨y, h1, h2, h3, h4⟩ := findE_found es (i + 1) j v h
      refine ⟨y, by omega, ?_, h3, h4⟩
      rw [show j - i = (j - (i + 1)) + 1 from by omega]
      simpa using h2
    · cases h

/-- what a map's block turns into -/
theorem RelS.putMap {ι : Io} {h : H} {w : World} (hS : RelS P base ι h w) {r : Nat} {es es2 : List AEnt} {c c2 : Nat} (hb : h.get r = some (.map es c)) {p : Pl} (hp : ι r = some p) {es2' : Array MapEntry} (hr : RelEs ι es2 es2'.toList) :
    ∃ w', (∀ W : World, W = w → (setObj p.B (.map es2' c2)).run P W = .ok () w') ∧ RelS P base ι (h.put r (.map es2 c2)) w' ∧ StepR ι h w ι (h.put r (.map es2 c2)) w' := by
  obtain ⟨q, es', hq, hheap, hrel⟩ := hS.map hb
  rw [hp] at hq; cases hq
  have hlt : p.B < w.heap.size := (Array.getElem?_eq_some_iff.1 hheap).1
  have hbase : base ≤ p.B := by obtain ⟨q, hq, _, hr⟩ := hS.blk r _ hb; rw [hp] at hq; cases hq; exact hr.base rfl
  refine ⟨w.putObj p.B (.map es2' c2), fun W hW => by subst hW; exact setObj_of _ hheap rfl, hS.put hb rfl hp (by simp [World.putObj]) (fun k hk => World.putObj_heap_other hk) ?_⟩
  exact ⟨hbase, es2', World.putObj_heap_same hlt, hr⟩

theorem rel_map {ι : Io} {r : Nat} {v : Value} (h : RelV ι (.map (some r)) v) : ∃ p, ι r = some p ∧ v = .map (some p.B) := by cases h; exact ⟨_, by assumption, rfl⟩
theorem rel_mapN {ι : Io} {v : Value} (h : RelV ι (.map none) v) : v = .map none := by cases h; rfl

theorem sim_lenM {o : Oper} (c : Call) (t kt et : TypeId) (x : Operand) (ho : o.op = .call c) (hb : c.callee = .builtin .len) (ha : c.args.toList = [x]) (ht : c.argTypes[0]? = some t) (hu : P.underlying t = some (.map kt et)) :
    OpSim P base o (.lenM (ao x)) := by
  intro ι e h w a aid v h' fp hS hbw hE hn hr
  have hx := ao_rel hE x
  have hrun : ∀ W v W', (Builtin.len_ c.argTypes o.type #[a.eval x]).run P W = .ok v W' → (execOp a.eval o).run P W = .ok (.value v) W' := by
    intro W v W' hW
    obtain ⟨cs, he⟩ := run_builtin ho hb a.eval
    rw [he, args_one ha]
    simp [builtin, hW]
  simp only [opLoc] at hr
  split at hr
  · rename_i hp
    rw [hp] at hx
    rw [Loc.run_val] at hr
    simp only [Option.map_some, Option.some.injEq, Prod.mk.injEq] at hr
    obtain ⟨rfl, rfl, _⟩ := hr
    exact ⟨_, _, w, ι, hrun _ (.int .i64 0) _ (by rw [rel_mapN hx]; simp [Builtin.len_, ht, run_underlying hu, goInt]), .inl rfl, .int _ _, hS, .refl _ _ _⟩
  · rename_i r hp
    rw [hp] at hx
    obtain ⟨bs, v0, ups, nw, hg, hf, hcase⟩ := Loc.run_inv hr
    obtain ⟨blk, hbr, rfl⟩ := getAll_one hg
    simp only at hf
    split at hf
    · rename_i es cl heq
      simp only [List.cons.injEq, and_true] at heq; subst heq
      simp only [Option.some.injEq, Prod.mk.injEq] at hf
      obtain ⟨rfl, rfl, rfl⟩ := hf
      rcases hcase with ⟨_, rfl, rfl⟩ | ⟨r, hx'', _⟩
      · obtain ⟨p, hp', hv⟩ := rel_map hx
        obtain ⟨q, es', hq, hheap, hrel⟩ := hS.map hbr
        rw [hp'] at hq; cases hq
        refine ⟨_, _, w, ι, hrun _ (.int .i64 es'.size) _ ?_, .inl rfl, ?_, hS, .refl _ _ _⟩
        · rw [hv]; simp [Builtin.len_, ht, run_underlying hu, goInt, getObj_of hheap]
        · have := hrel.1; simp at this; rw [this]; exact .int _ _
      · cases hx''
    · cases hf
  · rw [Loc.run_no] at hr; cases hr

theorem sim_mkmap {o : Oper} (t : TypeId) (ho : o.op = .makeMap t none) : OpSim P base o .mkmap := by
  intro ι e h w a aid v h' fp hS hbw hE hn hr
  obtain ⟨bs, v0, ups, nw, hg, hf, hcase⟩ := Loc.run_inv hr
  simp only [opLoc, Option.some.injEq, Prod.mk.injEq] at hf
  obtain ⟨rfl, rfl, rfl⟩ := hf
  rcases hcase with ⟨hx', _⟩ | ⟨x, hx', rfl, rfl⟩
  · cases hx'
  · simp only [Option.some.injEq] at hx'; subst hx'
    have := hS.fresh hbw hn (.map #[] 0) ⟨w.heap.size, 0, 0⟩ rfl (x := .map [] 0) ⟨hbw, #[], heap_alloc_at _ _, .nil⟩
    refine ⟨.value (.map (some w.heap.size)), .map (some w.heap.size), _, _, ?_, .inl rfl, ?_, this.1, this.2⟩
    · simp only [execOp, ho, Sem.run_bind, Instr.makeMap, Option.map_none]
      rfl
    · exact .map (Io.put_same _ _ _)

theorem sim_look {o : Oper} (t kt et : TypeId) (m k : Operand) (ok : Bool) (ag : Bool) (ks : List Leaf) (z : AV) (ho : o.op = .lookup t m k ok) (hu : P.underlying t = some (.map kt et)) (hk : keyKind P kt = some (ag, ks)) (hz : zeroA P et = some z) :
    OpSim P base o (.look ag ks z (ao m) (ao k) ok) := by
  intro ι e h w a aid v h' fp hS hbw hE hn hr
  have hm := ao_rel hE m
  have hK := ao_rel hE k
  obtain ⟨zv, hz1, hz2⟩ := zeroA_rel hz
  have tup : ∀ (u : AV) (U : Value) (b : Bool), RelV ι u U → RelV ι (bif ok then .tup [u, .bool b] else u) (if ok then .tuple #[U, .bool b] else U) := by
    intro u U b h
    cases ok
    · exact h
    · exact RelL.tup (.cons h (.cons (.bool b) .nil))
  simp only [opLoc] at hr
  split at hr
  · rename_i hp
    rw [hp] at hm
    rw [Loc.run_val] at hr
    split at hr
    · rename_i hok
      simp only [Option.map_some, Option.some.injEq, Prod.mk.injEq] at hr
      obtain ⟨rfl, rfl, _⟩ := hr
      have hck := checkKey_ok w hk hK true hok
      obtain ⟨r', hf1, hf2⟩ := findKey_ok (P := P) w hk hK RelEs.nil (r := none) rfl
      have : r' = none := by cases r' with | none => rfl | some _ => exact hf2.elim
      subst this
      refine ⟨_, _, w, ι, ?_, .inl rfl, tup z zv false (hz2 ι), hS, .refl _ _ _⟩
      simp [execOp, ho, Instr.lookup, run_underlying hu, rel_mapN hm, hck, hf1, hz1]
    · cases hr
  · rename_i r hp
    rw [hp] at hm
    obtain ⟨bs, v0, ups, nw, hg, hf, hcase⟩ := Loc.run_inv hr
    obtain ⟨blk, hbr, rfl⟩ := getAll_one hg
    simp only at hf
    split at hf
    · rename_i es cl heq
      simp only [List.cons.injEq, and_true] at heq; subst heq
      split at hf
      · rename_i hok
        obtain ⟨p, hp', hv⟩ := rel_map hm
        obtain ⟨q, es', hq, hheap, hrel⟩ := hS.map hbr
        rw [hp'] at hq; cases hq
        have hck := checkKey_ok w hk hK es'.isEmpty hok
        cases hfe : findE ag ks ((ao k).ev e) es 0 with
        | none => rw [hfe] at hf; cases hf
        | some fr =>
          obtain ⟨r', hf1, hf2⟩ := findKey_ok (P := P) w hk hK hrel hfe
          rw [hfe] at hf
          simp only [Option.map_some, Option.some.injEq] at hf
          cases fr with
          | none =>
            simp only [Prod.mk.injEq] at hf
            obtain ⟨rfl, rfl, rfl⟩ := hf
            rcases hcase with ⟨_, rfl, rfl⟩ | ⟨r, hx'', _⟩
            · have : r' = none := by cases r' with | none => rfl | some _ => exact hf2.elim
              subst this
              refine ⟨_, _, w, ι, ?_, .inl rfl, tup z zv false (hz2 ι), hS, .refl _ _ _⟩
              simp [execOp, ho, Instr.lookup, run_underlying hu, hv, getObj_of hheap, hck, hf1, hz1]
            · cases hx''
          | some iv =>
            obtain ⟨i, u⟩ := iv
            simp only [Prod.mk.injEq] at hf
            obtain ⟨rfl, rfl, rfl⟩ := hf
            rcases hcase with ⟨_, rfl, rfl⟩ | ⟨r, hx'', _⟩
            · cases r' with
              | none => exact hf2.elim
              | some jv =>
                obtain ⟨j, U⟩ := jv
                obtain ⟨rfl, hU⟩ := hf2
                refine ⟨_, _, w, ι, ?_, .inl rfl, tup u U true hU, hS, .refl _ _ _⟩
                simp [execOp, ho, Instr.lookup, run_underlying hu, hv, getObj_of hheap, hck, hf1]
            · cases hx''
      · cases hf
    · cases hf
  · rw [Loc.run_no] at hr; cases hr

theorem sim_mapup {o : Oper} (t kt et : TypeId) (m k x : Operand) (ag : Bool) (ks : List Leaf) (ho : o.op = .mapUpdate t m k x ∨ o.op = .insert t m k x) (hu : P.underlying t = some (.map kt et)) (hk : keyKind P kt = some (ag, ks)) :
    OpSim P base o (.mapup ag ks (ao m) (ao k) (ao x)) := by
  intro ι e h w a aid v h' fp hS hbw hE hn hr
  have hm := ao_rel hE m
  have hK := ao_rel hE k
  have hX := ao_rel hE x
  have hrun : ∀ W', (Instr.mapUpdate t (a.eval m) (a.eval k) (a.eval x)).run P w = .ok () W' → (execOp a.eval o).run P w = .ok .skip W' := by
    intro W' hW
    rcases ho with ho | ho <;> simp [execOp, ho, hW]
  simp only [opLoc] at hr
  split at hr
  · rename_i r hp
    rw [hp] at hm
    obtain ⟨bs, v0, ups, nw, hg, hf, hcase⟩ := Loc.run_inv hr
    obtain ⟨blk, hbr, rfl⟩ := getAll_one hg
    simp only at hf
    split at hf
    · rename_i es cl heq
      simp only [List.cons.injEq, and_true] at heq; subst heq
      split at hf
      · rename_i hok
        obtain ⟨p, hp', hv⟩ := rel_map hm
        obtain ⟨q, es', hq, hheap, hrel⟩ := hS.map hbr
        rw [hp'] at hq; cases hq
        have hck := checkKey_ok w hk hK false hok
        cases hfe : findE ag ks ((ao k).ev e) es 0 with
        | none => rw [hfe] at hf; cases hf
        | some fr =>
          obtain ⟨r', hf1, hf2⟩ := findKey_ok (P := P) w hk hK hrel hfe
          rw [hfe] at hf
          simp only [Option.map_some, Option.some.injEq] at hf
          cases fr with
          | none =>
            simp only [Prod.mk.injEq] at hf
            obtain ⟨rfl, rfl, rfl⟩ := hf
            rcases hcase with ⟨_, rfl, rfl⟩ | ⟨r, hx'', _⟩
            · have : r' = none := by cases r' with | none => rfl | some _ => exact hf2.elim
              subst this
              obtain ⟨w', h1, h2, h3⟩ := hS.putMap hbr hp' (es2 := es ++ [⟨(ao k).ev e, (ao x).ev e, cl⟩]) (es2' := es'.push ⟨a.eval k, a.eval x, cl⟩) (c2 := cl + 1) (by rw [Array.toList_push]; exact hrel.push ⟨hK, hX, rfl⟩)
              refine ⟨_, _, w', ι, hrun _ ?_, .inr ⟨rfl, rfl⟩, .undef _, h2, h3⟩
              simp [Instr.mapUpdate, run_underlying hu, hv, getObj_of hheap, hck, hf1, h1]
            · cases hx''
          | some iv =>
            obtain ⟨i, u⟩ := iv
            simp only [Prod.mk.injEq] at hf
            obtain ⟨rfl, rfl, rfl⟩ := hf
            rcases hcase with ⟨_, rfl, rfl⟩ | ⟨r, hx'', _⟩
            · cases r' with
              | none => exact hf2.elim
              | some jv =>
                obtain ⟨j, U⟩ := jv
                obtain ⟨rfl, hU⟩ := hf2
                obtain ⟨ent, _, hent, heq, _⟩ := findE_found es 0 i u hfe
                rw [Nat.sub_zero] at hent
                obtain ⟨ent', hent', hr1, hr2, hr3⟩ := hrel.get hent
                rw [Array.getElem?_toList] at hent'
                have hstay := stays_ok (P := P) w hK hr1 heq
                obtain ⟨w', h1, h2, h3⟩ := hS.putMap hbr hp' (es2 := es.modify i fun x_1 => { x_1 with key := (ao k).ev e, val := (ao x).ev e }) (es2' := es'.modify i fun e_1 => { e_1 with key := a.eval k, val := a.eval x }) (c2 := cl)
                  (by rw [Array.toList_modify]; exact hrel.modify i fun x y hxy => ⟨hK, hX, hxy.2.2⟩)
                refine ⟨_, _, w', ι, hrun _ ?_, .inr ⟨rfl, rfl⟩, .undef _, h2, h3⟩
                simp [Instr.mapUpdate, run_underlying hu, hv, getObj_of hheap, hck, hf1, hent', hstay, h1]
            · cases hx''
      · cases hf
    · cases hf
  · rw [Loc.run_no] at hr; cases hr

theorem sim_ment {o : Oper} (t kt et : TypeId) (m k : Operand) (ag : Bool) (ks : List Leaf) (z : AV) (ho : o.op = .mapEntry t m k) (hu : P.underlying t = some (.map kt et)) (hk : keyKind P kt = some (ag, ks)) (hz : zeroA P et = some z) :
    OpSim P base o (.ment ag ks z (ao m) (ao k)) := by
  intro ι e h w a aid v h' fp hS hbw hE hn hr
  have hm := ao_rel hE m
  have hK := ao_rel hE k
  obtain ⟨zv, hz1, hz2⟩ := zeroA_rel hz
  simp only [opLoc] at hr
  split at hr
  · rename_i r hp
    rw [hp] at hm
    obtain ⟨bs, v0, ups, nw, hg, hf, hcase⟩ := Loc.run_inv hr
    obtain ⟨blk, hbr, rfl⟩ := getAll_one hg
    simp only at hf
    split at hf
    · rename_i es cl heq
      simp only [List.cons.injEq, and_true] at heq; subst heq
      split at hf
      · rename_i hok
        obtain ⟨p, hp', hv⟩ := rel_map hm
        obtain ⟨q, es', hq, hheap, hrel⟩ := hS.map hbr
        rw [hp'] at hq; cases hq
        have hck := checkKey_ok w hk hK false hok
        cases hfe : findE ag ks ((ao k).ev e) es 0 with
        | none => rw [hfe] at hf; cases hf
        | some fr =>
          obtain ⟨r', hf1, hf2⟩ := findKey_ok (P := P) w hk hK hrel hfe
          rw [hfe] at hf
          simp only [Option.map_some, Option.some.injEq] at hf
          cases fr with
          | none =>
            simp only [Prod.mk.injEq] at hf
            obtain ⟨rfl, rfl, rfl⟩ := hf
            rcases hcase with ⟨_, rfl, rfl⟩ | ⟨r, hx'', _⟩
            · have : r' = none := by cases r' with | none => rfl | some _ => exact hf2.elim
              subst this
              obtain ⟨w', h1, h2, h3⟩ := hS.putMap hbr hp' (es2 := es ++ [⟨(ao k).ev e, z, cl⟩]) (es2' := es'.push ⟨a.eval k, zv, cl⟩) (c2 := cl + 1) (by rw [Array.toList_push]; exact hrel.push ⟨hK, hz2 ι, rfl⟩)
              refine ⟨.value (.tuple #[zv, .int .i64 cl]), _, w', ι, ?_, .inl rfl, RelL.tup (.cons (hz2 ι) (.cons (.int _ _) .nil)), h2, h3⟩
              simp [execOp, ho, Instr.mapEntry, run_underlying hu, hv, getObj_of hheap, hck, hf1, hz1, h1, goInt]
            · cases hx''
          | some iv =>
            obtain ⟨i, u⟩ := iv
            simp only [Prod.mk.injEq] at hf
            obtain ⟨rfl, rfl, rfl⟩ := hf
            rcases hcase with ⟨_, rfl, rfl⟩ | ⟨r, hx'', _⟩
            · cases r' with
              | none => exact hf2.elim
              | some jv =>
                obtain ⟨j, U⟩ := jv
                obtain ⟨rfl, hU⟩ := hf2
                obtain ⟨ent, _, hent, heq, _⟩ := findE_found es 0 i u hfe
                rw [Nat.sub_zero] at hent
                obtain ⟨ent', hent', hr1, hr2, hr3⟩ := hrel.get hent
                rw [Array.getElem?_toList] at hent'
                have hstay := stays_ok (P := P) w hK hr1 heq
                obtain ⟨w', h1, h2, h3⟩ := hS.putMap hbr hp' (es2 := es.modify i fun x_1 => { x_1 with key := (ao k).ev e }) (es2' := es'.modify i fun e_1 => { e_1 with key := a.eval k }) (c2 := cl)
                  (by rw [Array.toList_modify]; exact hrel.modify i fun x y hxy => ⟨hK, hxy.2.1, hxy.2.2⟩)
                refine ⟨.value (.tuple #[U, .int .i64 ent'.born]), _, w', ι, ?_, .inl rfl, ?_, h2, h3⟩
                · simp [execOp, ho, Instr.mapEntry, run_underlying hu, hv, getObj_of hheap, hck, hf1, hent', hstay, h1, goInt]
                · rw [hent]
                  simp only [Option.map_some, Option.getD_some, hr3]
                  exact RelL.tup (.cons hU (.cons (.int _ _) .nil))
            · cases hx''
      · cases hf
    · cases hf
  · rw [Loc.run_no] at hr; cases hr

theorem findIdx_rel {ι : Io} (b : Int) : ∀ (es : List AEnt) (es' : List MapEntry), RelEs ι es es' → es.findIdx? (fun x => decide ((x.born : Int) = b)) = es'.findIdx? (fun e => (e.born : Int) == b)
  | [], [], _ => rfl
  | [], _ :: _, hr => by have := hr.1; simp at this
  | _ :: _, [], hr => by have := hr.1; simp at this
  | x :: es, y :: es', hr => by
    obtain ⟨_, _, h3⟩ := hr.head
    rw [List.findIdx?_cons, List.findIdx?_cons, findIdx_rel b es es' hr.tail, h3]
    by_cases e : (y.born : Int) = b <;> simp [e]

theorem sim_mest {o : Oper} (t : TypeId) (m s x : Operand) (ho : o.op = .entryStore t m s x) : OpSim P base o (.mest (ao m) (ao s) (ao x)) := by
  intro ι e h w a aid v h' fp hS hbw hE hn hr
  have hm := ao_rel hE m
  have hs := ao_rel hE s
  have hX := ao_rel hE x
  simp only [opLoc] at hr
  split at hr
  · rename_i r q b hp hq
    rw [hp] at hm
    rw [hq] at hs
    obtain ⟨bs, v0, ups, nw, hg, hf, hcase⟩ := Loc.run_inv hr
    obtain ⟨blk, hbr, rfl⟩ := getAll_one hg
    simp only at hf
    split at hf
    · rename_i es cl heq
      simp only [List.cons.injEq, and_true] at heq; subst heq
      split at hf
      · rename_i i hi
        simp only [Option.some.injEq, Prod.mk.injEq] at hf
        obtain ⟨rfl, rfl, rfl⟩ := hf
        rcases hcase with ⟨_, rfl, rfl⟩ | ⟨r, hx'', _⟩
        · obtain ⟨p, hp', hv⟩ := rel_map hm
          obtain ⟨q, es', hq, hheap, hrel⟩ := hS.map hbr
          rw [hp'] at hq; cases hq
          rw [findIdx_rel b es es'.toList hrel] at hi
          have hi' : es'.findIdx? (fun e => (e.born : Int) == b) = some i := by
            rw [← hi, ← List.findIdx?_toArray]
          obtain ⟨w', h1, h2, h3⟩ := hS.putMap hbr hp' (es2 := es.modify i fun x_1 => { x_1 with val := (ao x).ev e }) (es2' := es'.modify i fun e_1 => { e_1 with val := a.eval x }) (c2 := cl)
            (by rw [Array.toList_modify]; exact hrel.modify i fun x y hxy => ⟨hxy.1, hX, hxy.2.2⟩)
          refine ⟨.skip, undef, w', ι, ?_, .inr ⟨rfl, rfl⟩, .undef _, h2, h3⟩
          simp only [execOp, ho, Sem.run_bind, Instr.entryStore, hv, getObj_of hheap, Result.andThen_ok, rel_int hs, asInt, asIntOf, Sem.run_pure, hi', h1]
        · cases hx''
      · cases hf
    · cases hf
  · rw [Loc.run_no] at hr; cases hr

theorem sim_del {o : Oper} (c : Call) (t kt et : TypeId) (m k : Operand) (ag : Bool) (ks : List Leaf) (ho : o.op = .call c) (hb : c.callee = .builtin .delete) (ha : c.args.toList = [m, k]) (h0 : c.argTypes[0]? = some t)
    (hu : P.underlying t = some (.map kt et)) (hk : keyKind P kt = some (ag, ks)) : OpSim P base o (.del ag ks (ao m) (ao k)) := by
  intro ι e h w a aid v h' fp hS hbw hE hn hr
  have hm := ao_rel hE m
  have hK := ao_rel hE k
  have tup : RelV ι (.tup []) (.tuple #[]) := .tup rfl (by simp)
  have hrun : ∀ W v W', (Builtin.delete_ c.argTypes o.type #[a.eval m, a.eval k]).run P W = .ok v W' → (execOp a.eval o).run P W = .ok (.value v) W' := by
    intro W v W' hW
    obtain ⟨cs, he⟩ := run_builtin ho hb a.eval
    rw [he, args_two ha]
    simp [builtin, hW]
  simp only [opLoc] at hr
  split at hr
  · rename_i hp
    rw [hp] at hm
    rw [Loc.run_val] at hr
    split at hr
    · rename_i hok
      simp only [Option.map_some, Option.some.injEq, Prod.mk.injEq] at hr
      obtain ⟨rfl, rfl, _⟩ := hr
      have hck := checkKey_ok w hk hK true hok
      refine ⟨_, _, w, ι, hrun _ (.tuple #[]) _ ?_, .inl rfl, tup, hS, .refl _ _ _⟩
      simp [Builtin.delete_, h0, run_underlying hu, rel_mapN hm, hck]
    · cases hr
  · rename_i r hp
    rw [hp] at hm
    obtain ⟨bs, v0, ups, nw, hg, hf, hcase⟩ := Loc.run_inv hr
    obtain ⟨blk, hbr, rfl⟩ := getAll_one hg
    simp only at hf
    split at hf
    · rename_i es cl heq
      simp only [List.cons.injEq, and_true] at heq; subst heq
      split at hf
      · rename_i hok
        obtain ⟨p, hp', hv⟩ := rel_map hm
        obtain ⟨q, es', hq, hheap, hrel⟩ := hS.map hbr
        rw [hp'] at hq; cases hq
        have hck := checkKey_ok w hk hK es'.isEmpty hok
        cases hfe : findE ag ks ((ao k).ev e) es 0 with
        | none => rw [hfe] at hf; cases hf
        | some fr =>
          obtain ⟨r', hf1, hf2⟩ := findKey_ok (P := P) w hk hK hrel hfe
          rw [hfe] at hf
          simp only [Option.map_some, Option.some.injEq] at hf
          cases fr with
          | none =>
            simp only [Prod.mk.injEq] at hf
            obtain ⟨rfl, rfl, rfl⟩ := hf
            rcases hcase with ⟨_, rfl, rfl⟩ | ⟨r, hx'', _⟩
            · have : r' = none := by cases r' with | none => rfl | some _ => exact hf2.elim
              subst this
              obtain ⟨w', h1, h2, h3⟩ := hS.putMap hbr hp' (es2 := es) (es2' := es') (c2 := cl) hrel
              refine ⟨_, _, w', ι, hrun _ (.tuple #[]) _ ?_, .inl rfl, tup, h2, h3⟩
              simp [Builtin.delete_, h0, run_underlying hu, hv, getObj_of hheap, hck, hf1, h1]
            · cases hx''
          | some iv =>
            obtain ⟨i, u⟩ := iv
            simp only [Prod.mk.injEq] at hf
            obtain ⟨rfl, rfl, rfl⟩ := hf
            rcases hcase with ⟨_, rfl, rfl⟩ | ⟨r, hx'', _⟩
            · cases r' with
              | none => exact hf2.elim
              | some jv =>
                obtain ⟨j, U⟩ := jv
                obtain ⟨rfl, hU⟩ := hf2
                obtain ⟨w', h1, h2, h3⟩ := hS.putMap hbr hp' (es2 := es.eraseIdx i) (es2' := es'.eraseIdxIfInBounds i) (c2 := cl) (by rw [Array.toList_eraseIdxIfInBounds]; exact hrel.erase i)
                refine ⟨_, _, w', ι, hrun _ (.tuple #[]) _ ?_, .inl rfl, tup, h2, h3⟩
                simp [Builtin.delete_, h0, run_underlying hu, hv, getObj_of hheap, hck, hf1, h1]
            · cases hx''
      · cases hf
    · cases hf
  · rw [Loc.run_no] at hr; cases hr

theorem sim_clrM {o : Oper} (c : Call) (t kt et : TypeId) (x : Operand) (ho : o.op = .call c) (hb : c.callee = .builtin .clear) (ha : c.args.toList = [x]) (h0 : c.argTypes[0]? = some t)
    (ht : P.underlying t = some (.map kt et)) : OpSim P base o (.clrM (ao x)) := by
  intro ι e h w a aid v h' fp hS hbw hE hn hr
  have hx := ao_rel hE x
  have tup : RelV ι (.tup []) (.tuple #[]) := .tup rfl (by simp)
  have hrun : ∀ W v W', (Builtin.clear_ c.argTypes o.type #[a.eval x]).run P W = .ok v W' → (execOp a.eval o).run P W = .ok (.value v) W' := by
    intro W v W' hW
    obtain ⟨cs, he⟩ := run_builtin ho hb a.eval
    rw [he, args_one ha]
    simp [builtin, hW]
  simp only [opLoc] at hr
  split at hr
  · rename_i hp
    rw [hp] at hx
    rw [Loc.run_val] at hr
    simp only [Option.map_some, Option.some.injEq, Prod.mk.injEq] at hr
    obtain ⟨rfl, rfl, _⟩ := hr
    refine ⟨_, _, w, ι, hrun _ (.tuple #[]) _ ?_, .inl rfl, tup, hS, .refl _ _ _⟩
    simp [Builtin.clear_, h0, run_underlying ht, rel_mapN hx]
  · rename_i r hp
    rw [hp] at hx
    obtain ⟨bs, v0, ups, nw, hg, hf, hcase⟩ := Loc.run_inv hr
    obtain ⟨blk, hbr, rfl⟩ := getAll_one hg
    simp only at hf
    split at hf
    · rename_i es cl heq
      simp only [List.cons.injEq, and_true] at heq; subst heq
      simp only [Option.some.injEq, Prod.mk.injEq] at hf
      obtain ⟨rfl, rfl, rfl⟩ := hf
      rcases hcase with ⟨_, rfl, rfl⟩ | ⟨r, hx'', _⟩
      · obtain ⟨p, hp', hv⟩ := rel_map hx
        obtain ⟨q, es', hq, hheap, hrel⟩ := hS.map hbr
        rw [hp'] at hq; cases hq
        obtain ⟨w', h1, h2, h3⟩ := hS.putMap hbr hp' (es2 := []) (es2' := #[]) (c2 := cl) .nil
        refine ⟨_, _, w', ι, hrun _ (.tuple #[]) _ ?_, .inl rfl, tup, h2, h3⟩
        simp [Builtin.clear_, h0, run_underlying ht, hv, getObj_of hheap, h1]
      · cases hx''
    · cases hf
  · rw [Loc.run_no] at hr; cases hr

theorem sim_rangeM {o : Oper} (t kt et : TypeId) (x : Operand) (ho : o.op = .range t x) (ht : P.underlying t = some (.map kt et)) : OpSim P base o (.rangeM (ao x)) := by
  intro ι e h w a aid v h' fp hS hbw hE hn hr
  have hx := ao_rel hE x
  simp only [opLoc] at hr
  have ptr : ∀ (ι' : Io) (q : Pl), q.B = w.heap.size → q.O = 0 → ι' aid = some q → RelV ι' (.ptr (some (aid, 0))) (.pointer (some ⟨w.heap.size, 0, none⟩)) := by
    intro ι' q h1 h2 h3
    have := RelV.ptr (o := 0) h3
    rw [h1, h2] at this
    exact this
  split at hr
  · rename_i hp
    rw [hp] at hx
    obtain ⟨bs, v0, ups, nw, hg, hf, hcase⟩ := Loc.run_inv hr
    simp only [Option.some.injEq, Prod.mk.injEq] at hf
    obtain ⟨rfl, rfl, rfl⟩ := hf
    rcases hcase with ⟨hx', _⟩ | ⟨y, hx', rfl, rfl⟩
    · cases hx'
    · simp only [Option.some.injEq] at hx'; subst hx'
      have := hS.fresh hbw hn (.mapIter none 0 #[] 0) ⟨w.heap.size, 0, 0⟩ rfl (x := .iter none 0 [] 0) ⟨hbw, rfl, none, heap_alloc_at _ _, trivial⟩
      refine ⟨.value (.pointer (some ⟨w.heap.size, 0, none⟩)), _, _, _, ?_, .inl rfl, ptr _ ⟨w.heap.size, 0, 0⟩ rfl rfl (Io.put_same _ _ _), this.1, this.2⟩
      simp only [execOp, ho, Sem.run_bind, Instr.range, run_underlying ht, Result.andThen_ok, rel_mapN hx, Sem.run_pure]
      rfl
  · rename_i r hp
    rw [hp] at hx
    obtain ⟨bs, v0, ups, nw, hg, hf, hcase⟩ := Loc.run_inv hr
    obtain ⟨blk, hbr, rfl⟩ := getAll_one hg
    simp only at hf
    split at hf
    · rename_i es cl heq
      simp only [List.cons.injEq, and_true] at heq; subst heq
      simp only [Option.some.injEq, Prod.mk.injEq] at hf
      obtain ⟨rfl, rfl, rfl⟩ := hf
      rcases hcase with ⟨hx', _⟩ | ⟨y, hx', rfl, rfl⟩
      · cases hx'
      · simp only [Option.some.injEq] at hx'; subst hx'
        obtain ⟨p, hp', hv⟩ := rel_map hx
        obtain ⟨q, es', hq, hheap, hrel⟩ := hS.map hbr
        rw [hp'] at hq; cases hq
        have := hS.fresh hbw hn (.mapIter (some p.B) cl #[] cl) ⟨w.heap.size, 0, 0⟩ rfl (x := .iter (some r) cl [] cl)
          ⟨hbw, rfl, some p.B, heap_alloc_at _ _, p, (Ext.put _ (hS.unused aid hn)) _ _ hp', rfl⟩
        refine ⟨.value (.pointer (some ⟨w.heap.size, 0, none⟩)), _, _, _, ?_, .inl rfl, ptr _ ⟨w.heap.size, 0, 0⟩ rfl rfl (Io.put_same _ _ _), this.1, this.2⟩
        simp only [execOp, ho, Sem.run_bind, Instr.range, run_underlying ht, Result.andThen_ok, hv, getObj_of hheap, Sem.run_pure]
        rfl
    · cases hf
  · rw [Loc.run_no] at hr; cases hr
end Go.Ax
