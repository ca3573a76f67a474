/-
  The strict machine's rows.
-/
import Derived.Test.YtmhbmnonichopaaXK4
namespace Go.Ax.K
variable {call : CfK} {callA : Cf}

theorem getAll1 {h : HK} {b : Nat} {x : FB} (hg : get h b = some x) : getAll h.abs [b] = some [x.abs] := by
  simp only [getAll]
  rw [get_abs, hg]; rfl
theorem merge_drop (t : PT AV) : ∀ (j i : Nat) (l : List AV), (merge t i l).drop j = merge t (i + j) (l.drop j)
  | 0, _, _ => rfl
  | j + 1, i, [] => rfl
  | j + 1, i, x :: l => by
    simp only [merge, List.drop_succ_cons]
    rw [merge_drop t j (i + 1) l, show i + 1 + j = i + (j + 1) by omega]
theorem colK_true (t : PT AV) : ∀ (n : Nat) (l : List AV) (o : Nat) (k : List AV → Bool), colK t n l o k = true → k ((merge t o l).take n) = true ∧ n ≤ l.length
  | 0, _, _, _, h => ⟨h, Nat.zero_le _⟩
  | n + 1, l, o, k, h => by
    have h : lC l false (fun x l => oC (getP t o) (fS x fun v => colK t n l (Nat.succ o) fun r => k (v :: r)) fun v => fV v fun v => colK t n l (Nat.succ o) fun r => k (v :: r)) = true := h
    obtain ⟨x, r, rfl, h⟩ := lC_cons h
    rcases oC_true h with ⟨hg, h⟩ | ⟨v, hg, h⟩
    · rw [fS_eq] at h
      obtain ⟨h1, h2⟩ := colK_true t n _ _ _ h
      rw [getP_eq] at hg
      refine ⟨?_, by simp; exact h2⟩
      simp only [merge, List.take_succ_cons, hg, Option.getD_none]
      exact h1
    · rw [fV_eq] at h
      obtain ⟨h1, h2⟩ := colK_true t n _ _ _ h
      rw [getP_eq] at hg
      refine ⟨?_, by simp; exact h2⟩
      simp only [merge, List.take_succ_cons, hg, Option.getD_some]
      exact h1
theorem load_ok (n : Option Nat) (a : AO) : OpOk call callA (.load n a) (oLoad n a) := .loc (fun _ => rfl) fun e aid h k hw hk => by
  obtain ⟨b, o, hv, hk⟩ := vPtr_true hk
  rw [ev_eq] at hv
  obtain ⟨x, hg, hk⟩ := oC_some hk
  cases x with
  | other y => cases hk
  | cells m base t own =>
    have hwf : base.length = m := hw b _ hg
    have main : ∀ v, partC (merge t 0 base) o n = some v → k v h (.loc [b] [] none) = true → LocOk (opLoc (.load n a) e) aid h k := by
      intro v hp hk
      refine ⟨(v, h.abs, .loc [b] [] none), ?_, h, hw, rfl, hk⟩
      simp only [opLoc, hv]
      exact loc_run_iff.2 ⟨[.cells (merge t 0 base) own], v, [], none, getAll1 hg, by simp only [hp]; rfl, rfl⟩
    cases n with
    | none =>
      rcases oC_true (show oC (getP t o) (lC (base.drop o) false fun v _ => fS v fun v => k v h (.loc [b] [] none)) (fun v => bf (Nat.blt o m) (fV v fun v => k v h (.loc [b] [] none)) false) = true from hk) with ⟨ho, hk⟩ | ⟨v, ho, hk⟩
      · obtain ⟨v, r, hd, hk⟩ := lC_cons hk
        rw [fS_eq] at hk
        rw [getP_eq] at ho
        refine main v ?_ hk
        have hb : base[o]? = some v := by
          have : (base.drop o)[0]? = some v := by rw [hd]; rfl
          simpa using this
        simp only [partC]
        rw [merge_get, hb, Nat.zero_add, ho]; rfl
      · obtain ⟨hlt, hk⟩ := bf_and hk
        rw [fV_eq] at hk
        rw [getP_eq] at ho
        refine main v ?_ hk
        have hlt : o < base.length := by rw [hwf]; simpa [Nat.blt_eq] using hlt
        simp only [partC]
        rw [merge_get, List.getElem?_eq_getElem hlt, Nat.zero_add, ho]; rfl
    | some n =>
      obtain ⟨hle, hk⟩ := bf_and (show bf (Nat.ble (Nat.add o n) m) (colK t n (base.drop o) o fun l => k (.agg l) h (.loc [b] [] none)) false = true from hk)
      obtain ⟨hk, _⟩ := colK_true t n _ _ _ hk
      refine main _ ?_ hk
      have hle : o + n ≤ base.length := by rw [hwf]; exact Nat.le_of_ble_eq_true hle
      simp only [partC, merge_length]
      rw [if_pos hle, merge_drop, Nat.zero_add]

def setsT : List AV → PT AV → Nat → PT AV
  | [], t, _ => t
  | v :: l, t, o => setsT l (t.set o v) (o + 1)
theorem sets_eq : ∀ (l : List AV) (t : PT AV) (o : Nat) (k : PT AV → Nat → Bool), sets l t o k = k (setsT l t o) (o + l.length)
  | [], _, _, _ => rfl
  | v :: l, t, o, k => by
    show fV v (fun v => setP t o v fun t => sets l t (Nat.succ o) k) = _
    rw [fV_eq, setP_eq, sets_eq l]
    simp only [setsT, List.length_cons]
    rw [show Nat.succ o + l.length = o + (l.length + 1) by omega]
theorem setsT_get : ∀ (l : List AV) (t : PT AV) (o j : Nat), (setsT l t o).get j = if o ≤ j ∧ j < o + l.length then l[j - o]? else t.get j
  | [], t, o, j => by simp only [setsT, List.length_nil]; rw [if_neg (by omega)]
  | v :: l, t, o, j => by
    simp only [setsT]
    rw [setsT_get l, PT.get_set]
    by_cases h : o + 1 ≤ j ∧ j < o + 1 + l.length
    · rw [if_pos h, if_pos (by simp; omega), show j - o = (j - (o + 1)) + 1 by omega, List.getElem?_cons_succ]
    · rw [if_neg h]
      by_cases e : j = o
      · subst e; rw [if_pos rfl, if_pos (by simp)]; simp
      · rw [if_neg e, if_neg (by simp; omega)]
theorem setsT_append : ∀ (a b : List AV) (t : PT AV) (o : Nat), setsT (a ++ b) t o = setsT b (setsT a t o) (o + a.length)
  | [], _, _, _ => rfl
  | v :: a, b, t, o => by
    simp only [List.cons_append, setsT, List.length_cons]
    rw [setsT_append a b, show o + 1 + a.length = o + (a.length + 1) by omega]
theorem merge_sets {base cs : List AV} {t : PT AV} {o : Nat} (h : o + cs.length ≤ base.length) : merge (setsT cs t o) 0 base = splice (merge t 0 base) o cs := by
  refine List.ext_getElem? fun j => ?_
  rw [merge_get, setsT_get, Nat.zero_add, splice]
  rw [List.getElem?_append, List.length_append, List.length_take, merge_length, Nat.min_eq_left (by omega)]
  by_cases h1 : j < o + cs.length
  · rw [if_pos h1, List.getElem?_append, List.length_take, merge_length, Nat.min_eq_left (by omega)]
    by_cases h2 : j < o
    · rw [if_pos h2, if_neg (by omega), List.getElem?_take, if_pos h2, merge_get, Nat.zero_add]
    · rw [if_neg h2, if_pos (by omega)]
      have hj : j - o < cs.length := by omega
      rw [List.getElem?_eq_getElem hj, List.getElem?_eq_getElem (show j < base.length by omega)]
      rfl
  · rw [if_neg h1, if_neg (by omega), List.getElem?_drop, show o + cs.length + (j - (o + cs.length)) = j by omega, merge_get, Nat.zero_add]
theorem clrK_eq (z : List AV) : ∀ (n : Nat) (t : PT AV) (o : Nat) (k : PT AV → Bool), clrK z n t o k = k (setsT ((List.replicate n z).flatten) t o)
  | 0, _, _, _ => rfl
  | n + 1, t, o, k => by
    show sets z t o (fun t o => clrK z n t o k) = _
    rw [sets_eq, clrK_eq z n, List.replicate_succ, List.flatten_cons, setsT_append]

theorem splice_all {l cs : List AV} (h : cs.length = l.length) : splice l 0 cs = cs := by
  simp [splice, h]
theorem store_ok (n : Nat) (a v : AO) : OpOk call callA (.store n a v) (oStore n a v) := .loc (fun _ => rfl) fun e aid h k hw hk => by
  obtain ⟨b, o, hv, hk⟩ := vPtr_true hk
  obtain ⟨cs, hc, hk⟩ := oC_some hk
  rw [ev_eq] at hv hc
  rw [lenK_eq, Nat.zero_add] at hk
  obtain ⟨hn, hk⟩ := bf_and hk
  have hn := Nat.eq_of_beq_eq_true hn
  obtain ⟨x, hg, hk⟩ := oC_some hk
  cases x with
  | other y => cases hk
  | cells m base t own =>
    have hwf : base.length = m := hw b _ hg
    obtain ⟨hown, hq⟩ := bf_and (show bf own (bf (bf (Nat.beq o 0) (Nat.beq n m) false) (put h b (.cells m cs .nil true) fun h => k .undef h (.loc [b] [b] none))
      (bf (Nat.ble (Nat.add o n) m) (sets cs t o fun t _ => put h b (.cells m base t true) fun h => k .undef h (.loc [b] [b] none)) false)) false = true from hk)
    subst hown
    have main : ∀ (y : FB), FWf y → o + n ≤ base.length → y.abs = .cells (splice (merge t 0 base) o cs) true → k .undef ⟨h.next, min h.wmin b, h.m.set b y⟩ (.loc [b] [b] none) = true → LocOk (opLoc (.store n a v) e) aid h k := by
      intro y hy hle hya hk
      refine ⟨(.undef, h.abs.put b (.cells (splice (merge t 0 base) o cs) true), .loc [b] [b] none), ?_, _, hw.set hy, ?_, hk⟩
      · simp only [opLoc, hv, hc]
        rw [if_pos hn]
        exact loc_run_iff.2 ⟨[.cells (merge t 0 base) true], .undef, [(b, .cells (splice (merge t 0 base) o cs) true)], none, getAll1 hg, by simp only [merge_length]; rw [if_pos hle], rfl⟩
      · rw [put_abs, hya]
    rcases bf_true hq with ⟨h1, hk⟩ | ⟨_, hk⟩
    · obtain ⟨ho, hnm⟩ := bf_and h1
      have ho := Nat.eq_of_beq_eq_true ho
      have hnm := Nat.eq_of_beq_eq_true hnm
      rw [put_eq] at hk
      refine main (.cells m cs .nil true) (show cs.length = m by omega) (by omega) ?_ hk
      rw [ho, splice_all (by rw [merge_length]; omega)]
      simp [FB.abs, merge_nil]
    · obtain ⟨hle, hk⟩ := bf_and hk
      have hle : o + n ≤ m := Nat.le_of_ble_eq_true hle
      rw [sets_eq, put_eq] at hk
      refine main (.cells m base (setsT cs t o) true) hwf (by omega) ?_ hk
      simp only [FB.abs]
      rw [merge_sets (by omega)]

theorem clrS_ok (z : List AV) (x : AO) : OpOk call callA (.clrS z x) (oClrS z x) := .loc (fun _ => rfl) fun e aid h k hw hk => by
  have hk : @AV.casesOn (fun _ => Bool) (ev x e) false (fun _ => false) (fun _ _ => false) (fun _ => false) (fun _ => false) (fun a n _ _ _ => oC a (k (.tup []) h fp0) fun p => pC p fun b o => bf (Nat.beq n 0) (k (.tup []) h fp0)
    (oC (get h b) false fun x => @FB.rec (fun _ => Bool) (fun m base t own => bf own (lenK z 0 fun zn => bf (Nat.ble (Nat.add o (Nat.mul n zn)) m) (clrK z n t o fun t => put h b (.cells m base t true) fun h => k (.tup []) h (.loc [b] [b] none)) false) false) (fun _ => false) x))
    (fun _ => false) (fun _ _ _ => false) false (fun _ _ => false) false (fun _ => false) (fun _ => false) = true := hk
  rw [ev_eq] at hk
  cases hv : x.ev e <;> rw [hv] at hk <;> first | (cases hk; done) | skip
  rename_i a n c ex es
  cases a with
  | none =>
    refine ⟨(.tup [], h.abs, fp0), ?_, h, hw, rfl, hk⟩
    simp only [opLoc, hv, Loc.run_val]; rfl
  | some p =>
    obtain ⟨b, o⟩ := p
    rcases bf_true (show bf (Nat.beq n 0) (k (.tup []) h fp0) _ = true from hk) with ⟨h0, hk⟩ | ⟨h0, hk⟩
    · refine ⟨(.tup [], h.abs, fp0), ?_, h, hw, rfl, hk⟩
      simp only [opLoc, hv]
      rw [if_pos (Nat.eq_of_beq_eq_true h0), Loc.run_val]; rfl
    · obtain ⟨y, hg, hk⟩ := oC_some hk
      cases y with
      | other y => cases hk
      | cells m base t own =>
        have hwf : base.length = m := hw b _ hg
        obtain ⟨hown, hq⟩ := bf_and (show bf own (lenK z 0 fun zn => bf (Nat.ble (Nat.add o (Nat.mul n zn)) m) (clrK z n t o fun t => put h b (.cells m base t true) fun h => k (.tup []) h (.loc [b] [b] none)) false) false = true from hk)
        rw [lenK_eq, Nat.zero_add] at hq
        obtain ⟨hle, hq⟩ := bf_and hq
        rw [clrK_eq, put_eq] at hq
        have hle : o + n * z.length ≤ base.length := by rw [hwf]; exact Nat.le_of_ble_eq_true hle
        have hfl : ((List.replicate n z).flatten).length = n * z.length := by simp
        have hne : n ≠ 0 := fun e => by rw [beqT e] at h0; cases h0
        refine ⟨(.tup [], h.abs.put b (.cells (splice (merge t 0 base) o ((List.replicate n z).flatten)) true), .loc [b] [b] none), ?_, _, hw.set (x := .cells m base (setsT ((List.replicate n z).flatten) t o) true) hwf, ?_, hq⟩
        · simp only [opLoc, hv]
          rw [if_neg hne]
          refine loc_run_iff.2 ⟨[.cells (merge t 0 base) true], .tup [], [(b, .cells (splice (merge t 0 base) o ((List.replicate n z).flatten)) true)], none, ?_, by simp only [merge_length]; rw [if_pos hle], rfl⟩
          rw [getAll1 hg, hown]; rfl
        · rw [put_abs]
          simp only [FB.abs]
          rw [merge_sets (by rw [hfl]; exact hle)]
theorem fillK_true (e : Env) (zn : Nat) : ∀ (ps : List (Nat × Nat × AO)) (z : List AV) (k : List AV → Bool), z.length = zn → fillK e zn ps z k = true → ∃ l, fillC e z ps = some l ∧ k l = true
  | [], z, k, _, h => ⟨z, rfl, h⟩
  | (off, n, x) :: ps, z, k, hz, h => by
    have h : oC ((ev x e).cells) false (fun cs => lenK cs 0 fun cn => bf (bf (Nat.beq cn n) (Nat.ble (Nat.add off n) zn) false) (fillK e zn ps (z.take off ++ cs ++ z.drop (Nat.add off n)) k) false) = true := h
    obtain ⟨cs, hc, h⟩ := oC_some h
    rw [ev_eq] at hc
    rw [lenK_eq, Nat.zero_add] at h
    obtain ⟨h1, h⟩ := bf_and h
    obtain ⟨h2, h3⟩ := bf_and h1
    have h2 := Nat.eq_of_beq_eq_true h2
    have h3 : off + n ≤ zn := Nat.le_of_ble_eq_true h3
    obtain ⟨l, h4, h5⟩ := fillK_true e zn ps _ k (by simp; omega) h
    refine ⟨l, ?_, h5⟩
    simp only [fillC, hc]
    rw [if_pos ⟨h2, by omega⟩]
    exact h4
theorem build_ok (z : List AV) (ps : List (Nat × Nat × AO)) : OpOk call callA (.build z ps) (oBuild z ps) := .loc (fun _ => rfl) fun e aid h k hw hk => by
  have hk : lenK z 0 (fun zn => fillK e zn ps z fun l => fL 40 l fun l => k (.agg l) h fp0) = true := hk
  rw [lenK_eq, Nat.zero_add] at hk
  obtain ⟨l, hl, hk⟩ := fillK_true e _ ps z _ rfl hk
  rw [fL_eq] at hk
  exact val_ok hw (by rw [hl]; rfl) hk
end Go.Ax.K
