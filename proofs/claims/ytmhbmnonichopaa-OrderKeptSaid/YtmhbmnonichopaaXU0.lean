/-
  Plain: the first cheapest of a day's numbers of loads; the board's rows and map, day by day. No program in sight.
-/
import Derived.Test.YtmhbmnonichopaaXT2
namespace Go.Ax
set_option linter.unusedSimpArgs false
set_option linter.unusedVariables false

/-! ### The first cheapest -/
theorem getD_app_l {rs : List (Int × Int)} {z : Int × Int} {i : Nat} (h : i < rs.length) : (rs ++ [z]).getD i (0, 0) = rs.getD i (0, 0) := by simp [List.getD, List.getElem?_append_left h]
theorem getD_app_r {rs : List (Int × Int)} {z : Int × Int} : (rs ++ [z]).getD rs.length (0, 0) = z := by simp [List.getD]
theorem minP_app {rs : List (Int × Int)} {z : Int × Int} : ∀ {i : Nat}, i < rs.length → minP (rs ++ [z]) i = minP rs i
  | 0, h => getD_app_l h
  | i + 1, h => by rw [minP, minP, getD_app_l h, minP_app (i := i) (by omega)]
theorem minP_snoc {rs : List (Int × Int)} {z : Int × Int} (h : 1 ≤ rs.length) : minP (rs ++ [z]) ((rs ++ [z]).length - 1) = if z.2 < (minP rs (rs.length - 1)).2 then z else minP rs (rs.length - 1) := by
  obtain ⟨i, hi⟩ : ∃ i, rs.length = i + 1 := ⟨rs.length - 1, by omega⟩
  rw [List.length_append, List.length_singleton, hi, Nat.add_sub_cancel, Nat.add_sub_cancel, minP, minP_app (by omega), ← hi, getD_app_r]
/-- a day's numbers of loads that may come, with what they cost, behind one that cannot be -/
def chl (k : K) (d : Nat) (nxt : Nat → Int) (c : Nat) : Nat → List (Int × Int)
  | 0 => [(0, never)]
  | x + 1 => if nd k d ≤ (c : Int) + x ∧ (c : Int) + x ≤ rm k d then chl k d nxt c x ++ [((x : Int), (x : Int) * k.costs.getD d 0 + nxt (c + x))] else chl k d nxt c x
theorem chl_len (k : K) (d : Nat) (nxt : Nat → Int) (c : Nat) : ∀ x, 1 ≤ (chl k d nxt c x).length ∧ (chl k d nxt c x).length ≤ x + 1
  | 0 => ⟨Nat.le_refl _, Nat.le_refl _⟩
  | x + 1 => by
    have := chl_len k d nxt c x
    simp only [chl]
    split
    · rw [List.length_append, List.length_singleton]; omega
    · omega
theorem chl_in {k : K} {d c x : Nat} {nxt : Nat → Int} (h1 : nd k d ≤ (c : Int) + x) (h2 : (c : Int) + x ≤ rm k d) : chl k d nxt c (x + 1) = chl k d nxt c x ++ [((x : Int), (x : Int) * k.costs.getD d 0 + nxt (c + x))] := if_pos ⟨h1, h2⟩
theorem chl_out {k : K} {d c x : Nat} {nxt : Nat → Int} (h : ¬ (nd k d ≤ (c : Int) + x ∧ (c : Int) + x ≤ rm k d)) : chl k d nxt c (x + 1) = chl k d nxt c x := if_neg h
theorem chl_min {k : K} {d m c : Nat} {nxt : Nat → Int} : ∀ {X : Nat}, (∀ x, x < X → c + x < m) →
    (minP (chl k d nxt c X) ((chl k d nxt c X).length - 1)).2 = lmin k d m nxt c X ∧
      (lmin k d m nxt c X < never → ∃ x : Nat, (minP (chl k d nxt c X) ((chl k d nxt c X).length - 1)).1 = x ∧ x < X ∧ lcand k d nxt c x = lmin k d m nxt c X ∧ ∀ y, y < x → lmin k d m nxt c X < lcand k d nxt c y)
  | 0, _ => ⟨rfl, fun h => absurd h (by simp only [lmin]; omega)⟩
  | X + 1, hX => by
    obtain ⟨ih1, ih2⟩ := chl_min (k := k) (d := d) (m := m) (c := c) (nxt := nxt) (X := X) fun x hx => hX x (by omega)
    have hl := lmin_le k d m nxt c X
    have hs : lmin k d m nxt c (X + 1) = min (lmin k d m nxt c X) (lcand k d nxt c X) := if_pos (hX X (by omega))
    by_cases hb : nd k d ≤ (c : Int) + X ∧ (c : Int) + X ≤ rm k d
    · have hc : lcand k d nxt c X = (X : Int) * k.costs.getD d 0 + nxt (c + X) := if_pos hb
      rw [chl_in hb.1 hb.2, minP_snoc (chl_len ..).1]
      simp only [ih1]
      by_cases hlt : (X : Int) * k.costs.getD d 0 + nxt (c + X) < lmin k d m nxt c X
      · rw [if_pos hlt]
        refine ⟨by rw [hs]; show (X : Int) * k.costs.getD d 0 + nxt (c + X) = _; omega, fun _ => ⟨X, rfl, by omega, by omega, fun y hy => ?_⟩⟩
        have := lmin_le_cand (k := k) (d := d) (m := m) (c := c) (nxt := nxt) hy (hX y (by omega))
        omega
      · rw [if_neg hlt]
        have e : lmin k d m nxt c (X + 1) = lmin k d m nxt c X := by omega
        refine ⟨by rw [e]; exact ih1, fun h => ?_⟩
        rw [e] at h ⊢
        obtain ⟨x, h1, h2, h3⟩ := ih2 h
        exact ⟨x, h1, by omega, h3⟩
    · have hc : lcand k d nxt c X = never := if_neg hb
      rw [chl_out hb]
      have e : lmin k d m nxt c (X + 1) = lmin k d m nxt c X := by omega
      rw [e]
      exact ⟨ih1, fun h => by obtain ⟨x, h1, h2, h3⟩ := ih2 h; exact ⟨x, h1, by omega, h3⟩⟩
/-- the day's numbers of loads, all of them, tell the least cost and the first number -/
theorem chl_row {k : K} (hv : Vk k) {i c : Nat} (hi : i + 1 ≤ k.sales.length) (hc : c ≤ (k.sales.length - (i + 1)) * k.most.toNat) :
    let rs := chl k (k.sales.length - (i + 1)) (lrow k (mK k) i) c (k.most.toNat + 1)
    (minP rs (rs.length - 1)).2 = lrow k (mK k) (i + 1) c ∧ (lrow k (mK k) (i + 1) c < never → (minP rs (rs.length - 1)).1 = (bx k i c : Nat)) := by
  intro rs
  obtain ⟨h1, h2⟩ := chl_min (k := k) (d := k.sales.length - (i + 1)) (m := mK k) (c := c) (nxt := lrow k (mK k) i) (X := k.most.toNat + 1) fun x hx => (below_m hi hc (x := x) (by omega)).1
  refine ⟨h1, fun h => ?_⟩
  obtain ⟨x, h3, h4, h5, h6⟩ := h2 h
  rw [h3]
  have e : bx k i c = x := fstx_eq h4 ((gd_cand h).2 h5) fun y hy => by
    cases hg : gd k (k.sales.length - (i + 1)) (lrow k (mK k) i) c (lrow k (mK k) (i + 1) c) y with
    | false => rfl
    | true =>
      have h7 := (gd_cand h).1 hg
      have h8 := h6 y hy
      have h9 : lrow k (mK k) (i + 1) c = lmin k (k.sales.length - (i + 1)) (mK k) (lrow k (mK k) i) c (k.most.toNat + 1) := rfl
      omega
  rw [e]

theorem chl_day {k : K} (hv : Vk k) {d c : Nat} (hd : d < k.sales.length) (hc : c ≤ d * k.most.toNat) :
    (minP (chl k d (lrow k (mK k) (k.sales.length - (d + 1))) c (k.most.toNat + 1)) ((chl k d (lrow k (mK k) (k.sales.length - (d + 1))) c (k.most.toNat + 1)).length - 1)).2 = lrow k (mK k) (k.sales.length - d) c ∧
      (lrow k (mK k) (k.sales.length - d) c < never → (minP (chl k d (lrow k (mK k) (k.sales.length - (d + 1))) c (k.most.toNat + 1)) ((chl k d (lrow k (mK k) (k.sales.length - (d + 1))) c (k.most.toNat + 1)).length - 1)).1 = (bx k (k.sales.length - (d + 1)) c : Nat)) := by
  have h := chl_row hv (i := k.sales.length - (d + 1)) (c := c) (by omega) (by rw [(day_eq hd).1]; exact hc)
  simp only [(day_eq hd).2, Nat.sub_sub_self (Nat.le_of_lt hd)] at h
  exact h
/-! ### The board's rows -/
theorem getD_set {xs : List Int} {i j : Nat} {u : Int} (hi : i < xs.length) : (xs.set i u).getD j 0 = if j = i then u else xs.getD j 0 := by
  simp only [List.getD, List.getElem?_set]
  by_cases h : i = j
  · subst h; simp [hi]
  · rw [if_neg h, if_neg (fun h' => h h'.symm)]
/-- a row's first c entries: never -/
def nevs (lst : List Int) (base : Nat) : Nat → List Int
  | 0 => lst
  | c + 1 => (nevs lst base c).set (base + c) never
theorem nevs_len (lst : List Int) (base : Nat) : ∀ c, (nevs lst base c).length = lst.length
  | 0 => rfl
  | c + 1 => by rw [nevs, List.length_set, nevs_len lst base c]
theorem nevs_zero (lst : List Int) (base : Nat) : nevs lst base 0 = lst := rfl
theorem nevs_succ (lst : List Int) (base c : Nat) : (nevs lst base c).set (base + c) never = nevs lst base (c + 1) := rfl
theorem nevs_get {lst : List Int} {base : Nat} : ∀ {c j : Nat}, base + c ≤ lst.length → (nevs lst base c).getD j 0 = if base ≤ j ∧ j < base + c then never else lst.getD j 0
  | 0, j, _ => by rw [if_neg (by omega)]; rfl
  | c + 1, j, h => by
    rw [nevs, getD_set (by rw [nevs_len]; omega), nevs_get (c := c) (by omega)]
    by_cases h1 : j = base + c
    · rw [if_pos h1, if_pos (by omega)]
    · rw [if_neg h1]
      by_cases h2 : base ≤ j ∧ j < base + c
      · rw [if_pos h2, if_pos (by omega)]
      · rw [if_neg h2, if_neg (by omega)]
/-- the rows from a day on are done -/
structure BOk (k : K) (dd : Nat) (lst : List Int) : Prop where
  len : lst.length = 4221
  val : ∀ d c, dd ≤ d → d ≤ k.sales.length → c ≤ d * k.most.toNat → lst.getD (d * 201 + c) 0 = lrow k (mK k) (k.sales.length - d) c
  out : ∀ d c, dd ≤ d → d < k.sales.length → d * k.most.toNat < c → c < 201 → lst.getD (d * 201 + c) 0 = never
/-- and of the day before them the first c numbers -/
structure BRow (k : K) (dn c : Nat) (lst : List Int) : Prop where
  len : lst.length = 4221
  val : ∀ d c, dn + 1 ≤ d → d ≤ k.sales.length → c ≤ d * k.most.toNat → lst.getD (d * 201 + c) 0 = lrow k (mK k) (k.sales.length - d) c
  out : ∀ d c, dn + 1 ≤ d → d < k.sales.length → d * k.most.toNat < c → c < 201 → lst.getD (d * 201 + c) 0 = never
  row : ∀ c', c' < c → lst.getD (dn * 201 + c') 0 = lrow k (mK k) (k.sales.length - dn) c'
  rest : ∀ c', c ≤ c' → c' < 201 → lst.getD (dn * 201 + c') 0 = never
theorem dM_le {k : K} (hv : Vk k) {d : Nat} (h : d ≤ k.sales.length) : d * k.most.toNat ≤ 200 := by
  have h1 := hv.most2
  have h2 := hv.n2
  exact Nat.le_trans (Nat.mul_le_mul (show d ≤ 20 by omega) (show k.most.toNat ≤ 10 by omega)) (by omega)
theorem BOk.start (k : K) : BOk k k.sales.length (List.replicate 4221 0) := by
  have h0 : ∀ j, (List.replicate 4221 (0 : Int)).getD j 0 = 0 := fun j => by
    simp only [List.getD, List.getElem?_replicate]
    split <;> rfl
  refine ⟨List.length_replicate .., fun d c h1 h2 _ => ?_, fun d c h1 h2 => by omega⟩
  rw [h0, show k.sales.length - d = 0 by omega]; rfl
theorem BOk.nevs {k : K} (hv : Vk k) {dn : Nat} {lst : List Int} (h : BOk k (dn + 1) lst) (hd : dn < k.sales.length) : BRow k dn 0 (nevs lst (dn * 201) 201) := by
  have hn := hv.n2
  have hb : dn * 201 + 201 ≤ lst.length := by rw [h.len]; omega
  have hg : ∀ d c, dn + 1 ≤ d → (Go.Ax.nevs lst (dn * 201) 201).getD (d * 201 + c) 0 = lst.getD (d * 201 + c) 0 := fun d c hd => by
    rw [nevs_get hb, if_neg (by omega)]
  refine ⟨by rw [nevs_len]; exact h.len, fun d c h1 h2 h3 => by rw [hg d c h1]; exact h.val d c h1 h2 h3, fun d c h1 h2 h3 h4 => by rw [hg d c h1]; exact h.out d c h1 h2 h3 h4, fun c' hc => absurd hc (Nat.not_lt_zero _), fun c' _ hc => ?_⟩
  rw [nevs_get hb, if_pos (by omega)]
theorem BRow.set {k : K} (hv : Vk k) {dn c : Nat} {lst : List Int} {u : Int} (h : BRow k dn c lst) (hd : dn < k.sales.length) (hc : c ≤ dn * k.most.toNat) (hu : u = lrow k (mK k) (k.sales.length - dn) c) : BRow k dn (c + 1) (lst.set (dn * 201 + c) u) := by
  have hn := hv.n2
  have hm := dM_le hv (Nat.le_of_lt hd)
  have hi : dn * 201 + c < lst.length := by rw [h.len]; omega
  refine ⟨by rw [List.length_set]; exact h.len, fun d c' h1 h2 h3 => ?_, fun d c' h1 h2 h3 h4 => ?_, fun c' hc' => ?_, fun c' h1 h2 => ?_⟩
  · rw [getD_set hi, if_neg (by omega)]; exact h.val d c' h1 h2 h3
  · rw [getD_set hi, if_neg (by omega)]; exact h.out d c' h1 h2 h3 h4
  · rw [getD_set hi]
    by_cases e : c' = c
    · subst e; rw [if_pos rfl, hu]
    · rw [if_neg (by omega)]; exact h.row c' (by omega)
  · rw [getD_set hi, if_neg (by omega)]; exact h.rest c' (by omega) h2
theorem BRow.skip {k : K} (hv : Vk k) {dn c : Nat} {lst : List Int} (h : BRow k dn c lst) (hd : dn < k.sales.length) (hc : c ≤ dn * k.most.toNat) (hu : never ≤ lrow k (mK k) (k.sales.length - dn) c) : BRow k dn (c + 1) lst := by
  have hm := dM_le hv (Nat.le_of_lt hd)
  refine ⟨h.len, h.val, h.out, fun c' hc' => ?_, fun c' h1 h2 => h.rest c' (by omega) h2⟩
  by_cases e : c' = c
  · subst e
    have := (lrow_in hv (mK k) (k.sales.length - dn) (by omega) c').2
    rw [h.rest c' (Nat.le_refl _) (by omega)]
    omega
  · exact h.row c' (by omega)
theorem BRow.done {k : K} {dn : Nat} {lst : List Int} (h : BRow k dn (dn * k.most.toNat + 1) lst) : BOk k dn lst := by
  refine ⟨h.len, fun d c h1 h2 h3 => ?_, fun d c h1 h2 h3 h4 => ?_⟩
  · by_cases e : d = dn
    · subst e; exact h.row c (by omega)
    · exact h.val d c (by omega) h2 h3
  · by_cases e : d = dn
    · subst e; exact h.rest c (by omega) h4
    · exact h.out d c (by omega) h2 h3 h4

/-! ### The board's map -/
abbrev BL := List ((Int × Int) × Int × Nat)
theorem mfind_app {κ ν : Type} [DecidableEq κ] {p : κ × ν × Nat} {a : κ} : ∀ {L : List (κ × ν × Nat)}, mfind (L ++ [p]) a = match mfind L a with | some q => some q | none => if a = p.1 then some (L.length, p.2.1) else none
  | [] => by
    simp only [List.nil_append, mfind, List.length_nil]
    split <;> rfl
  | q :: L => by
    simp only [List.cons_append, mfind]
    by_cases h : a = q.1
    · rw [if_pos h, if_pos h]
    · rw [if_neg h, if_neg h, mfind_app (L := L)]
      cases mfind L a with
      | some r => rfl
      | none =>
        simp only [Option.map_none, List.length_cons]
        split <;> rfl
theorem mfind_erase {κ ν : Type} [DecidableEq κ] {a b : κ} : ∀ {L : List (κ × ν × Nat)} {i : Nat} {u : ν}, mfind L b = some (i, u) → a ≠ b → (mfind (L.eraseIdx i) a).map (·.2) = (mfind L a).map (·.2)
  | [], _, _, h, _ => nomatch h
  | p :: L, i, u, h, hne => by
    simp only [mfind] at h
    by_cases hb : b = p.1
    · rw [if_pos hb] at h
      cases h
      rw [List.eraseIdx_zero, List.tail_cons, mfind, if_neg (fun h => hne (h.trans hb.symm)), Option.map_map]
      rfl
    · rw [if_neg hb] at h
      obtain ⟨q, hq, he⟩ := Option.map_eq_some_iff.1 h
      cases he
      rw [List.eraseIdx_cons_succ, mfind, mfind]
      by_cases ha : a = p.1
      · rw [if_pos ha, if_pos ha]
      · rw [if_neg ha, if_neg ha, Option.map_map, Option.map_map]
        have := mfind_erase (L := L) (i := q.1) (u := q.2) (by rw [hq]) hne
        exact this
abbrev kk2 (d c : Nat) : Int × Int := ((d : Nat), (c : Nat))
theorem kk2_eq {d c d' c' : Nat} : kk2 d c = kk2 d' c' ↔ d = d' ∧ c = c' := by
  constructor
  · intro h
    have h1 := congrArg Prod.fst h
    have h2 := congrArg Prod.snd h
    simp only at h1 h2
    exact ⟨by omega, by omega⟩
  · rintro ⟨rfl, rfl⟩; rfl
/-- the map knows the numbers from a day on -/
def MYes (k : K) (dd : Nat) (L : BL) : Prop := ∀ d c, dd ≤ d → d < k.sales.length → c ≤ d * k.most.toNat → lrow k (mK k) (k.sales.length - d) c < never → ∃ i, mfind L (kk2 d c) = some (i, ((bx k (k.sales.length - (d + 1)) c : Nat) : Int))
structure MOk (k : K) (dd : Nat) (L : BL) : Prop where
  yes : MYes k dd L
  no : ∀ d c : Nat, d < dd → mfind L (kk2 d c) = none
structure MRow (k : K) (dn c : Nat) (L : BL) : Prop where
  yes : MYes k (dn + 1) L
  row : ∀ c', c' < c → lrow k (mK k) (k.sales.length - dn) c' < never → ∃ i, mfind L (kk2 dn c') = some (i, ((bx k (k.sales.length - (dn + 1)) c' : Nat) : Int))
  no : ∀ d c : Nat, d < dn → mfind L (kk2 d c) = none
  nor : ∀ c', c ≤ c' → mfind L (kk2 dn c') = none
theorem MOk.start (k : K) : MOk k k.sales.length [] := ⟨fun d c h1 h2 => by omega, fun _ _ _ => rfl⟩
theorem MOk.row {k : K} {dn : Nat} {L : BL} (h : MOk k (dn + 1) L) : MRow k dn 0 L := ⟨h.yes, fun c' hc => absurd hc (Nat.not_lt_zero _), fun d c hd => h.no d c (by omega), fun c' _ => h.no dn c' (by omega)⟩
theorem MRow.skip {k : K} {dn c : Nat} {L : BL} (h : MRow k dn c L) (hu : never ≤ lrow k (mK k) (k.sales.length - dn) c) : MRow k dn (c + 1) L :=
  ⟨h.yes, fun c' hc hl => by
    by_cases e : c' = c
    · subst e; omega
    · exact h.row c' (by omega) hl, h.no, fun c' hc => h.nor c' (by omega)⟩
theorem MRow.add {k : K} {dn c : Nat} {L : BL} {u : Int} (clk : Nat) (h : MRow k dn c L) (hu : u = (bx k (k.sales.length - (dn + 1)) c : Nat)) : MRow k dn (c + 1) (L ++ [(kk2 dn c, u, clk)]) := by
  subst hu
  refine ⟨fun d c' h1 h2 h3 h4 => ?_, fun c' hc hl => ?_, fun d c' hd => ?_, fun c' hc => ?_⟩
  · obtain ⟨i, hi⟩ := h.yes d c' h1 h2 h3 h4
    exact ⟨i, by rw [mfind_app, hi]⟩
  · by_cases e : c' = c
    · subst e
      exact ⟨L.length, by rw [mfind_app, h.nor c' (Nat.le_refl _)]; simp only [if_true]⟩
    · obtain ⟨i, hi⟩ := h.row c' (by omega) hl
      exact ⟨i, by rw [mfind_app, hi]⟩
  · rw [mfind_app, h.no d c' hd]
    exact if_neg fun he => by have := kk2_eq.1 he; omega
  · rw [mfind_app, h.nor c' (by omega)]
    exact if_neg fun he => by have := kk2_eq.1 he; omega
theorem MRow.done {k : K} {dn : Nat} {L : BL} (h : MRow k dn (dn * k.most.toNat + 1) L) : MOk k dn L := by
  refine ⟨fun d c h1 h2 h3 h4 => ?_, h.no⟩
  by_cases e : d = dn
  · subst e; exact h.row c (by omega) h4
  · exact h.yes d c (by omega) h2 h3 h4
theorem MYes.erase {k : K} {d c i : Nat} {u : Int} {L : BL} (h : MYes k d L) (hf : mfind L (kk2 d c) = some (i, u)) : MYes k (d + 1) (L.eraseIdx i) := by
  intro d' c' h1 h2 h3 h4
  obtain ⟨j, hj⟩ := h d' c' (by omega) h2 h3 h4
  have := mfind_erase (a := kk2 d' c') hf fun he => by have := kk2_eq.1 he; omega
  rw [hj] at this
  obtain ⟨q, hq, he⟩ := Option.map_eq_some_iff.1 this
  exact ⟨q.1, by rw [hq]; exact congrArg some (Prod.ext rfl he)⟩
end Go.Ax
