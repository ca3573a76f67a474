/-
  Plain: what the functions over nets tell.
-/
import Derived.Test.YtjcehnfhkgbpiaaXNB
namespace Go.Ax
set_option linter.unusedSimpArgs false
set_option linter.unusedVariables false
attribute [-simp] List.getD_eq_getElem?_getD
def badF (T : Int) (u : Fl) : Bool := decide (u.f < 0 ∨ T < u.f ∨ u.t < 0 ∨ T < u.t ∨ u.f = u.t ∨ u.lo < 0 ∨ u.hi < u.lo ∨ 100000 < u.hi)
def chkN (T : Int) (fs : List Fl) : Int := if T < 1 ∨ 12 < T then 2 else if 40 < fs.length then 6 else if fs.any (badF T) = true then 3 else 0
structure Net (T : Int) (fs : List Fl) : Prop where
  t : 1 ≤ T ∧ T ≤ 12
  n : fs.length ≤ 40
  u : ∀ i, i < fs.length → 0 ≤ (gF fs i).f ∧ (gF fs i).f ≤ T ∧ 0 ≤ (gF fs i).t ∧ (gF fs i).t ≤ T ∧ (gF fs i).f ≠ (gF fs i).t ∧ 0 ≤ (gF fs i).lo ∧ (gF fs i).lo ≤ (gF fs i).hi ∧ (gF fs i).hi ≤ 100000
theorem gF_get {fs : List Fl} {i : Nat} (h : i < fs.length) : gF fs i = fs[i] := by simp [gF, List.getD, List.getElem?_eq_getElem h]
theorem chkN_net {T : Int} {fs : List Fl} : chkN T fs = 0 ↔ Net T fs := by
  unfold chkN
  constructor
  · intro h
    split at h
    · cases h
    · split at h
      · cases h
      · split at h
        · cases h
        · rename_i h1 h2 h3
          refine ⟨by omega, by omega, fun i hi => ?_⟩
          have h4 : badF T (gF fs i) = false := by
            rw [gF_get hi]
            cases h : badF T fs[i] with
            | false => rfl
            | true => exact absurd (List.any_eq_true.2 ⟨_, List.getElem_mem hi, h⟩) h3
          have := of_decide_eq_false h4
          omega
  · rintro ⟨h1, h2, h3⟩
    rw [if_neg (by omega), if_neg (by omega), if_neg]
    intro h
    obtain ⟨u, hu, hb⟩ := List.any_eq_true.1 h
    obtain ⟨i, hi, rfl⟩ := List.mem_iff_getElem.1 hu
    have h4 := h3 i hi
    rw [gF_get hi] at h4
    have := of_decide_eq_true hb
    omega
section
variable {T : Int} {fs : List Fl}
theorem Net.ends (h : Net T fs) : Ends T fs := ⟨by have := h.t; omega, fun i hi => by have := h.u i hi; omega⟩
theorem Net.ne (h : Net T fs) : ∀ i, i < fs.length → (gF fs i).f ≠ (gF fs i).t := fun i hi => (h.u i hi).2.2.2.2.1
theorem inRg.nn {x : List Int} (hr : inRg fs x) (h : Net T fs) : ∀ i, i < fs.length → 0 ≤ x.getD i 0 ∧ x.getD i 0 ≤ 100000 := fun i hi => by have := hr.2 i hi; have := h.u i hi; omega
def outI (fs : List Fl) (x : List Int) (i : Nat) : Bool := decide (x.getD i 0 < (gF fs i).lo ∨ (gF fs i).hi < x.getD i 0)
def chkT (T : Int) (fs : List Fl) (x : List Int) : Int :=
  if chkN T fs ≠ 0 then chkN T fs else if x.length ≠ fs.length then 15 else if (List.range fs.length).any (outI fs x) = true then 3
  else if (List.range (T.toNat + 1)).any (fun t => decide (ov fs x fs.length (t : Nat) ≠ 0)) = true then 14 else 0
def hasT (l : List Int) (t : Int) : Bool := decide (t ∈ l)
def prevAt (l : List Int) (i : Nat) : Int := if i = 0 then -1 else l.getD (i - 1) 0
def badS (T : Int) (l : List Int) (i : Nat) : Bool := decide (l.getD i 0 ≤ prevAt l i ∨ T < l.getD i 0)
def rise (T : Int) (l : List Int) : Bool := !(List.range l.length).any (badS T l)
def shortR (T : Int) (fs : List Fl) (l : List Int) : Int × Int :=
  if chkN T fs ≠ 0 then (0, chkN T fs) else if rise T l = false then (0, 3) else if shB fs (hasT l) ≤ 0 then (0, 5) else (shB fs (hasT l), 0)
def bndR (T : Int) (fs : List Fl) (k : Int) (high : Bool) (l : List Int) : Int × Int :=
  if chkN T fs ≠ 0 then (0, chkN T fs) else if k < 0 ∨ (fs.length : Int) ≤ k ∨ rise T l = false then (0, 3)
  else if l.length = 0 then (bif high then (gF fs k.toNat).hi else (gF fs k.toNat).lo, 0)
  else if hasT l (gF fs k.toNat).f = false ∨ hasT l (gF fs k.toNat).t = true then (0, 16) else (bndS fs k.toNat high (hasT l), 0)
def pickL (T : Int) (p : Int → Bool) : List Int := ((List.range (T.toNat + 1)).map fun t => ((t : Nat) : Int)).filter p
theorem mem_pick (p : Int → Bool) {t : Int} : t ∈ pickL T p ↔ (0 ≤ t ∧ t ≤ (T.toNat : Int)) ∧ p t = true := by
  unfold pickL
  rw [List.mem_filter, List.mem_map]
  constructor
  · rintro ⟨⟨i, hi, rfl⟩, h⟩
    have := List.mem_range.1 hi
    exact ⟨by omega, h⟩
  · rintro ⟨h1, h2⟩
    exact ⟨⟨t.toNat, List.mem_range.2 (by omega), by omega⟩, h2⟩
theorem hasT_pick (h : 0 ≤ T) (p : Int → Bool) {t : Int} (ht : 0 ≤ t ∧ t ≤ T) : hasT (pickL T p) t = p t := by
  unfold hasT
  cases e : p t with
  | true => exact decide_eq_true ((mem_pick p).2 ⟨by omega, e⟩)
  | false => exact decide_eq_false fun h => by rw [((mem_pick p).1 h).2] at e; cases e
theorem shB_congr {S S' : Int → Bool} (hE : Ends T fs) (h : ∀ t, 0 ≤ t → t ≤ T → S t = S' t) : shB fs S = shB fs S' := sumN_congr fun i hi => by
  have := hE.e i hi
  unfold shI
  rw [h _ this.1 this.2.1, h _ this.2.2.1 this.2.2.2]
theorem bndS_congr {S S' : Int → Bool} {k : Nat} {high : Bool} (hE : Ends T fs) (h : ∀ t, 0 ≤ t → t ≤ T → S t = S' t) : bndS fs k high S = bndS fs k high S' := sumN_congr fun i hi => by
  have := hE.e i hi
  unfold bndI
  rw [h _ this.1 this.2.1, h _ this.2.2.1 this.2.2.2]
theorem pair_get {l : List Int} (h : l.Pairwise (· < ·)) {i j : Nat} (hij : i < j) (hj : j < l.length) : l.getD i 0 < l.getD j 0 := by
  have := List.pairwise_iff_getElem.1 h i j (by omega) hj hij
  simpa [List.getD, List.getElem?_eq_getElem hj, List.getElem?_eq_getElem (show i < l.length by omega)] using this
theorem rise_of {l : List Int} (h : l.Pairwise (· < ·)) (hT : ∀ t ∈ l, 0 ≤ t ∧ t ≤ T) : rise T l = true := by
  unfold rise
  rw [Bool.not_eq_true', List.any_eq_false]
  intro i hi
  have hi := List.mem_range.1 hi
  have h1 := hT (l.getD i 0) (by simp [List.getD, List.getElem?_eq_getElem hi])
  unfold badS prevAt
  rw [decide_eq_true_eq]
  split
  · omega
  · have := pair_get h (show i - 1 < i by omega) hi
    omega
theorem pick_pair (p : Int → Bool) : (pickL T p).Pairwise (· < ·) := by
  unfold pickL
  refine List.Pairwise.filter _ ?_
  rw [List.pairwise_map]
  exact (List.pairwise_lt_range).imp fun h => by omega
theorem pick_rise (h : 0 ≤ T) (p : Int → Bool) : rise T (pickL T p) = true := rise_of (pick_pair p) fun t ht => by have := ((mem_pick p).1 ht).1; omega
theorem Clo.lack {x : List Int} {S : Int → Bool} {a : Int} (h : Net T fs) (hr : inRg fs x) (c : Clo fs x (-1) S) (ha : S a = true) (hT : 0 ≤ a ∧ a ≤ T) (hp : 0 < ov fs x fs.length a) (hn : ∀ t, 0 ≤ t → t ≤ T → S t = true → 0 ≤ ov fs x fs.length t) : 0 < shB fs (fun t => !S t) := by
  rw [c.short hr, ← ov_set S h.ends (Nat.le_refl _)]
  have := sumN_pos (g := fun t => if S (t : Nat) = true then ov fs x fs.length (t : Nat) else 0) (n := T.toNat + 1) (fun t ht => by
    show 0 ≤ if S (t : Nat) = true then _ else _
    split
    · rename_i hS; exact hn _ (by omega) (by omega) hS
    · exact Int.le_refl _) (j := a.toNat) (by omega)
  have e : ((a.toNat : Nat) : Int) = a := by omega
  simp only [e, ha, if_true] at this
  omega
theorem no_truth {S : Int → Bool} (h : Net T fs) (hs : 0 < shB fs S) : ¬ ∃ x, IsT T fs x := fun ⟨x, hx⟩ => by have := hx.short h.ends S; omega
theorem shB_nil : shB fs (hasT []) = 0 := sumN_zero fun i _ => by unfold shI hasT; simp
theorem shortR_of {p : Int → Bool} (h : Net T fs) (hs : 0 < shB fs p) : shortR T fs (pickL T p) = (shB fs p, 0) ∧ pickL T p ≠ [] := by
  have hE := h.ends
  have e : shB fs (hasT (pickL T p)) = shB fs p := shB_congr hE fun t h1 h2 => hasT_pick hE.z p ⟨h1, h2⟩
  refine ⟨?_, fun hn => ?_⟩
  · unfold shortR
    rw [if_neg (by rw [chkN_net.2 h]; decide), if_neg (by rw [pick_rise hE.z]; simp), e, if_neg (by omega)]
  · rw [hn, shB_nil] at e; omega
structure LoEnd (T : Int) (fs : List Fl) (k : Nat) (v : Int) : Prop where
  r : ∃ x, IsT T fs x ∧ x.getD k 0 = v
  b : ∀ x, IsT T fs x → v ≤ x.getD k 0
structure HiEnd (T : Int) (fs : List Fl) (k : Nat) (v : Int) : Prop where
  r : ∃ x, IsT T fs x ∧ x.getD k 0 = v
  b : ∀ x, IsT T fs x → x.getD k 0 ≤ v
theorem bndR_of {p : Int → Bool} {k : Nat} {high : Bool} (h : Net T fs) (hk : k < fs.length) (h1 : p (gF fs k).f = true) (h2 : p (gF fs k).t = false) : bndR T fs k high (pickL T p) = (bndS fs k high p, 0) := by
  have hE := h.ends
  have hk' := h.u k hk
  have e : bndS fs k high (hasT (pickL T p)) = bndS fs k high p := bndS_congr hE fun t h1 h2 => hasT_pick hE.z p ⟨h1, h2⟩
  have e1 : hasT (pickL T p) (gF fs k).f = true := by rw [hasT_pick hE.z p ⟨hk'.1, hk'.2.1⟩]; exact h1
  have e2 : hasT (pickL T p) (gF fs k).t = false := by rw [hasT_pick hE.z p ⟨hk'.2.2.1, hk'.2.2.2.1⟩]; exact h2
  have hn : (pickL T p).length ≠ 0 := fun hn => by
    rw [List.length_eq_zero_iff.1 hn] at e1
    cases e1
  unfold bndR
  rw [if_neg (by rw [chkN_net.2 h]; decide), if_neg (by rw [pick_rise hE.z]; simp; omega), if_neg hn]
  rw [show ((k : Nat) : Int).toNat = k by omega, if_neg (by rw [e1, e2]; simp), e]
end
end Go.Ax
