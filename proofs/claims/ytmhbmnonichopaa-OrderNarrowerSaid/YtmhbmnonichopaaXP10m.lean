/-
  Plain: kinds with a narrower Start, narrower Sales, a greater Cap, a greater Most.
-/
import Derived.Test.YtmhbmnonichopaaXW1
namespace Go.Ax
set_option linter.unusedSimpArgs false
set_option linter.unusedVariables false
theorem Vk.chk {k : K} (hv : Vk k) : Go.Ax.chk k = 0 := by
  have h := hv.n1; have h' := hv.n2; have h3 := hv.n3
  unfold Go.Ax.chk
  rw [if_neg (by omega), if_neg (by omega)]
  have c1 := hv.cap1; have c2 := hv.cap2; have c3 := hv.load1; have c4 := hv.load2; have c5 := hv.most1; have c6 := hv.most2; have c7 := hv.start; have c8 := hv.shi; have c9 := hv.slo
  rw [if_neg (by omega), if_neg]
  rw [bad_any h3]
  rintro ⟨d, hd, hb⟩
  have := hv.sale d hd
  have := hv.cost d (by omega)
  unfold badDay at hb
  rcases hb with hb | hb | hb
  · rw [vr_false] at hb; omega
  · omega
  · omega
theorem narrow_in {a b l h : Int} (hab : a ≤ b) (hl : 0 ≤ l) (hh : 0 ≤ h) : a ≤ (narrowR (a, b) l h).1 ∧ (narrowR (a, b) l h).1 ≤ (narrowR (a, b) l h).2 ∧ (narrowR (a, b) l h).2 ≤ b := by
  simp only [narrowR]
  omega
def kStart (k : K) (l h : Int) : K := { k with slo := (narrowR (k.slo, k.shi) l h).1, shi := (narrowR (k.slo, k.shi) l h).2 }
def kSales (k : K) (j : Nat) (l h : Int) : K := { k with sales := k.sales.set j (narrowR (k.sales.getD j (0, 0)) l h) }
def kCap (k : K) (c : Int) : K := { k with cap := min 100000 (k.cap + c) }
def kMost (k : K) (m : Int) : K := { k with most := min 10 (k.most + m) }
theorem getD_setR {rs : List (Int × Int)} {j d : Nat} {z : Int × Int} (h : j < rs.length) : (rs.set j z).getD d (0, 0) = if d = j then z else rs.getD d (0, 0) := by
  by_cases e : d = j
  · subst e; rw [if_pos rfl]; simp [List.getD, h]
  · rw [if_neg e]; simp [List.getD, List.getElem?_set_ne (Ne.symm e)]
theorem kStart_ok {k : K} {l h : Int} (hv : Vk k) (hl : 0 ≤ l) (hh : 0 ≤ h) : Go.Ax.chk (kStart k l h) = 0 ∧ Easier k (kStart k l h) := by
  have h1 := narrow_in hv.start hl hh
  have c8 := hv.shi; have c9 := hv.slo
  have hlk : ∀ d, lk (kStart k l h) d ≤ lk k d := by
    intro d
    induction d with
    | zero => simp only [lk, kStart]; omega
    | succ d ih =>
      simp only [lk]
      show lk (kStart k l h) d + (k.sales.getD d (0, 0)).2 ≤ _
      omega
  have hlf : ∀ d, lf k d ≤ lf (kStart k l h) d := by
    intro d
    induction d with
    | zero => simp only [lf, kStart]; omega
    | succ d ih =>
      simp only [lf]
      show _ ≤ lf (kStart k l h) d + (k.sales.getD d (0, 0)).1
      omega
  refine ⟨Vk.chk ⟨hv.n1, hv.n2, hv.n3, hv.cap1, hv.cap2, hv.load1, hv.load2, hv.most1, hv.most2, ?_, ?_, ?_, hv.sale, hv.cost⟩, ⟨rfl, rfl, rfl, Int.le_refl _, fun d _ => hlk d, fun d _ => hlf d⟩⟩
  · show 0 ≤ (narrowR (k.slo, k.shi) l h).1; omega
  · show (narrowR (k.slo, k.shi) l h).1 ≤ (narrowR (k.slo, k.shi) l h).2; omega
  · show (narrowR (k.slo, k.shi) l h).2 ≤ k.cap; omega
theorem kSales_ok {k : K} {j : Nat} {l h : Int} (hv : Vk k) (hj : j < k.sales.length) (hl : 0 ≤ l) (hh : 0 ≤ h) : Go.Ax.chk (kSales k j l h) = 0 ∧ Easier k (kSales k j l h) := by
  have hs := hv.sale j hj
  have h1 : (k.sales.getD j (0, 0)).1 ≤ (narrowR (k.sales.getD j (0, 0)) l h).1 ∧ (narrowR (k.sales.getD j (0, 0)) l h).1 ≤ (narrowR (k.sales.getD j (0, 0)) l h).2 ∧ (narrowR (k.sales.getD j (0, 0)) l h).2 ≤ (k.sales.getD j (0, 0)).2 := narrow_in hs.2.1 hl hh
  have e1 : (kSales k j l h).sales.length = k.sales.length := by simp [kSales]
  have hget : ∀ d, (kSales k j l h).sales.getD d (0, 0) = if d = j then narrowR (k.sales.getD j (0, 0)) l h else k.sales.getD d (0, 0) := fun d => getD_setR hj
  have hlk : ∀ d, lk (kSales k j l h) d ≤ lk k d := by
    intro d
    induction d with
    | zero => exact Int.le_refl _
    | succ d ih =>
      simp only [lk]
      rw [hget]
      split
      · rename_i e; subst e; omega
      · omega
  have hlf : ∀ d, lf k d ≤ lf (kSales k j l h) d := by
    intro d
    induction d with
    | zero => exact Int.le_refl _
    | succ d ih =>
      simp only [lf]
      rw [hget]
      split
      · rename_i e; subst e; omega
      · omega
  refine ⟨Vk.chk ⟨by rw [e1]; exact hv.n1, by rw [e1]; exact hv.n2, by rw [e1]; exact hv.n3, hv.cap1, hv.cap2, hv.load1, hv.load2, hv.most1, hv.most2, hv.slo, hv.start, hv.shi, ?_, fun d hd => hv.cost d (by rw [e1] at hd; exact hd)⟩, ⟨rfl, e1, rfl, Int.le_refl _, fun d _ => hlk d, fun d _ => hlf d⟩⟩
  intro d hd
  rw [e1] at hd
  have := hv.sale d hd
  rw [hget]
  split <;> omega
theorem kCap_ok {k : K} {c : Int} (hv : Vk k) (hc : 0 ≤ c) : Go.Ax.chk (kCap k c) = 0 ∧ Easier k (kCap k c) := by
  have c1 := hv.cap1; have c2 := hv.cap2; have c8 := hv.shi
  have hlk : ∀ d, lk (kCap k c) d ≤ lk k d := by
    intro d
    induction d with
    | zero => exact Int.le_refl _
    | succ d ih =>
      simp only [lk]
      show lk (kCap k c) d + (k.sales.getD d (0, 0)).2 ≤ _
      omega
  have hlf : ∀ d, lf k d ≤ lf (kCap k c) d := by
    intro d
    induction d with
    | zero => simp only [lf, kCap]; omega
    | succ d ih =>
      simp only [lf]
      show _ ≤ lf (kCap k c) d + (k.sales.getD d (0, 0)).1
      omega
  refine ⟨Vk.chk ⟨hv.n1, hv.n2, hv.n3, ?_, ?_, hv.load1, hv.load2, hv.most1, hv.most2, hv.slo, hv.start, ?_, hv.sale, hv.cost⟩, ⟨rfl, rfl, rfl, Int.le_refl _, fun d _ => hlk d, fun d _ => hlf d⟩⟩
  · show 1 ≤ min 100000 (k.cap + c); omega
  · show min 100000 (k.cap + c) ≤ 100000; omega
  · show k.shi ≤ min 100000 (k.cap + c); omega
theorem kMost_ok {k : K} {m : Int} (hv : Vk k) (hm : 0 ≤ m) : Go.Ax.chk (kMost k m) = 0 ∧ Easier k (kMost k m) := by
  have c5 := hv.most1; have c6 := hv.most2
  have hlk : ∀ d, lk (kMost k m) d ≤ lk k d := by
    intro d
    induction d with
    | zero => exact Int.le_refl _
    | succ d ih =>
      simp only [lk]
      show lk (kMost k m) d + (k.sales.getD d (0, 0)).2 ≤ _
      omega
  have hlf : ∀ d, lf k d ≤ lf (kMost k m) d := by
    intro d
    induction d with
    | zero => exact Int.le_refl _
    | succ d ih =>
      simp only [lf]
      show _ ≤ lf (kMost k m) d + (k.sales.getD d (0, 0)).1
      omega
  refine ⟨Vk.chk ⟨hv.n1, hv.n2, hv.n3, hv.cap1, hv.cap2, hv.load1, hv.load2, ?_, ?_, hv.slo, hv.start, hv.shi, hv.sale, hv.cost⟩, ⟨rfl, rfl, rfl, ?_, fun d _ => hlk d, fun d _ => hlf d⟩⟩
  · show 0 ≤ min 10 (k.most + m); omega
  · show min 10 (k.most + m) ≤ 10; omega
  · show k.most ≤ min 10 (k.most + m); omega
/-- what is asked of an easier kind -/
structure EasyFacts (k k' : K) (p : List Int) : Prop where
  err : (bestR k').2.2 = 0 ∨ (bestR k').2.2 = 13
  best : (bestR k).2.2 = 0 → (bestR k').2.2 = 0 ∧ (bestR k').2.1 ≤ (bestR k).2.1
  plan : (cpv k p).2 = 0 → cpv k' p = cpv k p
theorem easy_facts {k k' : K} (hc : Go.Ax.chk k = 0) (h : Go.Ax.chk k' = 0 ∧ Easier k k') (p : List Int) : EasyFacts k k' p :=
  ⟨(h.2.best hc h.1).1, (h.2.best hc h.1).2, fun h0 => h.2.plan h.1 h0⟩
end Go.Ax
