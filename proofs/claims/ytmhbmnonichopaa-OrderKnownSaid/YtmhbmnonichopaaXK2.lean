/-
  The strict machine's operations against the abstract machine's.
-/
import Derived.Test.YtmhbmnonichopaaXK1
namespace Go.Ax.K

def FWf : FB → Prop
  | .cells n base _ _ => base.length = n
  | .other _ => True
def WF (h : HK) : Prop := ∀ b x, get h b = some x → FWf x
theorem WF.set {h : HK} {n w b : Nat} {x : FB} (hw : WF h) (hx : FWf x) : WF ⟨n, w, h.m.set b x⟩ := by
  intro c y hy
  simp only [get, getP_eq, PT.get_set] at hy
  split at hy
  · cases hy; exact hx
  · exact hw c y (by simpa only [get, getP_eq] using hy)
theorem WF.same {h h' : HK} (hw : WF h) (hm : h'.m = h.m) : WF h' := by
  intro c y hy
  exact hw c y (by simpa only [get, hm] using hy)

theorem merge_length (t : PT AV) : ∀ (i : Nat) (l : List AV), (merge t i l).length = l.length
  | _, [] => rfl
  | i, x :: l => by simp [merge, merge_length t (i + 1) l]
theorem merge_nil : ∀ (i : Nat) (l : List AV), merge .nil i l = l
  | _, [] => rfl
  | i, x :: l => by simp [merge, merge_nil (i + 1) l, PT.get_nil]
theorem merge_get (t : PT AV) : ∀ (i : Nat) (l : List AV) (j : Nat), (merge t i l)[j]? = (l[j]?).map fun x => (t.get (i + j)).getD x
  | _, [], j => by simp [merge]
  | i, x :: l, 0 => by simp [merge]
  | i, x :: l, j + 1 => by
    simp only [merge, List.getElem?_cons_succ]
    rw [merge_get t (i + 1) l j, show i + 1 + j = i + (j + 1) by omega]

theorem lenK_eq : ∀ (l : List AV) (n : Nat) (k : Nat → Bool), lenK l n k = k (n + l.length)
  | [], _, _ => rfl
  | x :: l, n, k => by
    show fN (Nat.succ n) (fun n => lenK l n k) = _
    rw [fN_eq, lenK_eq l]
    congr 1
    simp; omega
theorem ofK_true {x : ABlk} {k : FB → Bool} (h : ofK x k = true) : ∃ y, FWf y ∧ y.abs = x ∧ k y = true := by
  cases x with
  | cells l own =>
    have h : lenK l 0 (fun n => k (.cells n l .nil own)) = true := h
    rw [lenK_eq, Nat.zero_add] at h
    exact ⟨.cells l.length l .nil own, (rfl : l.length = l.length), by simp [FB.abs, merge_nil], h⟩
  | _ => exact ⟨.other _, trivial, rfl, h⟩
theorem puts_true : ∀ {l : List (Nat × ABlk)} {h : HK} {k : HK → Bool}, WF h → puts h l k = true → ∃ h', WF h' ∧ h'.abs = h.abs.puts l ∧ k h' = true
  | [], h, k, hw, hk => ⟨h, hw, rfl, hk⟩
  | (b, x) :: l, h, k, hw, hk => by
    have hk : ofK x (fun x => put h b x fun h => puts h l k) = true := hk
    obtain ⟨y, hy, hx, hk⟩ := ofK_true hk
    rw [put_eq] at hk
    obtain ⟨h', h1, h2, h3⟩ := puts_true (hw.set hy) hk
    refine ⟨h', h1, ?_, h3⟩
    rw [h2, put_abs, hx]; rfl
theorem all_true : ∀ {l : List Nat} {h : HK} {bs : List ABlk}, all h l = some bs → getAll h.abs l = some bs
  | [], _, _, hk => hk
  | b :: l, h, bs, hk => by
    have hk : (@Option.rec FB (fun _ => Option (List ABlk)) none (fun x => @Option.rec (List ABlk) (fun _ => Option (List ABlk)) none (fun xs => some (x.abs :: xs)) (all h l)) (get h b)) = some bs := hk
    simp only [getAll]
    rw [get_abs]
    cases hg : get h b with
    | none => rw [hg] at hk; cases hk
    | some x =>
      rw [hg] at hk
      cases ha : all h l with
      | none => rw [ha] at hk; cases hk
      | some xs =>
        rw [ha] at hk
        cases hk
        rw [all_true ha]
        rfl

def LocOk (l : Loc) (aid : Nat) (h : HK) (k : KV) : Prop := ∃ q, l.run aid h.abs = some q ∧ ∃ h', WF h' ∧ h'.abs = q.2.1 ∧ k q.1 h' q.2.2 = true
theorem gen_ok {l : Loc} {aid : Nat} {h : HK} {k : KV} (hw : WF h) (hk : gen l aid h k = true) : LocOk l aid h k := by
  obtain ⟨bs, hbs, hk⟩ := oC_some hk
  obtain ⟨⟨v, ups, nw⟩, hf, hk⟩ := oC_some hk
  obtain ⟨h1, hw1, ha1, hk⟩ := puts_true hw hk
  cases nw with
  | none =>
    have hk : fW v (fun v => k v h1 (.loc l.rd (ups.map (·.1)) none)) = true := hk
    rw [fW_eq] at hk
    exact ⟨_, loc_run_iff.2 ⟨bs, v, ups, none, all_true hbs, hf, rfl⟩, h1, hw1, ha1, hk⟩
  | some x =>
    have hk : ofK x (fun x => new h1 aid x fun h => fW (atNew aid v) fun v => k v h (.loc l.rd (ups.map (·.1)) (some aid))) = true := hk
    obtain ⟨y, hy, hx, hk⟩ := ofK_true hk
    rw [new_eq, fW_eq] at hk
    refine ⟨_, loc_run_iff.2 ⟨bs, v, ups, some x, all_true hbs, hf, rfl⟩, _, hw1.set hy, ?_, hk⟩
    rw [new_abs, ha1, hx]; rfl
theorem val_ok {r : Option AV} {v : AV} {aid : Nat} {h : HK} {k : KV} (hw : WF h) (hr : r = some v) (hk : k v h fp0 = true) : LocOk (Loc.val r) aid h k :=
  ⟨_, by rw [Loc.run_val, hr]; rfl, h, hw, rfl, hk⟩

theorem ev_eq (x : AO) (e : Env) : ev x e = x.ev e := by
  cases x with
  | tmp t => exact getE_eq e t
  | _ => rfl
theorem evs_eq (e : Env) : ∀ (l : List AO) (k : List AV → Bool), evs e l k = k (l.map (·.ev e))
  | [], _ => rfl
  | x :: l, k => by
    show fV (ev x e) (fun v => evs e l fun l => k (v :: l)) = _
    rw [fV_eq, evs_eq e l, ev_eq]; rfl
theorem vPtr_true {v : AV} {k : Nat → Nat → Bool} (h : vPtr v k = true) : ∃ b o, v = .ptr (some (b, o)) ∧ k b o = true := by
  cases v <;> first | (cases h; done) | skip
  rename_i a
  cases a with
  | none => cases h
  | some p => exact ⟨p.1, p.2, rfl, h⟩
theorem vInt_true {v : AV} {k : IntKind → Int → Bool} (h : vInt v k = true) : ∃ kd n, v = .int kd n ∧ k kd n = true := by
  cases v <;> first | (cases h; done) | exact ⟨_, _, rfl, h⟩
theorem vBool_true {v : AV} {k : Bool → Bool} (h : vBool v k = true) : ∃ b, v = .bool b ∧ k b = true := by
  cases v <;> first | (cases h; done) | exact ⟨_, rfl, h⟩
theorem vSlc_true {v : AV} {k : Nat → Nat → Nat → Bool} (h : vSlc v k = true) : ∃ b o n c ex es, v = .slc (some (b, o)) n c ex es ∧ k b o n = true := by
  cases v <;> first | (cases h; done) | skip
  rename_i a n c ex es
  cases a with
  | none => cases h
  | some p => exact ⟨p.1, p.2, n, c, ex, es, rfl, h⟩
theorem natOf_true {n : Int} {k : Nat → Bool} (h : natOf n k = true) : ∃ m : Nat, n = m ∧ k m = true := by
  cases n with
  | ofNat m => exact ⟨m, rfl, h⟩
  | negSucc m => cases h
end Go.Ax.K
