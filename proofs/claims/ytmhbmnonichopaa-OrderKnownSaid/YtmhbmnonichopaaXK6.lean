/-
  The strict machine's calls, rounds of maps, regions.
-/
import Derived.Test.YtmhbmnonichopaaXK5
namespace Go.Ax.K
variable {call : CfK} {callA : Cf}

theorem call_ok (hc : CallOk call callA) (f : AO) (args : List AO) : OpOk call callA (.call f args) (oCall f args) := by
  intro e aid h k hw hk
  obtain ⟨n, w, m⟩ := h
  have hk : fV (ev f e) (fun f => evs e args fun args => call f args ⟨n, n, m⟩ fun v h' => hC h' fun n' w' m' => fN (@Bool.rec (fun _ => Nat) w' w (Nat.ble w w')) fun w2 => k v ⟨n', w2, m'⟩ (.call n (Nat.ble n w'))) = true := hk
  rw [fV_eq, evs_eq, ev_eq] at hk
  have h1 := hc _ _ ⟨n, n, m⟩ _ (hw.same rfl) hk
  refine (T.all_bind _ _).2 (T.all_mono ?_ h1)
  rintro ⟨v, hA⟩ ⟨h', hw', ha, hk⟩
  obtain ⟨n', w', m'⟩ := h'
  have hq : fN (@Bool.rec (fun _ => Nat) w' w (Nat.ble w w')) (fun w2 => k v ⟨n', w2, m'⟩ (.call n (Nat.ble n w'))) = true := hk
  rw [fN_eq, ble_min] at hq
  have ha : HK.abs ⟨n', w', m'⟩ = hA := ha
  subst ha
  exact ⟨⟨n', min w w', m'⟩, hw'.same rfl, rfl, hq⟩

theorem allBelow_true {p : Nat → Bool} : ∀ {n : Nat}, allBelow p n = true → ∀ i, i < n → p i = true
  | 0, _, i, hi => by omega
  | n + 1, h, i, hi => by
    obtain ⟨h1, h2⟩ := bf_and (show bf (p n) (allBelow p n) false = true from h)
    by_cases e : i = n
    · subst e; exact h1
    · exact allBelow_true h2 i (by omega)

theorem next_ok (it : AO) : OpOk call callA (.next it) (oNext it) := by
  intro e aid h k hw hk
  obtain ⟨r, o, hv, hk⟩ := vPtr_true hk
  obtain ⟨ho, hk⟩ := bf_and hk
  have ho := Nat.eq_of_beq_eq_true ho
  subst ho
  obtain ⟨x, hg, hk⟩ := oC_some hk
  rw [ev_eq] at hv
  refine (T.all_bind _ _).2 ?_
  rw [show (it.ev e) = .ptr (some (r, 0)) from hv]
  have hgr : h.abs.get r = some x.abs := by rw [get_abs, hg]; rfl
  simp only [nextF, hgr]
  cases x with
  | cells n base t own => cases hk
  | other y =>
    cases y with
    | iter m since seen last =>
      cases m with
      | none => exact ⟨h, hw, rfl, hk⟩
      | some m =>
        obtain ⟨y, hg2, hk⟩ := oC_some hk
        have hgm : h.abs.get m = some y.abs := by rw [get_abs, hg2]; rfl
        simp only [FB.abs, hgm]
        cases y with
        | cells n base t own => cases hk
        | other z =>
          cases z with
          | map es clock =>
            simp only [FB.abs]
            rcases bf_true hk with ⟨_, hk⟩ | ⟨hc, hk⟩
            · cases hk
            · rw [if_neg (by rw [hc]; simp)]
              obtain ⟨hpos, hk⟩ := bf_and hk
              refine ⟨by simpa [Nat.blt_eq] using hpos, fun i hi => ?_⟩
              have hi := allBelow_true hk i hi
              obtain ⟨c, hcand, hi⟩ := oC_some hi
              simp only [hcand]
              cases c with
              | none => exact ⟨h, hw, rfl, hi⟩
              | some x =>
                have hi : put h r (.other (.iter (some m) since (seen ++ [x.born]) clock)) (fun h => k (.tup [.bool true, x.key, x.val]) h .big) = true := hi
                rw [put_eq] at hi
                exact ⟨_, hw.set (x := .other (.iter (some m) since (seen ++ [x.born]) clock)) trivial, by rw [put_abs]; rfl, hi⟩
          | _ => cases hk
    | _ => cases hk

theorem op_ok (hc : CallOk call callA) (op : AOp) : OpOk call callA op (opD op) := by
  cases op
  case mv => exact mv_ok _
  case nilchk => exact nilchk_ok _
  case pick => exact pick_ok _ _ _
  case alloc => exact alloc_ok _
  case box => exact box_ok _
  case build => exact build_ok _ _
  case load => exact load_ok _ _
  case store => exact store_ok _ _ _
  case bin => exact bin_ok _ _ _
  case un => exact un_ok _ _
  case mkfn => exact mkfn_ok _ _ _
  case faddr => exact faddr_ok _ _
  case iaddrA => exact iaddrA_ok _ _ _ _
  case iaddrS => exact iaddrS_ok _ _ _
  case next => exact next_ok _
  case ext => exact ext_ok _ _
  case call => exact call_ok hc _ _
  case len => exact len_ok _
  case clrS => exact clrS_ok _ _
  all_goals exact gOp_ok fun _ => rfl

theorem putE_eq (d : Option Nat) (e : Env) (v : AV) (k : Env → Bool) : putE d e v k = k (e.put d v) := by
  cases d with
  | none => rfl
  | some t => exact setP_eq _ _ _ _
theorem step_ok (hc : CallOk call callA) {aid : Nat} {o : AOper} {e : Env} {h : HK} {k : Env → HK → FP → Bool} (hw : WF h) (hk : stepK call aid o e h k = true) :
    (stepG callA aid o (e, h.abs)).all fun q => ∃ h', WF h' ∧ h'.abs = q.1.2 ∧ k q.1.1 h' q.2 = true := by
  obtain ⟨d, op, g⟩ := o
  have fin : ∀ {e : Env}, opD op call e aid h (fun v h fp => putE d e v fun e => k e h fp) = true → ((op.kind e).run callA aid h.abs).all fun q => ∃ h', WF h' ∧ h'.abs = q.2.1 ∧ k (e.put d q.1) h' q.2.2 = true := by
    intro e hk
    refine T.all_mono ?_ (op_ok hc op e aid h _ hw hk)
    rintro q ⟨h', h1, h2, h3⟩
    rw [putE_eq] at h3
    exact ⟨h', h1, h2, h3⟩
  refine (T.all_bind _ _).2 ?_
  cases g with
  | none => exact fin hk
  | some p =>
    obtain ⟨t, want⟩ := p
    obtain ⟨b, hb, hk⟩ := vBool_true (show vBool (getE e t) _ = true from hk)
    rw [getE_eq] at hb
    simp only [AOper.kind, hb]
    have hbw : bf b want (bf want false true) = (b == want) := by cases b <;> cases want <;> rfl
    rw [hbw] at hk
    rcases bf_true hk with ⟨h1, hk⟩ | ⟨h1, hk⟩
    · rw [h1]; exact fin hk
    · rw [h1]
      rw [putE_eq] at hk
      exact ⟨h, hw, rfl, hk⟩
theorem seq_ok (hc : CallOk call callA) : ∀ {l : List AOper} {e : Env} {h : HK} {k : Env → HK → Bool}, WF h → seqK call l e h k = true → (runSeq callA l (e, h.abs)).all fun q => ∃ h', WF h' ∧ h'.abs = q.2 ∧ k q.1 h' = true
  | [], e, h, k, hw, hk => ⟨h, hw, rfl, hk⟩
  | o :: l, e, h, k, hw, hk => by
    have hk : stepK call h.next o e h (fun e h _ => seqK call l e h k) = true := hk
    refine (T.all_bind _ _).2 (T.all_mono ?_ (step_ok hc hw hk))
    rintro ⟨⟨e', hA⟩, fp⟩ ⟨h', hw', ha, hk⟩
    have ha : h'.abs = hA := ha
    subst ha
    exact seq_ok hc hw' hk

theorem step1_of {ops : List AOper} {uno : List (Nat × Nat)} {base i : Nat} {o : AOper} (ho : ops[i]? = some o) {s : St} {fs : PT FP} {Q : St × PT FP → Prop}
    (h : (stepG callA (base + i) o s).all fun r => okWith uno fs i r.2 = true ∧ Q (r.1, fs.set i r.2)) : (step1 callA base ops uno i s fs).all Q := by
  unfold step1
  rw [ho]
  refine (T.all_bind _ _).2 (T.all_mono ?_ h)
  rintro ⟨s', fp⟩ ⟨h1, h2⟩
  show T.all Q (bif okWith uno fs i fp then _ else _)
  have h1 : okWith uno fs i fp = true := h1
  rw [h1]
  exact h2
theorem draw_ok (hc : CallOk call callA) {ops : List AOper} {uno : List (Nat × Nat)} {base : Nat} : ∀ (l : List AOper) (i : Nat) (e : Env) (h : HK) (fs : PT FP) (k : Env → HK → Bool), WF h → ops.drop i = l → drawK call base uno l i e h fs k = true →
    (runFP callA base ops uno (List.range' i l.length) (e, h.abs) fs).all fun q => ∃ h', WF h' ∧ h'.abs = q.2 ∧ k q.1 h' = true
  | [], i, e, h, fs, k, hw, _, hk => ⟨h, hw, rfl, hk⟩
  | o :: l, i, e, h, fs, k, hw, hd, hk => by
    have hk : fN (Nat.add base i) (fun aid => stepK call aid o e h fun e h fp => bf (okWith uno fs i fp) (setP fs i fp fun fs => drawK call base uno l (Nat.succ i) e h fs k) false) = true := hk
    rw [fN_eq] at hk
    have ho : ops[i]? = some o := by
      have : (ops.drop i)[0]? = some o := by rw [hd]; rfl
      simpa using this
    have hd' : ops.drop (i + 1) = l := by rw [← List.drop_drop, hd]; rfl
    refine (T.all_bind _ _).2 (step1_of ho (T.all_mono ?_ (step_ok hc hw hk)))
    rintro ⟨⟨e', hA⟩, fp⟩ ⟨h', hw', ha, hk⟩
    have ha : h'.abs = hA := ha
    subst ha
    obtain ⟨h1, hk⟩ := bf_and hk
    rw [setP_eq] at hk
    exact ⟨h1, draw_ok hc l (i + 1) e' h' _ k hw' hd' hk⟩
theorem draw0_ok (hc : CallOk call callA) {ops : List AOper} {base : Nat} : ∀ (l : List AOper) (i : Nat) (e : Env) (h : HK) (fs : PT FP) (k : Env → HK → Bool), WF h → ops.drop i = l → draw0K call base l i e h k = true →
    (runFP callA base ops [] (List.range' i l.length) (e, h.abs) fs).all fun q => ∃ h', WF h' ∧ h'.abs = q.2 ∧ k q.1 h' = true
  | [], i, e, h, fs, k, hw, _, hk => ⟨h, hw, rfl, hk⟩
  | o :: l, i, e, h, fs, k, hw, hd, hk => by
    have hk : fN (Nat.add base i) (fun aid => stepK call aid o e h fun e h _ => draw0K call base l (Nat.succ i) e h k) = true := hk
    rw [fN_eq] at hk
    have ho : ops[i]? = some o := by
      have : (ops.drop i)[0]? = some o := by rw [hd]; rfl
      simpa using this
    have hd' : ops.drop (i + 1) = l := by rw [← List.drop_drop, hd]; rfl
    refine (T.all_bind _ _).2 (step1_of ho (T.all_mono ?_ (step_ok hc hw hk)))
    rintro ⟨⟨e', hA⟩, fp⟩ ⟨h', hw', ha, hk⟩
    have ha : h'.abs = hA := ha
    subst ha
    exact ⟨rfl, draw0_ok hc l (i + 1) e' h' _ k hw' hd' hk⟩
end Go.Ax.K
