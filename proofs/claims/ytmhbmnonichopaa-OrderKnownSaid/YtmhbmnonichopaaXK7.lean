/-
  The strict machine's code: what it says the abstract machine does.
-/
import Derived.Test.YtmhbmnonichopaaXK6
namespace Go.Ax.K
variable {tbl : Nat → Option AFn}

theorem xC_true {x : EX} {n r : Bool} {s : Nat → Bool} (h : xC x n r s = true) : (x = .normal ∧ n = true) ∨ (x = .ret ∧ r = true) ∨ ∃ id, x = .exit id ∧ s id = true := by
  cases x with
  | normal => exact .inl ⟨rfl, h⟩
  | ret => exact .inr (.inl ⟨rfl, h⟩)
  | exit id => exact .inr (.inr ⟨id, rfl, h⟩)

def ExOk (ex : ExK) (exA : Ex) : Prop := ∀ rnd c e h k, WF h → ex rnd c e h k = true → (exA rnd c e h.abs).all fun q => ∃ h', WF h' ∧ h'.abs = q.2.2 ∧ k q.1 q.2.1 h' = true

theorem resOne_true {e : Env} {h : HK} {r : ARes} {k : AV → Bool} (hk : resOneK e h r k = true) : ∃ v, resOne e h.abs r = some v ∧ k v = true := by
  cases r with
  | tmp t =>
    have hk : fV (getE e t) k = true := hk
    rw [fV_eq, getE_eq] at hk
    exact ⟨_, rfl, hk⟩
  | cell t n =>
    obtain ⟨b, o, hv, hk⟩ := vPtr_true hk
    rw [getE_eq] at hv
    obtain ⟨x, hg, hk⟩ := oC_some hk
    simp only [resOne, hv]
    rw [get_abs, hg]
    simp only [Option.map_some]
    split at hk
    · rename_i l own hx
      rw [hx]
      obtain ⟨v, hp, hk⟩ := oC_some hk
      rw [fW_eq] at hk
      exact ⟨v, hp, hk⟩
    · cases hk
theorem resAll_true {e : Env} {h : HK} : ∀ {l : List ARes} {k : List AV → Bool}, resAllK e h l k = true → ∃ vs, resAll e h.abs l = some vs ∧ k vs = true
  | [], k, hk => ⟨[], rfl, hk⟩
  | r :: l, k, hk => by
    obtain ⟨v, h1, hk⟩ := resOne_true (show resOneK e h r (fun v => resAllK e h l fun vs => k (v :: vs)) = true from hk)
    obtain ⟨vs, h2, hk⟩ := resAll_true hk
    exact ⟨v :: vs, by simp only [resAll, h1, h2], hk⟩
theorem putsE_eq : ∀ (l : List AV) (i : Nat) (e : Env) (k : Env → Bool), putsE l i e k = k (Env.puts e i l)
  | [], _, _, _ => rfl
  | v :: l, i, e, k => by
    show fV v (fun v => setP e i v fun e => putsE l (Nat.succ i) e k) = _
    rw [fV_eq, setP_eq, putsE_eq l]; rfl
theorem zipK_true : ∀ {ps : List Nat} {e : Env} {l : List AV} {k : Env → Bool}, zipK e ps l k = true → ∃ e', zipPut e ps l = some e' ∧ k e' = true
  | [], e, [], k, h => ⟨e, rfl, h⟩
  | [], e, _ :: _, k, h => by cases h
  | t :: ps, e, [], k, h => by cases h
  | t :: ps, e, v :: l, k, h => by
    have h : setP e t v (fun e => zipK e ps l k) = true := h
    rw [setP_eq] at h
    obtain ⟨e', h1, h2⟩ := zipK_true (ps := ps) (e := PT.set e t v) (l := l) h
    exact ⟨e', h1, h2⟩
theorem WF.other {h : HK} {n w b : Nat} {x : ABlk} (hw : WF h) : WF ⟨n, w, h.m.set b (.other x)⟩ := hw.set (x := .other x) trivial
theorem roundEnd_true {l : Nat} {x : EX} {h : HK} {k : AV → HK → Bool} (hw : WF h) (hk : roundEndK l x h k = true) : (roundEnd l x h.abs).all fun q => ∃ h', WF h' ∧ h'.abs = q.2 ∧ k q.1 h' = true := by
  obtain ⟨y, hg, hk⟩ := oC_some hk
  unfold roundEnd
  rw [get_abs, hg]
  split at hk
  · simp only [Option.map_some, FB.abs]
    cases x with
    | normal =>
      have hk : put h l _ _ = true := hk
      rw [put_eq] at hk
      exact ⟨_, hw.other, by rw [put_abs]; rfl, hk⟩
    | ret =>
      have hk : put h l _ _ = true := hk
      rw [put_eq] at hk
      exact ⟨_, hw.other, by rw [put_abs]; rfl, hk⟩
    | exit id =>
      have hk : put h l _ _ = true := hk
      rw [put_eq] at hk
      exact ⟨_, hw.other, by rw [put_abs]; rfl, hk⟩
  · cases hk

theorem callK_ok {ex : ExK} {exA : Ex} (hex : ExOk ex exA) : CallOk (callK tbl ex) (callF tbl exA) := by
  intro f args h k hw hk
  unfold callK at hk
  unfold callF
  split at hk
  · rename_i g first caps
    obtain ⟨fn, hfn, hk⟩ := oC_some hk
    simp only [hfn]
    obtain ⟨nt, res, body⟩ := fn
    obtain ⟨hle, hk⟩ := bf_and (show bf (Nat.ble ((first ++ args) ++ caps).length nt) (putsE ((first ++ args) ++ caps) 0 .nil fun e => ex none body e h fun x e h => xC x (resAllK e h res fun vs => fV (tupOf vs) fun v => k v h) (resAllK e h res fun vs => fV (tupOf vs) fun v => k v h) fun _ => false) false = true from hk)
    rw [hle]
    rw [putsE_eq] at hk
    refine (T.all_bind _ _).2 (T.all_mono ?_ (hex none body _ h _ hw hk))
    rintro ⟨x, e', hA⟩ ⟨h', hw', ha, hk⟩
    have ha : h'.abs = hA := ha
    subst ha
    rcases xC_true hk with ⟨hx, hk⟩ | ⟨hx, hk⟩ | ⟨id, hx, hk⟩
    · have hx : x = .normal := hx
      subst hx
      obtain ⟨vs, h1, hk⟩ := resAll_true hk
      rw [fV_eq] at hk
      exact T.all_ofOpt.2 ⟨_, by simp only [h1]; rfl, h', hw', rfl, hk⟩
    · have hx : x = .ret := hx
      subst hx
      obtain ⟨vs, h1, hk⟩ := resAll_true hk
      rw [fV_eq] at hk
      exact T.all_ofOpt.2 ⟨_, by simp only [h1]; rfl, h', hw', rfl, hk⟩
    · cases hk
  · rename_i l
    obtain ⟨y, hg, hk⟩ := oC_some hk
    simp only [get_abs, hg, Option.map_some]
    split at hk
    · simp only [FB.abs]
      obtain ⟨e, he, hk⟩ := zipK_true hk
      simp only [he]
      refine (T.all_bind _ _).2 (T.all_mono ?_ (hex _ _ _ h _ hw hk))
      rintro ⟨x, e', hA⟩ ⟨h', hw', ha, hk⟩
      have ha : h'.abs = hA := ha
      subst ha
      rcases xC_true hk with ⟨hx, hk⟩ | ⟨hx, hk⟩ | ⟨id, hx, hk⟩
      · have hx : x = .normal := hx
        subst hx
        obtain ⟨y, hg2, hk⟩ := oC_some hk
        simp only [get_abs, hg2, Option.map_some]
        split at hk
        · simp only [FB.abs]
          rw [put_eq] at hk
          have h3 := hex _ _ _ _ _ hw'.other hk
          rw [put_abs] at h3
          refine (T.all_bind _ _).2 (T.all_mono ?_ h3)
          rintro ⟨x, e2, hA2⟩ ⟨h2, hw2, ha2, hk2⟩
          have ha2 : h2.abs = hA2 := ha2
          subst ha2
          exact roundEnd_true hw2 hk2
        · cases hk
      · cases hk
      · cases hk
    · cases hk
  · cases hk

theorem xEnd_ok {ex : ExK} {exA : Ex} (hex : ExOk ex exA) {rnd : Option Nat} {e : Env} {k : KX} {n : Nat} {h' : HK} (hw' : WF h') (hk : xEnd ex rnd e k n h' = true) :
    T.all (fun q => ∃ h', WF h' ∧ h'.abs = q.2.2 ∧ k q.1 q.2.1 h' = true) (match h'.abs.get n with
        | some (.loop .busy ..) => .fail
        | some (.loop _ pend env ps asg body) =>
          match pend with
          | none => .ret (.normal, e, h'.abs.put n (.loop .exhausted pend env ps asg body))
          | some c => exA rnd c e (h'.abs.put n (.loop .exhausted pend env ps asg body))
        | _ => (.fail : T (EX × Env × H))) := by
  obtain ⟨y, hg, hk⟩ := oC_some hk
  rw [get_abs, hg]
  cases y with
  | cells _ _ _ _ => cases hk
  | other z =>
    cases z with
    | loop st pend env ps asg body =>
      have hk : st ≠ .busy ∧ put h' n (.other (.loop .exhausted pend env ps asg body)) (fun h => oC pend (k .normal e h) fun c => ex rnd c e h k) = true := by
        cases st <;> first | exact ⟨by simp, hk⟩ | cases hk
      obtain ⟨hst, hk⟩ := hk
      rw [put_eq] at hk
      have hput := put_abs h' n (.other (.loop .exhausted pend env ps asg body))
      simp only [FB.abs] at hput
      have main : T.all (fun q => ∃ h', WF h' ∧ h'.abs = q.2.2 ∧ k q.1 q.2.1 h' = true) (match pend with
          | none => .ret (.normal, e, h'.abs.put n (.loop .exhausted pend env ps asg body))
          | some c => (exA rnd c e (h'.abs.put n (.loop .exhausted pend env ps asg body)) : T (EX × Env × H))) := by
        cases pend with
        | none => exact ⟨_, hw'.other, hput, hk⟩
        | some c =>
          have h3 := hex rnd c e _ k hw'.other hk
          rw [hput] at h3
          exact h3
      cases st <;> first | exact absurd rfl hst | exact main
    | _ => cases hk
theorem all_of_true {α : Type} {Q : α → Prop} (b : Bool) (X : T α) (hb : b = true) (hX : X.all Q) : (match b with | false => (T.fail : T α) | true => X).all Q := by subst hb; exact hX
theorem and_true' {a b : Bool} (ha : a = true) (hb : b = true) : (a && b) = true := by rw [ha, hb]; rfl
theorem isLoop_true {h : HK} {rnd : Option Nat} : isLoop h rnd = true → (match rnd with | none => true | some l => match h.abs.get l with | some (.loop ..) => true | _ => false) = true := by
  intro hk
  cases rnd with
  | none => rfl
  | some l =>
    obtain ⟨y, hg, hy⟩ := oC_some (show oC (get h l) false _ = true from hk)
    simp only [get_abs, hg, Option.map_some]
    split at hy
    · rfl
    · cases hy
theorem range_ok {ex : ExK} {exA : Ex} (hex : ExOk ex exA) {rnd : Option Nat} {f : AO} {ps : List Nat} {asg body : AC} {e : Env} {h : HK} {k : KX} (hw : WF h) (hk : xRange f ps asg body tbl ex rnd e h k = true) :
    (step tbl exA rnd (.rangeF f ps asg body) e h.abs).all fun q => ∃ h', WF h' ∧ h'.abs = q.2.2 ∧ k q.1 q.2.1 h' = true := by
  obtain ⟨hok, hk⟩ := bf_and (show bf (isLoop h rnd && (ev f e).isFunc) (hC h fun n w m => new ⟨n, w, m⟩ n (.other (.loop .ready none e ps asg body)) fun h1 => xGo tbl ex rnd f e k n h1) false = true from hk)
  simp only [Bool.and_eq_true] at hok
  have h0 := isLoop_true hok.1
  have h00 := hok.2
  rw [ev_eq] at h00
  refine all_of_true _ _ (and_true' h0 h00) ?_
  obtain ⟨nx, wm, m⟩ := h
  have hk : new ⟨nx, wm, m⟩ nx (.other (.loop .ready none e ps asg body)) (fun h1 => xGo tbl ex rnd f e k nx h1) = true := hk
  rw [new_eq] at hk
  unfold xGo at hk
  rw [fV_eq, ev_eq] at hk
  have h1 := callK_ok (tbl := tbl) hex _ _ _ _ hw.other hk
  rw [new_abs] at h1
  refine (T.all_bind _ _).2 (T.all_mono ?_ h1)
  rintro ⟨v, hA⟩ ⟨h', hw', ha, hk⟩
  have ha : h'.abs = hA := ha
  subst ha
  exact xEnd_ok hex hw' hk

theorem exec_ok : ∀ (n : Nat), ExOk (K.exec tbl n) (Go.Ax.exec tbl n)
  | 0 => fun _ _ _ _ _ _ hk => by cases hk
  | n + 1 => fun rnd c e h k hw hk => by
    have ih := exec_ok n
    have hcall : CallOk (callK tbl (K.exec tbl n)) (callF tbl (Go.Ax.exec tbl n)) := callK_ok ih
    have hk : codeD c tbl (K.exec tbl n) rnd e h k = true := hk
    show (step tbl (Go.Ax.exec tbl n) rnd c e h.abs).all _
    cases c with
    | skip => exact ⟨h, hw, rfl, hk⟩
    | exit id => exact ⟨h, hw, rfl, hk⟩
    | ret => exact ⟨h, hw, rfl, hk⟩
    | scope b => exact ih rnd b e h k hw hk
    | seq a b =>
      refine (T.all_bind _ _).2 (T.all_mono ?_ (ih rnd a e h _ hw hk))
      rintro ⟨x, e', hA⟩ ⟨h', hw', ha, hk⟩
      have ha : h'.abs = hA := ha
      subst ha
      cases x with
      | normal => exact ih rnd b e' h' k hw' hk
      | ret => exact ⟨h', hw', rfl, hk⟩
      | exit id => exact ⟨h', hw', rfl, hk⟩
    | loop b =>
      refine (T.all_bind _ _).2 (T.all_mono ?_ (ih rnd b e h _ hw hk))
      rintro ⟨x, e', hA⟩ ⟨h', hw', ha, hk⟩
      have ha : h'.abs = hA := ha
      subst ha
      cases x with
      | normal => exact ih rnd (.loop b) e' h' k hw' hk
      | ret => exact ⟨h', hw', rfl, hk⟩
      | exit id => exact ⟨h', hw', rfl, hk⟩
    | block id b =>
      refine (T.all_bind _ _).2 (T.all_mono ?_ (ih rnd b e h _ hw hk))
      rintro ⟨x, e', hA⟩ ⟨h', hw', ha, hk⟩
      have ha : h'.abs = hA := ha
      subst ha
      cases x with
      | normal => exact ⟨h', hw', rfl, hk⟩
      | ret => exact ⟨h', hw', rfl, hk⟩
      | exit id' =>
        show T.all _ (bif Nat.beq id' id then _ else _)
        rcases bf_true (show bf (Nat.beq id' id) (k .normal e' h') (k (.exit id') e' h') = true from hk) with ⟨h1, hk⟩ | ⟨h1, hk⟩
        · rw [h1]; exact ⟨h', hw', rfl, hk⟩
        · rw [h1]; exact ⟨h', hw', rfl, hk⟩
    | cond c a b =>
      obtain ⟨t, ht, hk⟩ := vBool_true (show vBool (ev c e) (fun t => bf t (K.exec tbl n rnd a e h k) (K.exec tbl n rnd b e h k)) = true from hk)
      rw [ev_eq] at ht
      simp only [step, ht]
      cases t
      · exact ih rnd b e h k hw hk
      · exact ih rnd a e h k hw hk
    | region ops =>
      have h1 := seq_ok hcall hw (show seqK (callK tbl (K.exec tbl n)) ops e h (fun e h => k .normal e h) = true from hk)
      exact (T.all_bind _ _).2 (T.all_mono (fun q hq => hq) h1)
    | draw ops uno =>
      obtain ⟨nx, wm, m⟩ := h
      have hk : fN (Nat.add nx ops.length) (fun n' => lC uno (draw0K (callK tbl (K.exec tbl n)) nx ops 0 e ⟨n', wm, m⟩ fun e h => k .normal e h) fun _ _ => drawK (callK tbl (K.exec tbl n)) nx uno ops 0 e ⟨n', wm, m⟩ .nil fun e h => k .normal e h) = true := hk
      rw [fN_eq] at hk
      refine (T.all_bind _ _).2 ?_
      have hrun : (runDraw (callF tbl (Go.Ax.exec tbl n)) ops uno (e, HK.abs ⟨nx, wm, m⟩)).all fun q => ∃ h', WF h' ∧ h'.abs = q.2 ∧ k .normal q.1 h' = true := by
        unfold runDraw
        rw [List.range_eq_range']
        cases uno with
        | nil => exact draw0_ok (ops := ops) hcall ops 0 e ⟨nx + ops.length, wm, m⟩ .nil _ (hw.same rfl) rfl hk
        | cons p l => exact draw_ok (ops := ops) (uno := p :: l) hcall ops 0 e ⟨nx + ops.length, wm, m⟩ .nil _ (hw.same rfl) rfl hk
      exact T.all_mono (fun q hq => hq) hrun
    | rangeF f ps asg body => exact range_ok ih hw hk
    | bad => cases hk

theorem WF_nil : WF ⟨0, 0, .nil⟩ := fun b x h => by cases h
theorem run_ok {n g : Nat} (h : run tbl n g = true) : (callF tbl (Go.Ax.exec tbl n) (.fn (.func g) [] []) [] ⟨0, 0, .nil⟩).all fun r => r.1 = .bool true := by
  have h1 := callK_ok (tbl := tbl) (exec_ok n) _ _ _ _ WF_nil h
  refine T.all_mono ?_ h1
  rintro ⟨v, hA⟩ ⟨h', _, _, hk⟩
  obtain ⟨b, hv, hb⟩ := vBool_true (show vBool v (fun b => b) = true from hk)
  have hb : b = true := hb
  subst hb
  exact hv
end Go.Ax.K
