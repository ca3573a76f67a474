/-
  The strict machine's operations, one by one.
-/
import Derived.Test.YtmhbmnonichopaaXK2
namespace Go.Ax.K

def OpOk (call : CfK) (callA : Cf) (op : AOp) (r : OpR) : Prop := ∀ e aid h k, WF h → r call e aid h k = true → ((op.kind e).run callA aid h.abs).all fun q => ∃ h', WF h' ∧ h'.abs = q.2.1 ∧ k q.1 h' q.2.2 = true
def CallOk (call : CfK) (callA : Cf) : Prop := ∀ f args h k, WF h → call f args h k = true → (callA f args h.abs).all fun q => ∃ h', WF h' ∧ h'.abs = q.2 ∧ k q.1 h' = true
variable {call : CfK} {callA : Cf}

theorem OpOk.loc {op : AOp} {r : OpR} (hop : ∀ e, op.kind e = .loc (opLoc op e)) (h : ∀ e aid h k, WF h → r call e aid h k = true → LocOk (opLoc op e) aid h k) : OpOk call callA op r := by
  intro e aid m k hw hk
  rw [hop]
  obtain ⟨q, h1, h2⟩ := h e aid m k hw hk
  exact T.all_ofOpt.2 ⟨q, h1, h2⟩
theorem gOp_ok {op : AOp} (hop : ∀ e, op.kind e = .loc (opLoc op e)) : OpOk call callA op (gOp op) := .loc hop fun _ _ _ _ hw hk => gen_ok hw hk

theorem mv_ok (x : AO) : OpOk call callA (.mv x) (oMv x) := .loc (fun _ => rfl) fun e aid h k hw hk => by
  have hk : fV (ev x e) (fun v => k v h fp0) = true := hk
  rw [fV_eq, ev_eq] at hk
  exact val_ok hw rfl hk
theorem nilchk_ok (x : AO) : OpOk call callA (.nilchk x) (oNilchk x) := .loc (fun _ => rfl) fun e aid h k hw hk => by
  obtain ⟨b, o, hv, hk⟩ := vPtr_true hk
  rw [ev_eq] at hv
  exact val_ok hw (by simp [hv]) hk
theorem pick_ok (c a b : AO) : OpOk call callA (.pick c a b) (oPick c a b) := .loc (fun _ => rfl) fun e aid h k hw hk => by
  obtain ⟨t, hv, hk⟩ := vBool_true hk
  rw [ev_eq] at hv
  rw [fV_eq, fV_eq, ev_eq, ev_eq] at hk
  cases t
  · exact val_ok hw (by simp [hv]) hk
  · exact val_ok hw (by simp [hv]) hk
theorem faddr_ok (off : Nat) (x : AO) : OpOk call callA (.faddr off x) (oFaddr off x) := .loc (fun _ => rfl) fun e aid h k hw hk => by
  obtain ⟨b, o, hv, hk⟩ := vPtr_true hk
  rw [ev_eq] at hv
  rw [fN_eq] at hk
  exact val_ok hw (by simp [hv]) hk
theorem iaddrS_ok (sz : Nat) (x i : AO) : OpOk call callA (.iaddrS sz x i) (oIaddrS sz x i) := .loc (fun _ => rfl) fun e aid h k hw hk => by
  obtain ⟨b, o, n, c, ex, es, hv, hk⟩ := vSlc_true hk
  obtain ⟨kd, j, hj, hk⟩ := vInt_true hk
  obtain ⟨j, rfl, hk⟩ := natOf_true hk
  obtain ⟨hlt, hk⟩ := bf_and hk
  rw [ev_eq] at hv hj
  rw [fN_eq] at hk
  have hlt : j < n := by simpa [Nat.blt_eq] using hlt
  exact val_ok hw (by simp [hv, hj, hlt, moved]) hk
theorem iaddrA_ok (n sz : Nat) (x i : AO) : OpOk call callA (.iaddrA n sz x i) (oIaddrA n sz x i) := .loc (fun _ => rfl) fun e aid h k hw hk => by
  obtain ⟨b, o, hv, hk⟩ := vPtr_true hk
  obtain ⟨kd, j, hj, hk⟩ := vInt_true hk
  obtain ⟨j, rfl, hk⟩ := natOf_true hk
  obtain ⟨hlt, hk⟩ := bf_and hk
  rw [ev_eq] at hv hj
  rw [fN_eq] at hk
  have hlt : j < n := by simpa [Nat.blt_eq] using hlt
  exact val_ok hw (by simp [hv, hj, hlt, moved]) hk
theorem un_ok (op : UnOp) (x : AO) : OpOk call callA (.un op x) (oUn op x) := .loc (fun _ => rfl) fun e aid h k hw hk => by
  obtain ⟨v, hv, hk⟩ := oC_some hk
  rw [ev_eq] at hv
  rw [fS_eq] at hk
  exact val_ok hw hv hk
theorem len_ok (x : AO) : OpOk call callA (.len x) (oLen x) := .loc (fun _ => rfl) fun e aid h k hw hk => by
  have hk : @AV.casesOn (fun _ => Bool) (ev x e) false (fun _ => false) (fun _ _ => false) (fun _ => false) (fun _ => false) (fun _ n _ _ _ => k (.int .i64 (.ofNat n)) h fp0) (fun _ => false) (fun _ _ _ => false) false (fun _ _ => false) false (fun _ => false) (fun _ => false) = true := hk
  rw [ev_eq] at hk
  cases hv : x.ev e <;> rw [hv] at hk <;> first | (cases hk; done) | skip
  exact val_ok hw (by simp [hv]) hk
theorem ext_ok (x : AO) (i : Nat) : OpOk call callA (.ext x i) (oExt x i) := .loc (fun _ => rfl) fun e aid h k hw hk => by
  have hk : @AV.casesOn (fun _ => Bool) (ev x e) false (fun _ => false) (fun _ _ => false) (fun _ => false) (fun _ => false) (fun _ _ _ _ _ => false) (fun _ => false) (fun _ _ _ => false) false (fun _ _ => false) false (fun _ => false) (fun l => oC (l[i]?) false fun v => fV v fun v => k v h fp0) = true := hk
  rw [ev_eq] at hk
  cases hv : x.ev e <;> rw [hv] at hk <;> first | (cases hk; done) | skip
  obtain ⟨v, hl, hk⟩ := oC_some hk
  rw [fV_eq] at hk
  exact val_ok hw (by simp [hv, hl]) hk
theorem mkfn_ok (g : FuncId) (first caps : List AO) : OpOk call callA (.mkfn g first caps) (oMkfn g first caps) := .loc (fun _ => rfl) fun e aid h k hw hk => by
  have hk : evs e first (fun first => evs e caps fun caps => k (.fn (.func g) first caps) h fp0) = true := hk
  rw [evs_eq, evs_eq] at hk
  exact val_ok hw rfl hk
end Go.Ax.K
