/-
  Every operation answers to what 'compOp' makes of it.
-/
import Derived.Test.YtmhbmnonichopaaXB8
namespace Go.Ax

variable {P : Program} {base : Nat}

theorem sim_call {o : Oper} (f : AO) (l : List AO) : OpSim P base o (.call f l) := by
  intro ι e h w a aid v h' fp hS _ hE _ hr
  simp [opLoc, Loc.run_no] at hr
theorem sim_next {o : Oper} (x : AO) : OpSim P base o (.next x) := by
  intro ι e h w a aid v h' fp hS _ hE _ hr
  simp [opLoc, Loc.run_no] at hr

theorem bind_some {c : Call} {u : TypeDesc} (h : (c.argTypes[0]?).bind P.underlying = some u) : ∃ t, c.argTypes[0]? = some t ∧ P.underlying t = some u := by
  cases ht : c.argTypes[0]? with
  | none => rw [ht] at h; cases h
  | some t => rw [ht] at h; exact ⟨t, rfl, h⟩
theorem bind_some1 {c : Call} {u : TypeDesc} (h : (c.argTypes[1]?).bind P.underlying = some u) : ∃ t, c.argTypes[1]? = some t ∧ P.underlying t = some u := by
  cases ht : c.argTypes[1]? with
  | none => rw [ht] at h; cases h
  | some t => rw [ht] at h; exact ⟨t, rfl, h⟩

theorem call_sim (o : Oper) (c : Call) (ho : o.op = .call c) : OpSim P base o (callOp P c) := by
  unfold callOp
  split
  · exact sim_call _ _
  · exact sim_bad
  · rename_i b hb
    simp only
    split
    · rename_i x ha
      split
      · rename_i hu; obtain ⟨t, h0, h1⟩ := bind_some hu; exact sim_lenS c t x ho hb ha h0 h1
      · rename_i hu; obtain ⟨t, h0, h1⟩ := bind_some hu; exact sim_len c t _ x ho hb ha h0 h1
      · rename_i hu; obtain ⟨t, h0, h1⟩ := bind_some hu; exact sim_lenM c t _ _ x ho hb ha h0 h1
      · rename_i hu; obtain ⟨t, h0, h1⟩ := bind_some hu; exact sim_lenC c t _ _ x ho hb ha h0 h1
      · exact sim_bad
    · rename_i s x ha
      split
      · rename_i el hu
        obtain ⟨t, h0, h1⟩ := bind_some hu
        split
        · rename_i i hi
          split
          · rename_i hu2
            obtain ⟨tx, h2, h3⟩ := bind_some1 hu2
            split
            · rename_i z hz
              split
              · rename_i hc
                exact sim_app c t tx el _ i z s x ho hb ha h0 h2 h1 h3 hi hz hc
              · exact sim_bad
            · exact sim_bad
          · exact sim_bad
        · exact sim_bad
      · exact sim_bad
    · rename_i d x ha
      split
      · rename_i el elx hu hu2
        obtain ⟨t, h0, h1⟩ := bind_some hu
        obtain ⟨tx, h2, h3⟩ := bind_some1 hu2
        split
        · rename_i n hs; exact sim_copy c t tx el elx n d x ho hb ha h0 h1 h3 hs
        · exact sim_bad
      · exact sim_bad
    · rename_i x ha
      split
      · rename_i el hu
        obtain ⟨t, h0, h1⟩ := bind_some hu
        split
        · rename_i z n hz hs
          split
          · rename_i hc; exact sim_clrS c t el n z x ho hb ha h0 h1 hz hs hc
          · exact sim_bad
        · exact sim_bad
      · rename_i hu; obtain ⟨t, h0, h1⟩ := bind_some hu; exact sim_clrM c t _ _ x ho hb ha h0 h1
      · exact sim_bad
    · rename_i m k ha
      split
      · rename_i kt et hu
        obtain ⟨t, h0, h1⟩ := bind_some hu
        split
        · rename_i ag l hk; exact sim_del c t kt et m k ag l ho hb ha h0 h1 hk
        · exact sim_bad
      · exact sim_bad
    · exact sim_mnx false c ho hb
    · exact sim_mnx true c ho hb
    · exact sim_bad

theorem eqop_sim {o : Oper} (neg : Bool) (t t' : TypeId) (x y : Operand) (ho : o.op = .binOp (if neg then .neq else .eql) t x y t') : OpSim P base o (eqOp P neg t (ao x) (ao y)) := by
  unfold eqOp
  split
  · have := sim_bin (P := P) (base := base) _ t t' x y ho; cases neg <;> exact this
  · have := sim_bin (P := P) (base := base) _ t t' x y ho; cases neg <;> exact this
  · rename_i hu; exact sim_eqf neg false [.bool] t t' x y ho (.inr ⟨rfl, rfl, hu⟩)
  · rename_i fs hu
    split
    · rename_i l hl
      split
      · exact sim_bad
      · rename_i hg
        have hag : ∃ a, agn P t = some a ∧ a.isSome = true := by
          have : leaves P (7 + 1) t = some l := hl
          simp only [leaves, hu] at this
          cases hs : sz P t with
          | none =>
            obtain ⟨i, hi⟩ : ∃ i, P.info? t = some i := by
              unfold Program.underlying at hu
              split at hu <;> first | exact ⟨_, by assumption⟩ | cases hu
            simp [sz, hi] at hs
          | some n => exact ⟨some n, by simp [agn, hu, hs], rfl⟩
        exact sim_eqf neg true l t t' x y ho (.inl ⟨rfl, hl, by simpa using hg, hag⟩)
    · exact sim_bad
  · rename_i n e hu
    split
    · rename_i l hl
      split
      · exact sim_bad
      · rename_i hg
        have hag : ∃ a, agn P t = some a ∧ a.isSome = true := by
          cases hs : sz P t with
          | none =>
            obtain ⟨i, hi⟩ : ∃ i, P.info? t = some i := by
              unfold Program.underlying at hu
              split at hu <;> first | exact ⟨_, by assumption⟩ | cases hu
            simp [sz, hi] at hs
          | some n => exact ⟨some n, by simp [agn, hu, hs], rfl⟩
        exact sim_eqf neg true l t t' x y ho (.inl ⟨rfl, hl, by simpa using hg, hag⟩)
    · exact sim_bad
  · rename_i el hu
    split
    · exact sim_eqp neg t t' el x y ho hu
    · exact sim_bad
  · rename_i el hu; exact sim_eqn neg 0 t t' x y ho (.inl ⟨rfl, el, hu⟩)
  · rename_i k el hu; exact sim_eqn neg 1 t t' x y ho (.inr (.inl ⟨rfl, k, el, hu⟩))
  · rename_i ps rs v hu; exact sim_eqn neg 2 t t' x y ho (.inr (.inr ⟨rfl, ps, rs, v, hu⟩))
  · exact sim_bad

theorem op_sim (o : Oper) : OpSim P base o (compOp P o) := by
  unfold compOp
  split
  · rename_i x ho; exact sim_mv x (.inl ho)
  · rename_i x ho; exact sim_mv x (.inr ho)
  · rename_i c x y ho; exact sim_pick c x y ho
  · rename_i t ho
    split
    · rename_i z hz; exact sim_alloc t z ho hz
    · exact sim_bad
  · rename_i t x ho; exact sim_box t x ho
  · rename_i t ps ho
    split
    · rename_i z fs hz hu
      split
      · rename_i hall
        split
        · rename_i l hl; exact sim_build t ps z _ l ho hz hl (.inl ⟨fs, hu, hall, rfl⟩)
        · exact sim_bad
      · exact sim_bad
    · rename_i z k e hz hu
      split
      · rename_i n hs
        split
        · rename_i l hl; exact sim_build t ps z _ l ho hz hl (.inr ⟨k, e, n, hu, hs, rfl⟩)
        · exact sim_bad
      · exact sim_bad
    · exact sim_bad
  · rename_i t len ps ho
    split
    · rename_i e hu
      split
      · rename_i z n hz hs
        split
        · rename_i hc
          split
          · rename_i l hl; exact sim_bslice t e len n ps z l ho hu hz hs hc hl
          · exact sim_bad
        · exact sim_bad
      · exact sim_bad
    · exact sim_bad
  · rename_i t x ho
    split
    · rename_i n ha; exact sim_load t x n ho ha
    · exact sim_bad
  · rename_i t x y ho
    split
    · rename_i n hs; exact sim_store t x y n ho hs
    · exact sim_bad
  · rename_i x ho; exact sim_nilchk x ho
  · rename_i op t x y t' ho
    split
    · exact eqop_sim false t t' x y ho
    · exact eqop_sim true t t' x y ho
    · exact sim_bin _ t t' x y ho
  · rename_i op t x ho; exact sim_un op t x ho
  · rename_i s d x ho
    split
    · rename_i k0 k hs hd; exact sim_conv s d k k0 x ho hs hd
    · rename_i hs hd; exact sim_convS s d x ho hs hd
    · exact sim_bad
  · rename_i g first caps ho; exact sim_mkfn g first caps ho
  · rename_i t x ho
    split
    · exact sim_bad
    · rename_i d hn hu
      exact sim_mkif t d x ho hu (by cases d <;> first | rfl | exact (hn _ rfl).elim)
    · exact sim_bad
  · rename_i t ho; exact sim_mkmap t ho
  · rename_i t l c ho
    split
    · rename_i e hu
      split
      · rename_i i z hi hz
        split
        · rename_i hc; exact sim_mkslc t e i z l c ho hu hi hz hc
        · exact sim_bad
      · exact sim_bad
    · exact sim_bad
  · rename_i t x lo hi mx ho
    split
    · rename_i hu
      split
      · exact sim_slcS t x lo hi ho hu
      · exact sim_bad
    · rename_i e hu
      split
      · rename_i n hs; exact sim_slc t e n x lo hi mx ho hu hs
      · exact sim_bad
    · rename_i k e hu
      split
      · rename_i n hs; exact sim_slcA t e k n x lo hi mx ho hu hs
      · exact sim_bad
    · exact sim_bad
  · rename_i t x i ho
    split
    · rename_i fs hu
      split
      · rename_i f hf
        split
        · rename_i n hs; exact sim_faddr t x i fs f n ho hu hf hs
        · exact sim_bad
      · exact sim_bad
    · exact sim_bad
  · rename_i t x i ho
    split
    · rename_i fs hu
      split
      · rename_i f hf
        split
        · rename_i n ha; exact sim_field t x i fs f n ho hu hf ha
        · exact sim_bad
      · exact sim_bad
    · exact sim_bad
  · rename_i t x i ho
    split
    · rename_i n e hu
      split
      · rename_i s hs; exact sim_iaddrA t e x i n s ho hu hs
      · exact sim_bad
    · rename_i e hu
      split
      · rename_i s hs; exact sim_iaddrS t e x i s ho hu hs
      · exact sim_bad
    · exact sim_bad
  · rename_i t x i ho
    split
    · rename_i n e hu
      split
      · rename_i s m hs ha; exact sim_idxA t e x i n s m ho hu hs ha
      · exact sim_bad
    · rename_i hu; exact sim_idxS t x i ho hu
    · exact sim_bad
  · rename_i t m k ok ho
    split
    · rename_i kt et hu
      split
      · rename_i ag l z hk hz; exact sim_look t kt et m k ok ag l z ho hu hk hz
      · exact sim_bad
    · exact sim_bad
  · rename_i t m k x ho
    split
    · rename_i kt et hu
      split
      · rename_i ag l hk; exact sim_mapup t kt et m k x ag l (.inl ho) hu hk
      · exact sim_bad
    · exact sim_bad
  · rename_i t m k x ho
    split
    · rename_i kt et hu
      split
      · rename_i ag l hk; exact sim_mapup t kt et m k x ag l (.inr ho) hu hk
      · exact sim_bad
    · exact sim_bad
  · rename_i t m k ho
    split
    · rename_i kt et hu
      split
      · rename_i ag l z hk hz; exact sim_ment t kt et m k ag l z ho hu hk hz
      · exact sim_bad
    · exact sim_bad
  · rename_i t m s x ho; exact sim_mest t m s x ho
  · rename_i t x ho
    split
    · rename_i kt et hu; exact sim_rangeM t kt et x ho hu
    · exact sim_bad
  · exact sim_next _
  · rename_i x i ho; exact sim_ext x i ho
  · rename_i c ho; exact call_sim o c ho
  · exact sim_bad
end Go.Ax
