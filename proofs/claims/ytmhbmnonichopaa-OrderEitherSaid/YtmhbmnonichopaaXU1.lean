/-
  Judgements: blocks in another order; fewer blocks behind; ranges over functions whose rounds all go on.
-/
import Derived.Test.YtmhbmnonichopaaXU0
namespace Go.Ax
variable {tbl : Nat → Option AFn} {lo bd : Nat} {rnd : Option Nat} {E : FE} {F : Hp}

theorem Has.perm {h : H} {F F' : Hp} (k : Has h F) (hp : F'.Perm F) : Has h F' :=
  ⟨fun p hm => k.get p (hp.mem_iff.1 hm), fun p hm => k.lt p (hp.mem_iff.1 hm), (hp.map (·.1)).nodup_iff.2 k.nd⟩
theorem New.perm {n : Nat} {F F0 F' : Hp} (h : New n F' F0) (hp : F'.Perm F) : New n F F0 := fun p hm => by
  rcases h p hm with ⟨q, hq, he⟩ | h
  · exact .inl ⟨q, hp.mem_iff.1 hq, he⟩
  · exact .inr h
theorem Ws.perm {F' : Hp} {c : AC} {Q : EX → FE → Hp → Prop} (hp : F'.Perm F) (h : Ws tbl lo rnd c E F' Q) : Ws tbl lo rnd c E F Q := ⟨fun e h0 a b c d => by
  obtain ⟨n, hn⟩ := h.run e h0 a (b.perm hp) c d
  exact ⟨n, T.all_mono (fun r ⟨F'', e, q⟩ => ⟨F'', ⟨e.has, e.next, e.wmin, e.new.perm hp⟩, q⟩) hn⟩⟩
theorem Fn.perm {F' : Hp} {f : AV} {args : List AV} {Q : AV → Hp → Prop} (hp : F'.Perm F) (h : Fn tbl lo f args F' Q) : Fn tbl lo f args F Q := ⟨fun h0 b c d => by
  obtain ⟨n, hn⟩ := h.run h0 (b.perm hp) c d
  exact ⟨n, T.all_mono (fun r ⟨F'', e, q⟩ => ⟨F'', ⟨e.has, e.next, e.wmin, e.new.perm hp⟩, q⟩) hn⟩⟩
theorem New.less {n : Nat} {F F' F'' : Hp} (h : New n F'' F') (hs : F''.Sublist F) : New n F F' := fun p hp => by
  rcases h p hp with ⟨q, hq, he⟩ | h
  · exact .inl ⟨q, hs.subset hq, he⟩
  · exact .inr h
theorem Fn.weak {F' : Hp} {f : AV} {args : List AV} {Q : AV → Hp → Prop} (hs : F'.Sublist F) (h : Fn tbl lo f args F' Q) : Fn tbl lo f args F Q := ⟨fun h0 b c d => by
  obtain ⟨n, hn⟩ := h.run h0 (b.sub hs) c d
  exact ⟨n, T.all_mono (fun r ⟨F'', e, q⟩ => ⟨F'', ⟨e.has, e.next, e.wmin, e.new.less hs⟩, q⟩) hn⟩⟩
theorem Fn.shrink {f : AV} {args : List AV} {Q : AV → Hp → Prop} (h : Fn tbl lo f args F fun v F' => ∃ F0, F0.Sublist F' ∧ Q v F0) : Fn tbl lo f args F Q := ⟨fun h0 b c d => by
  obtain ⟨n, hn⟩ := h.run h0 b c d
  exact ⟨n, T.all_mono (fun r ⟨F'', e, F0, hs, q⟩ => ⟨F0, ⟨e.has.sub hs, e.next, e.wmin, e.new.sub hs⟩, q⟩) hn⟩⟩
theorem Ws.shrink {c : AC} {Q : EX → FE → Hp → Prop} (h : Ws tbl lo rnd c E F fun r E' F' => ∃ F0, F0.Sublist F' ∧ Q r E' F0) : Ws tbl lo rnd c E F Q := ⟨fun e h0 a b c d => by
  obtain ⟨n, hn⟩ := h.run e h0 a b c d
  exact ⟨n, T.all_mono (fun r ⟨F'', e, F0, hs, q⟩ => ⟨F0, ⟨e.has.sub hs, e.next, e.wmin, e.new.sub hs⟩, q⟩) hn⟩⟩
theorem Upd.less {F F' : Hp} {b : Nat} {x y : ABlk} (h : Upd F b x y F') : ∃ F0, Rem F b x F0 ∧ F0.Sublist F' := by
  induction h with
  | head => exact ⟨_, .head, List.sublist_cons_self ..⟩
  | tail _ ih => obtain ⟨F0, h1, h2⟩ := ih; exact ⟨_, .tail h1, h2.cons_cons _⟩
theorem Rem.upd {F F0 : Hp} {b : Nat} {x : ABlk} (y : ABlk) (h : Rem F b x F0) : ∃ F', Upd F b x y F' ∧ F0.Sublist F' := by
  induction h with
  | head => exact ⟨_, .head, List.sublist_cons_self ..⟩
  | tail _ ih => obtain ⟨F', h1, h2⟩ := ih; exact ⟨_, .tail h1, h2.cons_cons _⟩

/-- a range over a function whose rounds all go on: the loop's block is one that is ready, or busy, and nothing more is said of it -/
theorem Ws.rangeV {f : AO} {ps : List Nat} {asg body : AC} {fv : AV} {Q : EX → FE → Hp → Prop} (hf : xev E f = fv) (hfn : fv.isFunc = true)
    (h : ∀ (L : Nat) (rdy bsy : ABlk), lo ≤ L →
      (∀ {lo' : Nat} {F1 : Hp} {args : List AV} {Q' : AV → Hp → Prop}, (L, rdy) ∈ F1 → lo' ≤ L → args.length = ps.length →
        Ws tbl lo' (some L) asg ((ps.zip args).foldl (fun E p => setE E p.1 p.2) E) F1 (fun r E' F' => r = .normal ∧ ∃ F'', Upd F' L rdy bsy F'' ∧
          Ws tbl lo' (some L) body E' F'' (fun r _ F3 => r = .normal ∧ ∃ F4, Upd F3 L bsy rdy F4 ∧ Q' (.bool true) F4)) → Fn tbl lo' (.fn (.yield L) [] []) args F1 Q') →
      Fn tbl lo fv [.fn (.yield L) [] []] ((L, rdy) :: F) fun _ F' => ∃ F'', Rem F' L rdy F'' ∧ Q .normal E F'') :
    Ws tbl lo none (.rangeF f ps asg body) E F Q := by
  refine Ws.shrink (Ws.rangeF hf hfn fun L hL e0 he0 => ?_)
  refine (h L (.loop .ready none e0 ps asg body) (.loop .busy none e0 ps asg body) hL ?_).mono ?_
  · intro lo' F1 args Q' hm hl ha hw
    have hz : ∀ {ps : List Nat} {args : List AV} (e : Env), args.length = ps.length → ∃ e1, zipPut e ps args = some e1 := by
      intro ps
      induction ps with
      | nil => intro args e ha; cases args with
        | nil => exact ⟨e, rfl⟩
        | cons _ _ => cases ha
      | cons t ps ih => intro args e ha; cases args with
        | nil => cases ha
        | cons v vs => exact ih (PT.set e t v) (by simpa using ha)
    obtain ⟨e1, hz1⟩ := hz e0 ha
    refine Fn.yield hm hl hz1 ?_
    rw [zipPut_fn hz1, he0]
    refine hw.mono ?_
    rintro r E' F' ⟨rfl, F'', hu, hb⟩
    refine ⟨rfl, F'', hu, hb.mono ?_⟩
    rintro r E2 F3 ⟨rfl, F4, hu2, hq⟩
    exact ⟨none, F4, hu2, hq⟩
  · rintro v F' ⟨F'', hr, hq⟩
    obtain ⟨F3, hu, hs⟩ := hr.upd (.loop .exhausted none e0 ps asg body)
    exact ⟨.ready, none, F3, hu, by simp, F'', hs, hq⟩
/-! ### Pieces of code, found in a function's code, for lemmas of their own -/
def AC.ranges : AC → List AC
  | .seq a b | .cond _ a b => a.ranges ++ b.ranges
  | .block _ b | .loop b | .scope b => b.ranges
  | .rangeF f ps asg body => [.rangeF f ps asg body]
  | _ => []
/-- loops, the outer ones ahead of those in them -/
def AC.loops : AC → List AC
  | .seq a b | .cond _ a b => a.loops ++ b.loops
  | .block _ b | .scope b => b.loops
  | .loop b => .loop b :: b.loops
  | .rangeF _ _ _ b => b.loops
  | _ => []
def AC.rangeAt (c : AC) (n : Nat) : AC := (c.ranges[n]?).getD .bad
def AC.loopAt (c : AC) (n : Nat) : AC := (c.loops[n]?).getD .bad
theorem Ws.envs {c : AC} {Q : EX → FE → Hp → Prop} {l : List (Nat × AV)} (h : Holds E l) (k : Ws tbl lo rnd c (upds E l) F Q) : Ws tbl lo rnd c E F Q := by rw [h.upds] at k; exact k
end Go.Ax
