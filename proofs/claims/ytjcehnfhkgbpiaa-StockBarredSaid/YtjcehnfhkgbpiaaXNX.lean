/-
  Rules for flows: rows of four numbers; numbers stored.
-/
import Derived.Test.YtjcehnfhkgbpiaaXNC
import Derived.Test.YtjcehnfhkgbpiaaXH1
namespace Go.Ax
set_option linter.unusedSimpArgs false
set_option linter.unusedVariables false
abbrev flc (u : Fl) : List AV := [.int .i64 u.f, .int .i64 u.t, .int .i64 u.lo, .int .i64 u.hi]
abbrev FRow (F : Hp) (v : AV) (fs : List Fl) : Prop := RowZ flc 4 F v fs
section
variable {tbl : Nat → Option AFn} {lo bd : Nat} {E : FE} {F : Hp} {d : Option Nat} {R : FE → Hp → Cls → Prop} {x : AO}
theorem W1.iaddrF {v : AV} {fs : List Fl} {i : AO} {kd : IntKind} {z : Int} (j : Nat) (hr : FRow F v fs) (hx : xev E x = v) (hi : xev E i = .int kd z) (hz : z = (j : Nat)) (hj : j < fs.length)
    (k : ∀ b o l own, (b, .cells l own) ∈ F → l[o]? = some (.int .i64 (gF fs j).f) → l[o + 1]? = some (.int .i64 (gF fs j).t) → l[o + 2]? = some (.int .i64 (gF fs j).lo) → l[o + 2 + 1]? = some (.int .i64 (gF fs j).hi) →
      partC l o (some 4) = some (.agg (flc (gF fs j))) → partC l (o + 2) (some 2) = some (.agg [.int .i64 (gF fs j).lo, .int .i64 (gF fs j).hi]) → R (fput E d (.ptr (some (b, o)))) F .n) : W1 tbl lo bd ⟨d, .iaddrS 4 x i, none⟩ E F R :=
  W1.iaddrZ j hr hx hi hz hj fun b o l own hm hl hs => k b o l own hm (seg_get (i := 0) hs rfl) (seg_get (i := 1) hs rfl) (seg_get (i := 2) hs rfl) (seg_get (i := 3) hs rfl) (seg_part (i := 0) (m := 4) hs hl (by omega)) (seg_part (i := 2) (m := 2) hs hl (by omega))
end
end Go.Ax
