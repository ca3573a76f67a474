/-
  The board's cells: its least costs, row by row, and its map.
-/
import Derived.Test.YtmhbmnonichopaaXT1
namespace Go.Ax
set_option maxHeartbeats 8000000
set_option linter.unusedSimpArgs false
set_option linter.unusedVariables false
variable {tbl : Nat → Option AFn} {lo bd : Nat} {E : FE} {F : Hp} {d : Option Nat} {R : FE → Hp → Cls → Prop}

theorem W1.iaddrA {x i : AO} {n sz b o : Nat} {kd : IntKind} {z : Int} (j : Nat) (hx : xev E x = .ptr (some (b, o))) (hi : xev E i = .int kd z) (hz : z = (j : Nat)) (hj : j < n) (k : R (fput E d (.ptr (some (b, o + j * sz)))) F .n) : W1 tbl lo bd ⟨d, .iaddrA n sz x i, none⟩ E F R := by
  subst hz
  refine W1.val (v := .ptr (some (b, o + j * sz))) ?_ k
  simp only [opLocF, hx, hi, if_pos (show (0 : Int) ≤ (j : Int) ∧ (j : Int) < (n : Int) by omega)]
  rfl
theorem W1.slcAll {x : AO} {n sz b o : Nat} (hx : xev E x = .ptr (some (b, o))) (k : R (fput E d (.slc (some (b, o)) n n true 0)) F .n) : W1 tbl lo bd ⟨d, .slcA n sz x none none none, none⟩ E F R := by
  refine W1.val (v := .slc (some (b, o)) n n true 0) ?_ k
  simp only [opLocF, hx, Option.map_none, bounds3, bound]
  simp [moved]
theorem W1.clrSI {x : AO} {z : List AV} {n cap es b o : Nat} {ex : Bool} {l l' : List AV} {F' : Hp} (hx : xev E x = .slc (some (b, o)) n cap ex es) (hn : n ≠ 0) (hl : splice l o ((List.replicate n z).flatten) = l') (hu : Upd F b (.cells l true) (.cells l' true) F') (ho : o + n * z.length ≤ l.length) (hb : lo ≤ b) (k : R (fput E d (.tup [])) F' .x) : W1 tbl lo bd ⟨d, .clrS z x, none⟩ E F R := by
  subst hl
  refine W1.wr (b := b) (x := .cells l true) (f := fun
      | [.cells l true] => if o + n * z.length ≤ l.length then some (.tup [], [(b, .cells (splice l o ((List.replicate n z).flatten)) true)], none) else none
      | _ => none) ?_ hu ?_ hb k
  · simp only [opLocF, hx, if_neg hn] <;> rfl
  · simp only [if_pos ho]

/-- the board's cells behind the eighth: the least costs, and the map -/
abbrev brest (lst : List Int) (mv : AV) : List AV := ints lst ++ [mv]
theorem board_get {k : K} {sv cv ov mv : AV} {lst : List Int} {q : Nat} (hq : q < lst.length) : (bcells k sv cv ov (brest lst mv))[8 + q]? = some (.int .i64 (lst.getD q 0)) := by
  show ((kl k sv cv ++ (ov :: brest lst mv)))[8 + q]? = _
  rw [List.getElem?_append_right (by show 7 ≤ 8 + q; omega), show 8 + q - (kl k sv cv).length = q + 1 by show 8 + q - 7 = _; omega, List.getElem?_cons_succ, List.getElem?_append_left (by simp [ints]; exact hq)]
  exact ints_get lst hq
theorem board_map {k : K} {sv cv ov mv : AV} {lst : List Int} (hl : lst.length = 4221) : (bcells k sv cv ov (brest lst mv))[4229]? = some mv := by
  show ((kl k sv cv ++ (ov :: brest lst mv)))[4229]? = _
  rw [List.getElem?_append_right (by show 7 ≤ 4229; omega), show 4229 - (kl k sv cv).length = 4221 + 1 by rfl, List.getElem?_cons_succ, List.getElem?_append_right (by simp [ints, hl])]
  simp [ints, hl]
theorem board_len {k : K} {sv cv ov mv : AV} {lst : List Int} (hl : lst.length = 4221) : (bcells k sv cv ov (brest lst mv)).length = 4230 := by
  show (kl k sv cv ++ (ov :: brest lst mv)).length = _
  simp [ints, hl]
theorem splice_app {l r x : List AV} {o : Nat} (h : l.length ≤ o) : splice (l ++ r) o x = l ++ splice r (o - l.length) x := by
  simp only [splice]
  rw [List.take_append, List.drop_append, List.take_of_length_le h, List.drop_of_length_le (by omega)]
  rw [show o + x.length - l.length = o - l.length + x.length by omega]
  simp only [List.nil_append, List.append_assoc]
theorem splice_left {l r x : List AV} {o : Nat} (h : o + x.length ≤ l.length) : splice (l ++ r) o x = splice l o x ++ r := by
  simp only [splice]
  rw [List.take_append_of_le_length (by omega), List.drop_append_of_le_length (by omega)]
  simp only [List.append_assoc]
theorem board_set {k : K} {sv cv ov mv : AV} {lst : List Int} {q : Nat} {z : Int} (hq : q < lst.length) : splice (bcells k sv cv ov (brest lst mv)) (8 + q) [.int .i64 z] = bcells k sv cv ov (brest (lst.set q z) mv) := by
  show splice (kl k sv cv ++ ([ov] ++ (ints lst ++ [mv]))) (8 + q) _ = _
  rw [splice_app (by show 7 ≤ 8 + q; omega), splice_app (by show 1 ≤ 8 + q - 7; omega), splice_left (by simp [ints]; omega)]
  rw [show 8 + q - (kl k sv cv).length - [ov].length = q by show 8 + q - 7 - 1 = q; omega, splice_ints hq]
  rfl
theorem board_setmap {k : K} {sv cv ov mv mv' : AV} {lst : List Int} (hl : lst.length = 4221) : splice (bcells k sv cv ov (brest lst mv)) 4229 [mv'] = bcells k sv cv ov (brest lst mv') := by
  show splice (kl k sv cv ++ ([ov] ++ (ints lst ++ [mv]))) 4229 _ = _
  rw [splice_app (by show 7 ≤ 4229; omega), splice_app (by show 1 ≤ 4229 - 7; omega), splice_app (by show (ints lst).length ≤ 4229 - 7 - 1; simp [ints, hl])]
  rw [show 4229 - (kl k sv cv).length - [ov].length - (ints lst).length = 0 by simp [ints, hl]]
  rfl
theorem ints_rep (n : Nat) : ints (List.replicate n 0) = List.replicate n (.int .i64 0) := by simp [ints]
theorem splice_rep {n o m : Nat} {z : AV} (h : o + m ≤ n) : splice (List.replicate n z) o (List.replicate m z) = List.replicate n z := by
  simp only [splice, List.take_replicate, List.drop_replicate, List.length_replicate]
  rw [List.replicate_append_replicate, List.replicate_append_replicate]
  congr 1
  omega
theorem board_clear {k : K} {sv cv ov mv : AV} {o : Nat} (ho : o + 201 ≤ 4221) : splice (bcells k sv cv ov (brest (List.replicate 4221 0) mv)) (8 + o) ((List.replicate 201 [AV.int .i64 0]).flatten) = bcells k sv cv ov (brest (List.replicate 4221 0) mv) := by
  have e1 : (List.replicate 201 [AV.int .i64 0]).flatten = List.replicate 201 (AV.int .i64 0) := by rw [flatten_rep, ints_rep]
  rw [e1]
  show splice (kl k sv cv ++ ([ov] ++ (ints (List.replicate 4221 0) ++ [mv]))) (8 + o) _ = _
  rw [splice_app (by show 7 ≤ 8 + o; omega), splice_app (by show 1 ≤ 8 + o - 7; omega), splice_left (by rw [ints_rep, List.length_replicate, List.length_replicate]; show 8 + o - 7 - 1 + 201 ≤ 4221; omega)]
  rw [show 8 + o - (kl k sv cv).length - [ov].length = o by show 8 + o - 7 - 1 = o; omega, ints_rep, splice_rep ho]
  show _ = kl k sv cv ++ ([ov] ++ (ints (List.replicate 4221 0) ++ [mv]))
  rw [ints_rep]
end Go.Ax
