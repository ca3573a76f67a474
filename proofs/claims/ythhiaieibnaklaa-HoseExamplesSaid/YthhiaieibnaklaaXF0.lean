/-
  The functions of the program as the abstract machine reads them. Written by gen_fns.py out of Lean's own reckoning of 'compF'.
-/
import Derived.Test.YthhiaieibnaklaaXMA
import Derived.Test.YthhiaieibnaklaaXF0a
namespace Go.Ax
def af60 : AFn := ⟨17, [(.tmp 2), (.tmp 3)], (.seq (.region [⟨(some 1), (.box (.tmp 0)), none⟩, ⟨(some 2), (.mv (.const (.ptr none))), none⟩, ⟨(some 3), (.mv (.const (.int .i64 0))), none⟩]) (.seq
  (.seq (.region [⟨(some 6), (.load (some 4) (.tmp 1)), none⟩, ⟨(some 7), (.call (.func 88) [(.tmp 6)]), none⟩, ⟨(some 4), (.mv (.tmp 7)), none⟩]) (.seq (.region [⟨(some 8), (.mv
  (.tmp 4)), none⟩, ⟨(some 9), (.bin .neq (.tmp 8) (.const (.int .i64 0))), none⟩]) (.cond (.tmp 9) (.seq (.region [⟨(some 10), (.mv (.tmp 4)), none⟩, ⟨(some 2), (.mv (.const
  (.ptr none))), none⟩, ⟨(some 3), (.mv (.tmp 10)), none⟩]) .ret) .skip))) (.seq (.region [⟨(some 11), (.load (some 4) (.tmp 1)), none⟩, ⟨(some 12), (.call (.func 89) [(.tmp 11)]),
   none⟩, ⟨(some 5), (.mv (.tmp 12)), none⟩]) (.seq (.seq (.region [⟨(some 13), (.mv (.tmp 5)), none⟩, ⟨(some 14), (.call (.func 90) [(.tmp 13)]), none⟩, ⟨(some 15), (.bin .geq
  (.tmp 14) (.const (.int .i64 0))), none⟩]) (.cond (.tmp 15) (.seq (.region [⟨(some 2), (.mv (.const (.ptr none))), none⟩, ⟨(some 3), (.mv (.const (.int .i64 24))), none⟩]) .ret)
  .skip)) (.seq (.region [⟨(some 16), (.mv (.tmp 5)), none⟩, ⟨(some 2), (.mv (.tmp 16)), none⟩, ⟨(some 3), (.mv (.const (.int .i64 0))), none⟩]) .ret)))))⟩
def af61 : AFn := ⟨11, [(.tmp 2)], (.seq (.region [⟨(some 2), (.mv (.const (.int .i64 0))), none⟩]) (.seq (.region [⟨(some 3), (.mv (.tmp 0)), none⟩, ⟨(some 4), (.nilchk (.tmp 3)), none⟩, ⟨(some 5),
   (.faddr 0 (.tmp 4)), none⟩, ⟨(some 6), (.faddr 2 (.tmp 5)), none⟩, ⟨(some 7), (.load none (.tmp 6)), none⟩, ⟨(some 8), (.len (.tmp 7)), none⟩, ⟨(some 9), (.bin .shl (.const
  (.int .i64 1)) (.tmp 8)), none⟩, ⟨(some 10), (.bin .sub (.tmp 9) (.const (.int .i64 1))), none⟩, ⟨(some 2), (.mv (.tmp 10)), none⟩]) .ret))⟩
def af62 : AFn := ⟨6, [(.tmp 4)], (.seq (.region [⟨(some 2), (.box (.tmp 0)), none⟩, ⟨(some 3), (.box (.tmp 1)), none⟩, ⟨(some 4), (.mv (.const .nilfn)), none⟩]) (.seq (.region [⟨(some 5), (.mkfn
  93 [] [(.tmp 2), (.tmp 3)]), none⟩, ⟨(some 4), (.mv (.tmp 5)), none⟩]) .ret))⟩
def af63 : AFn := ⟨18, [(.tmp 2)], (.seq (.region [⟨(some 2), (.mv (.const (.int .i64 0))), none⟩]) (.seq (.region [⟨(some 3), (.mv (.const (.int .i64 0))), none⟩]) (.seq (.seq (.region [⟨(some 6),
  (.mv (.tmp 0)), none⟩, ⟨(some 7), (.len (.tmp 6)), none⟩, ⟨(some 8), (.mv (.const (.int .i64 0))), none⟩]) (.block 0 (.loop (.seq (.region [⟨(some 9), (.bin .lss (.tmp 8) (.tmp
  7)), none⟩]) (.seq (.cond (.tmp 9) .skip (.exit 0)) (.seq (.block 1 (.seq (.region [⟨(some 10), (.iaddrS 1 (.tmp 6) (.tmp 8)), none⟩, ⟨(some 11), (.load none (.tmp 10)), none⟩,
  ⟨(some 5), (.mv (.tmp 11)), none⟩]) (.region [⟨(some 12), (.mv (.tmp 3)), none⟩, ⟨(some 13), (.mv (.tmp 5)), none⟩, ⟨(some 14), (.bin .shl (.const (.int .i64 1)) (.tmp 13)),
  none⟩, ⟨(some 15), (.bin .or (.tmp 12) (.tmp 14)), none⟩, ⟨(some 3), (.mv (.tmp 15)), none⟩]))) (.region [⟨(some 16), (.bin .add (.tmp 8) (.const (.int .i64 1))), none⟩, ⟨(some
  8), (.mv (.tmp 16)), none⟩]))))))) (.seq (.region [⟨(some 17), (.mv (.tmp 3)), none⟩, ⟨(some 2), (.mv (.tmp 17)), none⟩]) .ret))))⟩
def af64 : AFn := ⟨33, [(.tmp 4)], (.seq (.region [⟨(some 2), (.box (.tmp 0)), none⟩, ⟨(some 4), (.mv (.const (.slc none 0 0 true 0))), none⟩]) (.seq (.region [⟨(some 5), (.mv (.const (.slc none 0
  0 true 0))), none⟩]) (.seq (.seq (.region [⟨(some 6), (.mv (.const (.int .i64 0))), none⟩]) (.block 0 (.loop (.seq (.seq (.region [⟨(some 7), (.mv (.tmp 6)), none⟩, ⟨(some 8),
  (.faddr 2 (.tmp 2)), none⟩, ⟨(some 9), (.load none (.tmp 8)), none⟩, ⟨(some 10), (.len (.tmp 9)), none⟩, ⟨(some 11), (.bin .lss (.tmp 7) (.tmp 10)), none⟩]) (.cond (.tmp 11)
  .skip (.exit 0))) (.seq (.block 1 (.seq (.draw [⟨(some 14), (.mv (.tmp 1)), none⟩, ⟨(some 15), (.mv (.tmp 6)), none⟩, ⟨(some 16), (.call (.func 32) [(.tmp 14), (.tmp 15)]),
  none⟩, ⟨(some 17), (.un .not (.tmp 16)), none⟩, ⟨(some 18), (.mv (.tmp 17)), none⟩, ⟨(some 19), (.load (some 4) (.tmp 2)), (some (18, true))⟩, ⟨(some 20), (.bslice [] 0 1 []),
  (some (18, true))⟩, ⟨(some 21), (.mv (.tmp 1)), (some (18, true))⟩, ⟨(some 22), (.app 1 8 (.tmp 20) (.tmp 21)), (some (18, true))⟩, ⟨(some 23), (.mv (.tmp 6)), (some (18,
  true))⟩, ⟨(some 24), (.bslice [(.int .i64 0)] 1 1 [(0, (1, (.tmp 23)))]), (some (18, true))⟩, ⟨(some 25), (.app 1 8 (.tmp 22) (.tmp 24)), (some (18, true))⟩, ⟨(some 26), (.call
  (.func 75) [(.tmp 19), (.tmp 25)]), (some (18, true))⟩, ⟨(some 27), (.pick (.tmp 18) (.tmp 26) (.const (.bool false))), none⟩] [(5, 6), (5, 8), (5, 10), (6, 10), (8, 10), (5,
  11)]) (.cond (.tmp 27) (.region [⟨(some 28), (.mv (.tmp 5)), none⟩, ⟨(some 29), (.mv (.tmp 6)), none⟩, ⟨(some 30), (.bslice [(.int .i64 0)] 1 1 [(0, (1, (.tmp 29)))]), none⟩,
  ⟨(some 31), (.app 1 8 (.tmp 28) (.tmp 30)), none⟩, ⟨(some 5), (.mv (.tmp 31)), none⟩]) .skip))) (.region [⟨(some 12), (.mv (.tmp 6)), none⟩, ⟨(some 13), (.bin .add (.tmp 12)
  (.const (.int .i64 1))), none⟩, ⟨(some 6), (.mv (.tmp 13)), none⟩])))))) (.seq (.region [⟨(some 32), (.mv (.tmp 5)), none⟩, ⟨(some 4), (.mv (.tmp 32)), none⟩]) .ret))))⟩
def af65 : AFn := ⟨21, [(.tmp 2)], (.seq (.region [⟨(some 2), (.mv (.const (.slc none 0 0 true 0))), none⟩]) (.seq (.region [⟨(some 3), (.mv (.const (.slc none 0 0 true 0))), none⟩]) (.seq (.seq
  (.region [⟨(some 4), (.mv (.const (.int .i64 0))), none⟩]) (.block 0 (.loop (.seq (.seq (.region [⟨(some 5), (.mv (.tmp 0)), none⟩, ⟨(some 6), (.mv (.tmp 4)), none⟩, ⟨(some 7),
  (.bin .shr (.tmp 5) (.tmp 6)), none⟩, ⟨(some 8), (.bin .gtr (.tmp 7) (.const (.int .i64 0))), none⟩]) (.cond (.tmp 8) .skip (.exit 0))) (.seq (.block 1 (.seq (.region [⟨(some
  11), (.mv (.tmp 0)), none⟩, ⟨(some 12), (.mv (.tmp 4)), none⟩, ⟨(some 13), (.bin .shr (.tmp 11) (.tmp 12)), none⟩, ⟨(some 14), (.bin .rem (.tmp 13) (.const (.int .i64 2))),
  none⟩, ⟨(some 15), (.bin .eql (.tmp 14) (.const (.int .i64 1))), none⟩]) (.cond (.tmp 15) (.region [⟨(some 16), (.mv (.tmp 3)), none⟩, ⟨(some 17), (.mv (.tmp 4)), none⟩, ⟨(some
  18), (.bslice [(.int .i64 0)] 1 1 [(0, (1, (.tmp 17)))]), none⟩, ⟨(some 19), (.app 1 8 (.tmp 16) (.tmp 18)), none⟩, ⟨(some 3), (.mv (.tmp 19)), none⟩]) .skip))) (.region [⟨(some
  9), (.mv (.tmp 4)), none⟩, ⟨(some 10), (.bin .add (.tmp 9) (.const (.int .i64 1))), none⟩, ⟨(some 4), (.mv (.tmp 10)), none⟩])))))) (.seq (.region [⟨(some 20), (.mv (.tmp 3)),
  none⟩, ⟨(some 2), (.mv (.tmp 20)), none⟩]) .ret))))⟩
def af66 : AFn := ⟨11, [(.tmp 6)], (.seq (.region [⟨(some 3), (.box (.tmp 0)), none⟩, ⟨(some 4), (.box (.tmp 1)), none⟩, ⟨(some 6), (.mv (.const (.bool false))), none⟩]) (.seq (.region [⟨(some 7),
  (.mv (.tmp 2)), none⟩, ⟨(some 8), (.mkfn 95 [] [(.tmp 3), (.tmp 4)]), none⟩, ⟨(some 9), (.call (.func 94) [(.tmp 7), (.tmp 8)]), none⟩, ⟨(some 10), (.un .not (.tmp 9)), none⟩,
  ⟨(some 6), (.mv (.tmp 10)), none⟩]) .ret))⟩
def af67 : AFn := ⟨47, [(.tmp 6)], (.seq (.region [⟨(some 6), (.mv (.const (.int .i64 0))), none⟩]) (.seq (.region [⟨(some 10), (.mv (.tmp 0)), none⟩, ⟨(some 11), (.nilchk (.tmp 10)), none⟩, ⟨(some
  12), (.faddr 0 (.tmp 11)), none⟩, ⟨(some 13), (.faddr 0 (.tmp 12)), none⟩, ⟨(some 14), (.load none (.tmp 13)), none⟩, ⟨(some 15), (.mv (.tmp 2)), none⟩, ⟨(some 16), (.iaddrS 1
  (.tmp 14) (.tmp 15)), none⟩, ⟨(some 17), (.load none (.tmp 16)), none⟩, ⟨(some 7), (.mv (.tmp 17)), none⟩]) (.seq (.seq (.region [⟨(some 18), (.mv (.tmp 0)), none⟩, ⟨(some 19),
  (.nilchk (.tmp 18)), none⟩, ⟨(some 20), (.faddr 0 (.tmp 19)), none⟩, ⟨(some 21), (.faddr 2 (.tmp 20)), none⟩, ⟨(some 22), (.load none (.tmp 21)), none⟩, ⟨(some 23), (.len (.tmp
  22)), none⟩, ⟨(some 24), (.mv (.const (.int .i64 0))), none⟩]) (.block 0 (.loop (.seq (.region [⟨(some 25), (.bin .lss (.tmp 24) (.tmp 23)), none⟩]) (.seq (.cond (.tmp 25) .skip
  (.exit 0)) (.seq (.block 1 (.seq (.region [⟨(some 26), (.mv (.tmp 24)), none⟩, ⟨(some 27), (.iaddrS 4 (.tmp 22) (.tmp 24)), none⟩, ⟨(some 28), (.load (some 4) (.tmp 27)), none⟩,
  ⟨(some 9), (.alloc [(.int .i64 0), (.int .i64 0), (.int .i64 0), (.int .i64 0)]), none⟩, ⟨(some 8), (.mv (.tmp 26)), none⟩, ⟨none, (.store 4 (.tmp 9) (.tmp 28)), none⟩]) (.seq
  (.region [⟨(some 29), (.faddr 0 (.tmp 9)), none⟩, ⟨(some 30), (.load none (.tmp 29)), none⟩, ⟨(some 31), (.mv (.tmp 2)), none⟩, ⟨(some 32), (.bin .eql (.tmp 30) (.tmp 31)),
  none⟩, ⟨(some 33), (.mv (.tmp 32)), none⟩, ⟨(some 34), (.mv (.tmp 1)), (some (33, true))⟩, ⟨(some 35), (.mv (.tmp 8)), (some (33, true))⟩, ⟨(some 36), (.bslice [(.int .i64 0)] 1
  1 [(0, (1, (.tmp 35)))]), (some (33, true))⟩, ⟨(some 37), (.call (.func 63) [(.tmp 36)]), (some (33, true))⟩, ⟨(some 38), (.bin .and (.tmp 34) (.tmp 37)), (some (33, true))⟩,
  ⟨(some 39), (.bin .neq (.tmp 38) (.const (.int .i64 0))), (some (33, true))⟩, ⟨(some 40), (.pick (.tmp 33) (.tmp 39) (.const (.bool false))), none⟩]) (.cond (.tmp 40) (.region
  [⟨(some 41), (.mv (.tmp 7)), none⟩, ⟨(some 42), (.faddr 1 (.tmp 9)), none⟩, ⟨(some 43), (.load none (.tmp 42)), none⟩, ⟨(some 44), (.bin .add (.tmp 41) (.tmp 43)), none⟩, ⟨(some
  7), (.mv (.tmp 44)), none⟩]) .skip)))) (.region [⟨(some 45), (.bin .add (.tmp 24) (.const (.int .i64 1))), none⟩, ⟨(some 24), (.mv (.tmp 45)), none⟩]))))))) (.seq (.region
  [⟨(some 46), (.mv (.tmp 7)), none⟩, ⟨(some 6), (.mv (.tmp 46)), none⟩]) .ret))))⟩
def af68 : AFn := ⟨35, [(.tmp 6)], (.seq (.region [⟨(some 3), (.box (.tmp 0)), none⟩, ⟨(some 6), (.mv (.const (.bool false))), none⟩]) (.seq (.region [⟨(some 9), (.faddr 2 (.tmp 3)), none⟩, ⟨(some
  10), (.load none (.tmp 9)), none⟩, ⟨(some 11), (.mv (.tmp 2)), none⟩, ⟨(some 12), (.iaddrS 4 (.tmp 10) (.tmp 11)), none⟩, ⟨(some 13), (.faddr 0 (.tmp 12)), none⟩, ⟨(some 14),
  (.load none (.tmp 13)), none⟩, ⟨(some 7), (.mv (.tmp 14)), none⟩]) (.seq (.draw [⟨(some 15), (.load (some 4) (.tmp 3)), none⟩, ⟨(some 16), (.bslice [] 0 1 []), none⟩, ⟨(some 17),
   (.mv (.tmp 1)), none⟩, ⟨(some 18), (.app 1 8 (.tmp 16) (.tmp 17)), none⟩, ⟨(some 19), (.mv (.tmp 2)), none⟩, ⟨(some 20), (.bslice [(.int .i64 0)] 1 1 [(0, (1, (.tmp 19)))]),
  none⟩, ⟨(some 21), (.app 1 8 (.tmp 18) (.tmp 20)), none⟩, ⟨(some 22), (.mv (.tmp 7)), none⟩, ⟨(some 23), (.call (.func 28) [(.tmp 15), (.tmp 21), (.tmp 22)]), none⟩, ⟨(some 8),
  (.mv (.tmp 23)), none⟩] [(0, 1), (0, 3), (0, 5), (1, 5), (3, 5), (0, 6)]) (.seq (.region [⟨(some 24), (.mv (.tmp 8)), none⟩, ⟨(some 25), (.bin .geq (.tmp 24) (.const (.int .i64
  0))), none⟩, ⟨(some 26), (.mv (.tmp 25)), none⟩, ⟨(some 27), (.mv (.tmp 8)), (some (26, true))⟩, ⟨(some 28), (.faddr 1 (.tmp 3)), (some (26, true))⟩, ⟨(some 29), (.load none
  (.tmp 28)), (some (26, true))⟩, ⟨(some 30), (.mv (.tmp 7)), (some (26, true))⟩, ⟨(some 31), (.iaddrS 1 (.tmp 29) (.tmp 30)), (some (26, true))⟩, ⟨(some 32), (.load none (.tmp
  31)), (some (26, true))⟩, ⟨(some 33), (.bin .leq (.tmp 27) (.tmp 32)), (some (26, true))⟩, ⟨(some 34), (.pick (.tmp 26) (.tmp 33) (.const (.bool false))), none⟩, ⟨(some 6), (.mv
  (.tmp 34)), none⟩]) .ret))))⟩
def af69 : AFn := ⟨28, [(.tmp 4), (.tmp 5)], (.seq (.region [⟨(some 2), (.box (.tmp 0)), none⟩, ⟨(some 4), (.mv (.const (.ptr none))), none⟩, ⟨(some 5), (.mv (.const (.int .i64 0))), none⟩]) (.seq
  (.region [⟨(some 9), (.load (some 4) (.tmp 2)), none⟩, ⟨(some 10), (.call (.func 60) [(.tmp 9)]), none⟩, ⟨(some 8), (.mv (.tmp 10)), none⟩, ⟨(some 11), (.ext (.tmp 8) 0), none⟩,
  ⟨(some 12), (.ext (.tmp 8) 1), none⟩, ⟨(some 6), (.mv (.tmp 11)), none⟩, ⟨(some 7), (.mv (.tmp 12)), none⟩]) (.seq (.block 0 (.seq (.region [⟨(some 14), (.mv (.tmp 7)), none⟩,
  ⟨(some 15), (.bin .neq (.tmp 14) (.const (.int .i64 0))), none⟩, ⟨(some 13), (.mv (.tmp 15)), none⟩]) (.cond (.tmp 13) (.seq (.region [⟨(some 16), (.mv (.tmp 7)), none⟩, ⟨(some
  4), (.mv (.const (.ptr none))), none⟩, ⟨(some 5), (.mv (.tmp 16)), none⟩]) .ret) (.seq (.region [⟨(some 18), (.mv (.tmp 1)), none⟩, ⟨(some 19), (.bin .lss (.tmp 18) (.const
  (.int .i64 0))), none⟩, ⟨(some 20), (.mv (.tmp 19)), none⟩, ⟨(some 21), (.mv (.tmp 1)), (some (20, false))⟩, ⟨(some 22), (.faddr 1 (.tmp 2)), (some (20, false))⟩, ⟨(some 23),
  (.load none (.tmp 22)), (some (20, false))⟩, ⟨(some 24), (.len (.tmp 23)), (some (20, false))⟩, ⟨(some 25), (.bin .geq (.tmp 21) (.tmp 24)), (some (20, false))⟩, ⟨(some 26),
  (.pick (.tmp 20) (.const (.bool true)) (.tmp 25)), none⟩, ⟨(some 17), (.mv (.tmp 26)), none⟩]) (.cond (.tmp 17) (.seq (.region [⟨(some 4), (.mv (.const (.ptr none))), none⟩,
  ⟨(some 5), (.mv (.const (.int .i64 2))), none⟩]) .ret) .skip))))) (.seq (.region [⟨(some 27), (.mv (.tmp 6)), none⟩, ⟨(some 4), (.mv (.tmp 27)), none⟩, ⟨(some 5), (.mv (.const
  (.int .i64 0))), none⟩]) .ret))))⟩
def af70 : AFn := ⟨131, [(.tmp 6), (.tmp 7)], (.seq (.region [⟨(some 6), (.mv (.const (.int .i64 0))), none⟩, ⟨(some 7), (.mv (.const (.slc none 0 0 true 0))), none⟩]) (.seq (.region [⟨(some 17),
  (.mv (.tmp 0)), none⟩, ⟨(some 18), (.mv (.tmp 1)), none⟩, ⟨(some 19), (.mv (.tmp 2)), none⟩, ⟨(some 20), (.call (.func 96) [(.tmp 17), (.tmp 18), (.tmp 19)]), none⟩, ⟨(some 8),
  (.alloc [(.slc none 0 0 true 0), (.map none)]), none⟩, ⟨none, (.store 2 (.tmp 8) (.tmp 20)), none⟩]) (.seq (.region [⟨(some 9), (.mv (.const (.int .i64 0))), none⟩]) (.seq (.seq
  (.region [⟨(some 21), (.mv (.tmp 0)), none⟩, ⟨(some 22), (.nilchk (.tmp 21)), none⟩, ⟨(some 23), (.faddr 0 (.tmp 22)), none⟩, ⟨(some 24), (.faddr 2 (.tmp 23)), none⟩, ⟨(some 25),
   (.load none (.tmp 24)), none⟩, ⟨(some 26), (.len (.tmp 25)), none⟩, ⟨(some 27), (.mv (.const (.int .i64 0))), none⟩]) (.block 0 (.loop (.seq (.region [⟨(some 28), (.bin .lss
  (.tmp 27) (.tmp 26)), none⟩]) (.seq (.cond (.tmp 28) .skip (.exit 0)) (.seq (.block 1 (.seq (.region [⟨(some 29), (.mv (.tmp 27)), none⟩, ⟨(some 10), (.mv (.tmp 29)), none⟩])
  (.seq (.region [⟨(some 30), (.mv (.tmp 0)), none⟩, ⟨(some 31), (.mv (.tmp 1)), none⟩, ⟨(some 32), (.mv (.tmp 10)), none⟩, ⟨(some 33), (.call (.func 97) [(.tmp 30), (.tmp 31),
  (.tmp 32)]), none⟩, ⟨(some 34), (.mv (.tmp 33)), none⟩, ⟨(some 35), (.faddr 0 (.tmp 8)), (some (34, true))⟩, ⟨(some 36), (.load none (.tmp 35)), (some (34, true))⟩, ⟨(some 37),
  (.mv (.tmp 10)), (some (34, true))⟩, ⟨(some 38), (.iaddrS 1 (.tmp 36) (.tmp 37)), (some (34, true))⟩, ⟨(some 39), (.load none (.tmp 38)), (some (34, true))⟩, ⟨(some 40), (.bin
  .gtr (.tmp 39) (.const (.int .i64 0))), (some (34, true))⟩, ⟨(some 41), (.pick (.tmp 34) (.tmp 40) (.const (.bool false))), none⟩]) (.cond (.tmp 41) (.draw [⟨(some 42), (.mv
  (.tmp 9)), none⟩, ⟨(some 43), (.mv (.tmp 10)), none⟩, ⟨(some 44), (.bslice [(.int .i64 0)] 1 1 [(0, (1, (.tmp 43)))]), none⟩, ⟨(some 45), (.call (.func 63) [(.tmp 44)]), none⟩,
  ⟨(some 46), (.mv (.tmp 0)), none⟩, ⟨(some 47), (.mv (.tmp 10)), none⟩, ⟨(some 48), (.nilchk (.tmp 46)), none⟩, ⟨(some 49), (.faddr 4 (.tmp 48)), none⟩, ⟨(some 50), (.iaddrA 12 1
  (.tmp 49) (.tmp 47)), none⟩, ⟨(some 51), (.load none (.tmp 50)), none⟩, ⟨(some 52), (.bin .or (.tmp 45) (.tmp 51)), none⟩, ⟨(some 53), (.bin .or (.tmp 42) (.tmp 52)), none⟩,
  ⟨(some 9), (.mv (.tmp 53)), none⟩] [(2, 9), (3, 9)]) .skip)))) (.region [⟨(some 54), (.bin .add (.tmp 27) (.const (.int .i64 1))), none⟩, ⟨(some 27), (.mv (.tmp 54)),
  none⟩]))))))) (.seq (.block 2 (.loop (.block 3 (.seq (.region [⟨(some 55), (.mv (.tmp 9)), none⟩, ⟨(some 11), (.mv (.tmp 55)), none⟩]) (.seq (.seq (.region [⟨(some 56), (.faddr
  1 (.tmp 8)), none⟩, ⟨(some 57), (.load none (.tmp 56)), none⟩, ⟨(some 58), (.rangeM (.tmp 57)), none⟩]) (.block 4 (.loop (.seq (.region [⟨(some 59), (.next false (.tmp 58)),
  none⟩, ⟨(some 60), (.ext (.tmp 59) 0), none⟩]) (.seq (.cond (.tmp 60) .skip (.exit 4)) (.block 5 (.seq (.region [⟨(some 61), (.next true (.tmp 58)), none⟩, ⟨(some 62), (.ext
  (.tmp 61) 0), none⟩, ⟨(some 63), (.ext (.tmp 61) 1), none⟩, ⟨(some 12), (.alloc [(.int .i64 0), (.int .i64 0)]), none⟩, ⟨none, (.store 2 (.tmp 12) (.tmp 62)), none⟩, ⟨(some 13),
  (.mv (.tmp 63)), none⟩]) (.seq (.region [⟨(some 64), (.mv (.tmp 13)), none⟩, ⟨(some 65), (.bin .gtr (.tmp 64) (.const (.int .i64 0))), none⟩, ⟨(some 66), (.mv (.tmp 65)), none⟩,
  ⟨(some 67), (.mv (.tmp 9)), (some (66, true))⟩, ⟨(some 68), (.faddr 0 (.tmp 12)), (some (66, true))⟩, ⟨(some 69), (.load none (.tmp 68)), (some (66, true))⟩, ⟨(some 70),
  (.bslice [(.int .i64 0)] 1 1 [(0, (1, (.tmp 69)))]), (some (66, true))⟩, ⟨(some 71), (.call (.func 63) [(.tmp 70)]), (some (66, true))⟩, ⟨(some 72), (.bin .and (.tmp 67) (.tmp
  71)), (some (66, true))⟩, ⟨(some 73), (.bin .neq (.tmp 72) (.const (.int .i64 0))), (some (66, true))⟩, ⟨(some 74), (.pick (.tmp 66) (.tmp 73) (.const (.bool false))), none⟩])
  (.cond (.tmp 74) (.draw [⟨(some 75), (.mv (.tmp 9)), none⟩, ⟨(some 76), (.faddr 1 (.tmp 12)), none⟩, ⟨(some 77), (.load none (.tmp 76)), none⟩, ⟨(some 78), (.bslice [(.int .i64
  0)] 1 1 [(0, (1, (.tmp 77)))]), none⟩, ⟨(some 79), (.call (.func 63) [(.tmp 78)]), none⟩, ⟨(some 80), (.mv (.tmp 0)), none⟩, ⟨(some 81), (.faddr 1 (.tmp 12)), none⟩, ⟨(some 82),
  (.load none (.tmp 81)), none⟩, ⟨(some 83), (.nilchk (.tmp 80)), none⟩, ⟨(some 84), (.faddr 4 (.tmp 83)), none⟩, ⟨(some 85), (.iaddrA 12 1 (.tmp 84) (.tmp 82)), none⟩, ⟨(some 86),
   (.load none (.tmp 85)), none⟩, ⟨(some 87), (.bin .or (.tmp 79) (.tmp 86)), none⟩, ⟨(some 88), (.bin .or (.tmp 75) (.tmp 87)), none⟩, ⟨(some 9), (.mv (.tmp 88)), none⟩] [(3, 7),
  (4, 7), (3, 11), (4, 11)]) .skip))))))))) (.seq (.region [⟨(some 89), (.mv (.tmp 9)), none⟩, ⟨(some 90), (.mv (.tmp 11)), none⟩, ⟨(some 91), (.bin .eql (.tmp 89) (.tmp 90)),
  none⟩]) (.cond (.tmp 91) (.exit 2) .skip))))))) (.seq (.region [⟨(some 92), (.mv (.tmp 0)), none⟩, ⟨(some 93), (.nilchk (.tmp 92)), none⟩, ⟨(some 94), (.faddr 0 (.tmp 93)),
  none⟩, ⟨(some 95), (.faddr 0 (.tmp 94)), none⟩, ⟨(some 96), (.load none (.tmp 95)), none⟩, ⟨(some 97), (.mv (.tmp 1)), none⟩, ⟨(some 98), (.iaddrS 1 (.tmp 96) (.tmp 97)), none⟩,
  ⟨(some 99), (.load none (.tmp 98)), none⟩, ⟨(some 14), (.mv (.tmp 99)), none⟩]) (.seq (.region [⟨(some 15), (.mv (.const (.slc none 0 0 true 0))), none⟩]) (.seq (.seq (.region
  [⟨(some 100), (.mv (.tmp 0)), none⟩, ⟨(some 101), (.nilchk (.tmp 100)), none⟩, ⟨(some 102), (.faddr 0 (.tmp 101)), none⟩, ⟨(some 103), (.faddr 2 (.tmp 102)), none⟩, ⟨(some 104),
  (.load none (.tmp 103)), none⟩, ⟨(some 105), (.len (.tmp 104)), none⟩, ⟨(some 106), (.mv (.const (.int .i64 0))), none⟩]) (.block 6 (.loop (.seq (.region [⟨(some 107), (.bin
  .lss (.tmp 106) (.tmp 105)), none⟩]) (.seq (.cond (.tmp 107) .skip (.exit 6)) (.seq (.block 7 (.seq (.region [⟨(some 108), (.mv (.tmp 106)), none⟩, ⟨(some 16), (.mv (.tmp 108)),
  none⟩]) (.seq (.seq (.region [⟨(some 109), (.mv (.tmp 9)), none⟩, ⟨(some 110), (.mv (.tmp 16)), none⟩, ⟨(some 111), (.bslice [(.int .i64 0)] 1 1 [(0, (1, (.tmp 110)))]), none⟩,
  ⟨(some 112), (.call (.func 63) [(.tmp 111)]), none⟩, ⟨(some 113), (.bin .and (.tmp 109) (.tmp 112)), none⟩, ⟨(some 114), (.bin .eql (.tmp 113) (.const (.int .i64 0))), none⟩])
  (.cond (.tmp 114) (.exit 7) .skip)) (.seq (.region [⟨(some 115), (.mv (.tmp 15)), none⟩, ⟨(some 116), (.mv (.tmp 16)), none⟩, ⟨(some 117), (.bslice [(.int .i64 0)] 1 1 [(0, (1,
  (.tmp 116)))]), none⟩, ⟨(some 118), (.app 1 8 (.tmp 115) (.tmp 117)), none⟩, ⟨(some 15), (.mv (.tmp 118)), none⟩]) (.seq (.region [⟨(some 119), (.mv (.tmp 0)), none⟩, ⟨(some
  120), (.mv (.tmp 1)), none⟩, ⟨(some 121), (.mv (.tmp 16)), none⟩, ⟨(some 122), (.call (.func 97) [(.tmp 119), (.tmp 120), (.tmp 121)]), none⟩]) (.cond (.tmp 122) (.region
  [⟨(some 123), (.mv (.tmp 14)), none⟩, ⟨(some 124), (.mv (.tmp 2)), none⟩, ⟨(some 125), (.mv (.tmp 16)), none⟩, ⟨(some 126), (.call (.tmp 124) [(.tmp 125)]), none⟩, ⟨(some 127),
  (.bin .add (.tmp 123) (.tmp 126)), none⟩, ⟨(some 14), (.mv (.tmp 127)), none⟩]) .skip)))))) (.region [⟨(some 128), (.bin .add (.tmp 106) (.const (.int .i64 1))), none⟩, ⟨(some
  106), (.mv (.tmp 128)), none⟩]))))))) (.seq (.region [⟨(some 129), (.mv (.tmp 14)), none⟩, ⟨(some 130), (.mv (.tmp 15)), none⟩, ⟨(some 6), (.mv (.tmp 129)), none⟩, ⟨(some 7),
  (.mv (.tmp 130)), none⟩]) .ret)))))))))⟩
def af71 : AFn := ⟨14, [(.tmp 4)], (.seq (.region [⟨(some 4), (.mv (.const (.int .i64 0))), none⟩]) (.seq (.region [⟨(some 5), (.mv (.tmp 0)), none⟩, ⟨(some 6), (.nilchk (.tmp 5)), none⟩, ⟨(some 7),
   (.faddr 0 (.tmp 6)), none⟩, ⟨(some 8), (.faddr 2 (.tmp 7)), none⟩, ⟨(some 9), (.load none (.tmp 8)), none⟩, ⟨(some 10), (.mv (.tmp 1)), none⟩, ⟨(some 11), (.iaddrS 4 (.tmp 9)
  (.tmp 10)), none⟩, ⟨(some 12), (.faddr 1 (.tmp 11)), none⟩, ⟨(some 13), (.load none (.tmp 12)), none⟩, ⟨(some 4), (.mv (.tmp 13)), none⟩]) .ret))⟩
def af72 : AFn := ⟨8, [(.tmp 3)], (.seq (.region [⟨(some 3), (.mv (.const (.int .i64 0))), none⟩]) (.seq (.region [⟨(some 4), (.load none (.tmp 1)), none⟩, ⟨(some 5), (.mv (.tmp 0)), none⟩, ⟨(some
  6), (.call (.func 71) [(.tmp 4), (.tmp 5)]), none⟩, ⟨(some 7), (.un .neg (.tmp 6)), none⟩, ⟨(some 3), (.mv (.tmp 7)), none⟩]) .ret))⟩
def af73 : AFn := ⟨23, [(.tmp 2)], (.seq (.region [⟨(some 1), (.box (.tmp 0)), none⟩, ⟨(some 2), (.mv (.const (.slc none 0 0 true 0))), none⟩]) (.seq (.region [⟨(some 3), (.mv (.const (.slc none 0
  0 true 0))), none⟩]) (.seq (.seq (.region [⟨(some 4), (.mv (.const (.int .i64 0))), none⟩]) (.block 0 (.loop (.seq (.seq (.region [⟨(some 5), (.mv (.tmp 4)), none⟩, ⟨(some 6),
  (.faddr 2 (.tmp 1)), none⟩, ⟨(some 7), (.load none (.tmp 6)), none⟩, ⟨(some 8), (.len (.tmp 7)), none⟩, ⟨(some 9), (.bin .shl (.const (.int .i64 1)) (.tmp 8)), none⟩, ⟨(some 10),
   (.bin .lss (.tmp 5) (.tmp 9)), none⟩]) (.cond (.tmp 10) .skip (.exit 0))) (.seq (.block 1 (.seq (.draw [⟨(some 13), (.load (some 4) (.tmp 1)), none⟩, ⟨(some 14), (.mv (.tmp 4)),
   none⟩, ⟨(some 15), (.call (.func 65) [(.tmp 14)]), none⟩, ⟨(some 16), (.call (.func 75) [(.tmp 13), (.tmp 15)]), none⟩] [(0, 2)]) (.cond (.tmp 16) (.region [⟨(some 17), (.mv
  (.tmp 3)), none⟩, ⟨(some 18), (.mv (.tmp 4)), none⟩, ⟨(some 19), (.call (.func 65) [(.tmp 18)]), none⟩, ⟨(some 20), (.bslice [(.slc none 0 0 true 0)] 1 1 [(0, (1, (.tmp 19)))]),
  none⟩, ⟨(some 21), (.app 1 24 (.tmp 17) (.tmp 20)), none⟩, ⟨(some 3), (.mv (.tmp 21)), none⟩]) .skip))) (.region [⟨(some 11), (.mv (.tmp 4)), none⟩, ⟨(some 12), (.bin .add (.tmp
  11) (.const (.int .i64 1))), none⟩, ⟨(some 4), (.mv (.tmp 12)), none⟩])))))) (.seq (.region [⟨(some 22), (.mv (.tmp 3)), none⟩, ⟨(some 2), (.mv (.tmp 22)), none⟩]) .ret))))⟩
def af74 : AFn := ⟨14, [(.tmp 4)], (.seq (.region [⟨(some 2), (.box (.tmp 0)), none⟩, ⟨(some 4), (.mv (.const (.bool false))), none⟩]) (.seq (.region [⟨(some 5), (.mv (.tmp 1)), none⟩, ⟨(some 6),
  (.bin .geq (.tmp 5) (.const (.int .i64 0))), none⟩, ⟨(some 7), (.mv (.tmp 6)), none⟩, ⟨(some 8), (.mv (.tmp 1)), (some (7, true))⟩, ⟨(some 9), (.faddr 2 (.tmp 2)), (some (7,
  true))⟩, ⟨(some 10), (.load none (.tmp 9)), (some (7, true))⟩, ⟨(some 11), (.len (.tmp 10)), (some (7, true))⟩, ⟨(some 12), (.bin .lss (.tmp 8) (.tmp 11)), (some (7, true))⟩,
  ⟨(some 13), (.pick (.tmp 7) (.tmp 12) (.const (.bool false))), none⟩, ⟨(some 4), (.mv (.tmp 13)), none⟩]) .ret))⟩
def af75 : AFn := ⟨32, [(.tmp 4)], (.seq (.region [⟨(some 2), (.box (.tmp 0)), none⟩, ⟨(some 4), (.mv (.const (.bool false))), none⟩]) (.seq (.seq (.region [⟨(some 5), (.mv (.const (.int .i64 0))),
  none⟩]) (.block 0 (.loop (.seq (.seq (.region [⟨(some 6), (.mv (.tmp 5)), none⟩, ⟨(some 7), (.faddr 3 (.tmp 2)), none⟩, ⟨(some 8), (.load none (.tmp 7)), none⟩, ⟨(some 9), (.len
  (.tmp 8)), none⟩, ⟨(some 10), (.bin .lss (.tmp 6) (.tmp 9)), none⟩]) (.cond (.tmp 10) .skip (.exit 0))) (.seq (.block 1 (.seq (.region [⟨(some 13), (.mv (.tmp 1)), none⟩, ⟨(some
  14), (.faddr 3 (.tmp 2)), none⟩, ⟨(some 15), (.load none (.tmp 14)), none⟩, ⟨(some 16), (.mv (.tmp 5)), none⟩, ⟨(some 17), (.iaddrS 2 (.tmp 15) (.tmp 16)), none⟩, ⟨(some 18),
  (.iaddrA 2 1 (.tmp 17) (.const (.int .i64 1))), none⟩, ⟨(some 19), (.load none (.tmp 18)), none⟩, ⟨(some 20), (.call (.func 32) [(.tmp 13), (.tmp 19)]), none⟩, ⟨(some 21), (.mv
  (.tmp 20)), none⟩, ⟨(some 22), (.mv (.tmp 1)), (some (21, true))⟩, ⟨(some 23), (.faddr 3 (.tmp 2)), (some (21, true))⟩, ⟨(some 24), (.load none (.tmp 23)), (some (21, true))⟩,
  ⟨(some 25), (.mv (.tmp 5)), (some (21, true))⟩, ⟨(some 26), (.iaddrS 2 (.tmp 24) (.tmp 25)), (some (21, true))⟩, ⟨(some 27), (.iaddrA 2 1 (.tmp 26) (.const (.int .i64 0))),
  (some (21, true))⟩, ⟨(some 28), (.load none (.tmp 27)), (some (21, true))⟩, ⟨(some 29), (.call (.func 32) [(.tmp 22), (.tmp 28)]), (some (21, true))⟩, ⟨(some 30), (.un .not
  (.tmp 29)), (some (21, true))⟩, ⟨(some 31), (.pick (.tmp 21) (.tmp 30) (.const (.bool false))), none⟩]) (.cond (.tmp 31) (.seq (.region [⟨(some 4), (.mv (.const (.bool false))),
  none⟩]) .ret) .skip))) (.region [⟨(some 11), (.mv (.tmp 5)), none⟩, ⟨(some 12), (.bin .add (.tmp 11) (.const (.int .i64 1))), none⟩, ⟨(some 5), (.mv (.tmp 12)), none⟩]))))))
  (.seq (.region [⟨(some 4), (.mv (.const (.bool true))), none⟩]) .ret)))⟩
def af76 : AFn := ⟨58, [(.tmp 4), (.tmp 5)], (.seq (.region [⟨(some 2), (.box (.tmp 0)), none⟩, ⟨(some 4), (.mv (.const (.ptr none))), none⟩, ⟨(some 5), (.mv (.const (.int .i64 0))), none⟩]) (.seq
  (.region [⟨(some 12), (.load (some 4) (.tmp 2)), none⟩, ⟨(some 13), (.call (.func 60) [(.tmp 12)]), none⟩, ⟨(some 11), (.mv (.tmp 13)), none⟩, ⟨(some 14), (.ext (.tmp 11) 0),
  none⟩, ⟨(some 15), (.ext (.tmp 11) 1), none⟩, ⟨(some 6), (.mv (.tmp 14)), none⟩, ⟨(some 7), (.mv (.tmp 15)), none⟩]) (.seq (.block 0 (.seq (.region [⟨(some 17), (.mv (.tmp 7)),
  none⟩, ⟨(some 18), (.bin .neq (.tmp 17) (.const (.int .i64 0))), none⟩, ⟨(some 16), (.mv (.tmp 18)), none⟩]) (.cond (.tmp 16) (.seq (.region [⟨(some 19), (.mv (.tmp 7)), none⟩,
  ⟨(some 4), (.mv (.const (.ptr none))), none⟩, ⟨(some 5), (.mv (.tmp 19)), none⟩]) .ret) (.seq (.region [⟨(some 21), (.mv (.tmp 6)), none⟩, ⟨(some 22), (.mv (.tmp 1)), none⟩,
  ⟨(some 23), (.call (.func 80) [(.tmp 21), (.tmp 22)]), none⟩, ⟨(some 24), (.un .not (.tmp 23)), none⟩, ⟨(some 25), (.mv (.tmp 24)), none⟩, ⟨(some 26), (.mv (.tmp 1)), (some (25,
  false))⟩, ⟨(some 27), (.call (.func 98) [(.tmp 26)]), (some (25, false))⟩, ⟨(some 28), (.un .not (.tmp 27)), (some (25, false))⟩, ⟨(some 29), (.pick (.tmp 25) (.const (.bool
  true)) (.tmp 28)), none⟩, ⟨(some 30), (.mv (.tmp 29)), none⟩, ⟨(some 31), (.mv (.tmp 1)), (some (30, false))⟩, ⟨(some 32), (.call (.func 100) [(.tmp 31)]), (some (30, false))⟩,
  ⟨(some 33), (.call (.func 99) [(.tmp 32)]), (some (30, false))⟩, ⟨(some 34), (.len (.tmp 33)), (some (30, false))⟩, ⟨(some 35), (.mv (.tmp 1)), (some (30, false))⟩, ⟨(some 36),
  (.len (.tmp 35)), (some (30, false))⟩, ⟨(some 37), (.bin .neq (.tmp 34) (.tmp 36)), (some (30, false))⟩, ⟨(some 38), (.pick (.tmp 30) (.const (.bool true)) (.tmp 37)), none⟩,
  ⟨(some 20), (.mv (.tmp 38)), none⟩]) (.cond (.tmp 20) (.seq (.region [⟨(some 4), (.mv (.const (.ptr none))), none⟩, ⟨(some 5), (.mv (.const (.int .i64 3))), none⟩]) .ret)
  .skip))))) (.seq (.region [⟨(some 39), (.mv (.tmp 1)), none⟩, ⟨(some 40), (.call (.func 63) [(.tmp 39)]), none⟩, ⟨(some 8), (.mv (.tmp 40)), none⟩]) (.seq (.seq (.region [⟨(some
  41), (.mv (.tmp 1)), none⟩, ⟨(some 42), (.len (.tmp 41)), none⟩, ⟨(some 43), (.mv (.const (.int .i64 0))), none⟩]) (.block 1 (.loop (.seq (.region [⟨(some 44), (.bin .lss (.tmp
  43) (.tmp 42)), none⟩]) (.seq (.cond (.tmp 44) .skip (.exit 1)) (.seq (.block 2 (.seq (.region [⟨(some 45), (.iaddrS 1 (.tmp 41) (.tmp 43)), none⟩, ⟨(some 46), (.load none (.tmp
  45)), none⟩, ⟨(some 10), (.mv (.tmp 46)), none⟩]) (.seq (.region [⟨(some 47), (.mv (.tmp 6)), none⟩, ⟨(some 48), (.mv (.tmp 10)), none⟩, ⟨(some 49), (.nilchk (.tmp 47)), none⟩,
  ⟨(some 50), (.faddr 4 (.tmp 49)), none⟩, ⟨(some 51), (.iaddrA 12 1 (.tmp 50) (.tmp 48)), none⟩, ⟨(some 52), (.load none (.tmp 51)), none⟩, ⟨(some 53), (.mv (.tmp 8)), none⟩,
  ⟨(some 54), (.bin .andNot (.tmp 52) (.tmp 53)), none⟩, ⟨(some 55), (.bin .neq (.tmp 54) (.const (.int .i64 0))), none⟩]) (.cond (.tmp 55) (.seq (.region [⟨(some 4), (.mv (.const
  (.ptr none))), none⟩, ⟨(some 5), (.mv (.const (.int .i64 16))), none⟩]) .ret) .skip)))) (.region [⟨(some 56), (.bin .add (.tmp 43) (.const (.int .i64 1))), none⟩, ⟨(some 43),
  (.mv (.tmp 56)), none⟩]))))))) (.seq (.region [⟨(some 57), (.mv (.tmp 6)), none⟩, ⟨(some 4), (.mv (.tmp 57)), none⟩, ⟨(some 5), (.mv (.const (.int .i64 0))), none⟩]) .ret))))))⟩
def af77 : AFn := ⟨47, [(.tmp 4)], (.seq (.region [⟨(some 4), (.mv (.const (.slc none 0 0 true 0))), none⟩]) (.seq (.region [⟨(some 5), (.alloc [(.slc none 0 0 true 0)]), none⟩]) (.seq (.region
  [⟨(some 6), (.alloc [(.int .i64 0)]), none⟩, ⟨none, (.store 1 (.tmp 6) (.const (.int .i64 0))), none⟩]) (.seq (.seq (.region [⟨(some 10), (.mv (.tmp 1)), none⟩, ⟨(some 11),
  (.len (.tmp 10)), none⟩, ⟨(some 12), (.mv (.const (.int .i64 0))), none⟩]) (.block 0 (.loop (.seq (.region [⟨(some 13), (.bin .lss (.tmp 12) (.tmp 11)), none⟩]) (.seq (.cond
  (.tmp 13) .skip (.exit 0)) (.seq (.block 1 (.seq (.region [⟨(some 14), (.iaddrS 1 (.tmp 10) (.tmp 12)), none⟩, ⟨(some 15), (.load none (.tmp 14)), none⟩, ⟨(some 8), (.alloc
  [(.int .i64 0)]), none⟩, ⟨none, (.store 1 (.tmp 8) (.tmp 15)), none⟩]) (.block 2 (.loop (.seq (.seq (.region [⟨(some 16), (.load none (.tmp 6)), none⟩, ⟨(some 17), (.load none
  (.tmp 8)), none⟩, ⟨(some 18), (.bin .and (.tmp 16) (.tmp 17)), none⟩, ⟨(some 19), (.load none (.tmp 8)), none⟩, ⟨(some 20), (.bin .neq (.tmp 18) (.tmp 19)), none⟩]) (.cond (.tmp
  20) .skip (.exit 2))) (.block 3 (.seq (.region [⟨(some 21), (.mv (.tmp 0)), none⟩, ⟨(some 22), (.load none (.tmp 6)), none⟩, ⟨(some 23), (.call (.func 62) [(.tmp 21), (.tmp
  22)]), none⟩]) (.block 4 (.rangeF (.tmp 23) [24] (.region [⟨(some 9), (.mv (.tmp 24)), none⟩]) (.block 5 (.seq (.draw [⟨(some 25), (.load none (.tmp 8)), none⟩, ⟨(some 26), (.mv
  (.tmp 9)), none⟩, ⟨(some 27), (.bslice [(.int .i64 0)] 1 1 [(0, (1, (.tmp 26)))]), none⟩, ⟨(some 28), (.call (.func 63) [(.tmp 27)]), none⟩, ⟨(some 29), (.bin .and (.tmp 25)
  (.tmp 28)), none⟩, ⟨(some 30), (.bin .neq (.tmp 29) (.const (.int .i64 0))), none⟩] [(0, 2), (0, 3)]) (.cond (.tmp 30) (.seq (.region [⟨(some 31), (.load none (.tmp 5)), none⟩,
  ⟨(some 32), (.load none (.tmp 5)), none⟩, ⟨(some 33), (.len (.tmp 32)), none⟩, ⟨(some 34), (.load none (.tmp 5)), none⟩, ⟨(some 35), (.len (.tmp 34)), none⟩, ⟨(some 36), (.slc 1
  (.tmp 31) none (some (.tmp 33)) (some (.tmp 35))), none⟩, ⟨(some 37), (.mv (.tmp 9)), none⟩, ⟨(some 38), (.bslice [(.int .i64 0)] 1 1 [(0, (1, (.tmp 37)))]), none⟩, ⟨(some 39),
  (.app 1 8 (.tmp 36) (.tmp 38)), none⟩, ⟨none, (.store 1 (.tmp 5) (.tmp 39)), none⟩]) (.seq (.draw [⟨(some 40), (.load none (.tmp 6)), none⟩, ⟨(some 41), (.mv (.tmp 9)), none⟩,
  ⟨(some 42), (.bslice [(.int .i64 0)] 1 1 [(0, (1, (.tmp 41)))]), none⟩, ⟨(some 43), (.call (.func 63) [(.tmp 42)]), none⟩, ⟨(some 44), (.bin .or (.tmp 40) (.tmp 43)), none⟩,
  ⟨none, (.store 1 (.tmp 6) (.tmp 44)), none⟩] [(0, 2), (0, 3)]) (.exit 4))) .skip)))))))))))) (.region [⟨(some 45), (.bin .add (.tmp 12) (.const (.int .i64 1))), none⟩, ⟨(some
  12), (.mv (.tmp 45)), none⟩]))))))) (.seq (.region [⟨(some 46), (.load none (.tmp 5)), none⟩, ⟨(some 4), (.mv (.tmp 46)), none⟩]) .ret)))))⟩
def af78 : AFn := ⟨9, [(.tmp 4)], (.seq (.region [⟨(some 4), (.mv (.const (.bool false))), none⟩]) (.seq (.region [⟨(some 5), (.mv (.tmp 0)), none⟩, ⟨(some 6), (.mv (.tmp 1)), none⟩, ⟨(some 7),
  (.call (.func 101) [(.tmp 5), (.tmp 6)]), none⟩, ⟨(some 8), (.bin .geq (.tmp 7) (.const (.int .i64 0))), none⟩, ⟨(some 4), (.mv (.tmp 8)), none⟩]) .ret))⟩
def af79 : AFn := ⟨17, [(.tmp 3)], (.seq (.region [⟨(some 2), (.box (.tmp 0)), none⟩, ⟨(some 3), (.mv (.const (.bool false))), none⟩]) (.seq (.region [⟨(some 4), (.faddr 2 (.tmp 2)), none⟩, ⟨(some
  5), (.load none (.tmp 4)), none⟩, ⟨(some 6), (.bin .lss (.tmp 5) (.const (.int .i64 1))), none⟩, ⟨(some 7), (.mv (.tmp 6)), none⟩, ⟨(some 8), (.load none (.tmp 1)), (some (7,
  false))⟩, ⟨(some 9), (.faddr 0 (.tmp 2)), (some (7, false))⟩, ⟨(some 10), (.load none (.tmp 9)), (some (7, false))⟩, ⟨(some 11), (.faddr 1 (.tmp 2)), (some (7, false))⟩, ⟨(some
  12), (.load none (.tmp 11)), (some (7, false))⟩, ⟨(some 13), (.bslice [(.int .i64 0), (.int .i64 0)] 2 1 [(0, (1, (.tmp 10))), (1, (1, (.tmp 12)))]), (some (7, false))⟩, ⟨(some
  14), (.call (.func 80) [(.tmp 8), (.tmp 13)]), (some (7, false))⟩, ⟨(some 15), (.un .not (.tmp 14)), (some (7, false))⟩, ⟨(some 16), (.pick (.tmp 7) (.const (.bool true)) (.tmp
  15)), none⟩, ⟨(some 3), (.mv (.tmp 16)), none⟩]) .ret))⟩
def af80 : AFn := ⟨9, [(.tmp 4)], (.seq (.region [⟨(some 2), (.box (.tmp 0)), none⟩, ⟨(some 4), (.mv (.const (.bool false))), none⟩]) (.seq (.region [⟨(some 5), (.mv (.tmp 1)), none⟩, ⟨(some 6),
  (.mkfn 103 [] [(.tmp 2)]), none⟩, ⟨(some 7), (.call (.func 102) [(.tmp 5), (.tmp 6)]), none⟩, ⟨(some 8), (.bin .lss (.tmp 7) (.const (.int .i64 0))), none⟩, ⟨(some 4), (.mv
  (.tmp 8)), none⟩]) .ret))⟩
def af81 : AFn := ⟨83, [(.tmp 2)], (.seq (.region [⟨(some 1), (.box (.tmp 0)), none⟩, ⟨(some 2), (.mv (.const (.slc none 0 0 true 0))), none⟩]) (.seq (.region [⟨(some 9), (.faddr 2 (.tmp 1)), none⟩,
   ⟨(some 10), (.load none (.tmp 9)), none⟩, ⟨(some 11), (.len (.tmp 10)), none⟩, ⟨(some 3), (.mv (.tmp 11)), none⟩]) (.seq (.region [⟨(some 12), (.mv (.tmp 3)), none⟩, ⟨(some 13),
   (.mv (.tmp 3)), none⟩, ⟨(some 14), (.bin .mul (.tmp 12) (.tmp 13)), none⟩, ⟨(some 15), (.mkslc [(.int .i64 0)] 8 (.tmp 14) (.tmp 14)), none⟩, ⟨(some 4), (.mv (.tmp 15)),
  none⟩]) (.seq (.seq (.region [⟨(some 5), (.mv (.const (.int .i64 0))), none⟩]) (.block 0 (.loop (.seq (.seq (.region [⟨(some 16), (.mv (.tmp 5)), none⟩, ⟨(some 17), (.faddr 3
  (.tmp 1)), none⟩, ⟨(some 18), (.load none (.tmp 17)), none⟩, ⟨(some 19), (.len (.tmp 18)), none⟩, ⟨(some 20), (.bin .lss (.tmp 16) (.tmp 19)), none⟩]) (.cond (.tmp 20) .skip
  (.exit 0))) (.seq (.block 1 (.draw [⟨(some 23), (.mv (.tmp 4)), none⟩, ⟨(some 24), (.faddr 3 (.tmp 1)), none⟩, ⟨(some 25), (.load none (.tmp 24)), none⟩, ⟨(some 26), (.mv (.tmp
  5)), none⟩, ⟨(some 27), (.iaddrS 2 (.tmp 25) (.tmp 26)), none⟩, ⟨(some 28), (.iaddrA 2 1 (.tmp 27) (.const (.int .i64 0))), none⟩, ⟨(some 29), (.load none (.tmp 28)), none⟩,
  ⟨(some 30), (.mv (.tmp 3)), none⟩, ⟨(some 31), (.bin .mul (.tmp 29) (.tmp 30)), none⟩, ⟨(some 32), (.faddr 3 (.tmp 1)), none⟩, ⟨(some 33), (.load none (.tmp 32)), none⟩, ⟨(some
  34), (.mv (.tmp 5)), none⟩, ⟨(some 35), (.iaddrS 2 (.tmp 33) (.tmp 34)), none⟩, ⟨(some 36), (.iaddrA 2 1 (.tmp 35) (.const (.int .i64 1))), none⟩, ⟨(some 37), (.load none (.tmp
  36)), none⟩, ⟨(some 38), (.bin .add (.tmp 31) (.tmp 37)), none⟩, ⟨(some 39), (.iaddrS 1 (.tmp 23) (.tmp 38)), none⟩, ⟨none, (.store 1 (.tmp 39) (.const (.int .i64 1))), none⟩]
  [])) (.region [⟨(some 21), (.mv (.tmp 5)), none⟩, ⟨(some 22), (.bin .add (.tmp 21) (.const (.int .i64 1))), none⟩, ⟨(some 5), (.mv (.tmp 22)), none⟩])))))) (.seq (.seq (.region
  [⟨(some 6), (.mv (.const (.int .i64 0))), none⟩]) (.block 2 (.loop (.seq (.seq (.region [⟨(some 40), (.mv (.tmp 6)), none⟩, ⟨(some 41), (.mv (.tmp 3)), none⟩, ⟨(some 42), (.bin
  .lss (.tmp 40) (.tmp 41)), none⟩]) (.cond (.tmp 42) .skip (.exit 2))) (.seq (.block 3 (.seq (.region [⟨(some 7), (.mv (.const (.int .i64 0))), none⟩]) (.block 4 (.loop (.seq
  (.seq (.region [⟨(some 45), (.mv (.tmp 7)), none⟩, ⟨(some 46), (.mv (.tmp 3)), none⟩, ⟨(some 47), (.bin .lss (.tmp 45) (.tmp 46)), none⟩]) (.cond (.tmp 47) .skip (.exit 4)))
  (.seq (.block 5 (.seq (.region [⟨(some 8), (.mv (.const (.int .i64 0))), none⟩]) (.block 6 (.loop (.seq (.seq (.region [⟨(some 50), (.mv (.tmp 8)), none⟩, ⟨(some 51), (.mv (.tmp
  3)), none⟩, ⟨(some 52), (.bin .lss (.tmp 50) (.tmp 51)), none⟩]) (.cond (.tmp 52) .skip (.exit 6))) (.seq (.block 7 (.seq (.region [⟨(some 55), (.mv (.tmp 4)), none⟩, ⟨(some 56),
   (.mv (.tmp 7)), none⟩, ⟨(some 57), (.mv (.tmp 3)), none⟩, ⟨(some 58), (.bin .mul (.tmp 56) (.tmp 57)), none⟩, ⟨(some 59), (.mv (.tmp 6)), none⟩, ⟨(some 60), (.bin .add (.tmp
  58) (.tmp 59)), none⟩, ⟨(some 61), (.iaddrS 1 (.tmp 55) (.tmp 60)), none⟩, ⟨(some 62), (.load none (.tmp 61)), none⟩, ⟨(some 63), (.bin .eql (.tmp 62) (.const (.int .i64 1))),
  none⟩, ⟨(some 64), (.mv (.tmp 63)), none⟩, ⟨(some 65), (.mv (.tmp 4)), (some (64, true))⟩, ⟨(some 66), (.mv (.tmp 6)), (some (64, true))⟩, ⟨(some 67), (.mv (.tmp 3)), (some (64,
  true))⟩, ⟨(some 68), (.bin .mul (.tmp 66) (.tmp 67)), (some (64, true))⟩, ⟨(some 69), (.mv (.tmp 8)), (some (64, true))⟩, ⟨(some 70), (.bin .add (.tmp 68) (.tmp 69)), (some (64,
  true))⟩, ⟨(some 71), (.iaddrS 1 (.tmp 65) (.tmp 70)), (some (64, true))⟩, ⟨(some 72), (.load none (.tmp 71)), (some (64, true))⟩, ⟨(some 73), (.bin .eql (.tmp 72) (.const (.int
  .i64 1))), (some (64, true))⟩, ⟨(some 74), (.pick (.tmp 64) (.tmp 73) (.const (.bool false))), none⟩]) (.cond (.tmp 74) (.region [⟨(some 75), (.mv (.tmp 4)), none⟩, ⟨(some 76),
  (.mv (.tmp 7)), none⟩, ⟨(some 77), (.mv (.tmp 3)), none⟩, ⟨(some 78), (.bin .mul (.tmp 76) (.tmp 77)), none⟩, ⟨(some 79), (.mv (.tmp 8)), none⟩, ⟨(some 80), (.bin .add (.tmp 78)
  (.tmp 79)), none⟩, ⟨(some 81), (.iaddrS 1 (.tmp 75) (.tmp 80)), none⟩, ⟨none, (.store 1 (.tmp 81) (.const (.int .i64 1))), none⟩]) .skip))) (.region [⟨(some 53), (.mv (.tmp 8)),
  none⟩, ⟨(some 54), (.bin .add (.tmp 53) (.const (.int .i64 1))), none⟩, ⟨(some 8), (.mv (.tmp 54)), none⟩]))))))) (.region [⟨(some 48), (.mv (.tmp 7)), none⟩, ⟨(some 49), (.bin
  .add (.tmp 48) (.const (.int .i64 1))), none⟩, ⟨(some 7), (.mv (.tmp 49)), none⟩]))))))) (.region [⟨(some 43), (.mv (.tmp 6)), none⟩, ⟨(some 44), (.bin .add (.tmp 43) (.const
  (.int .i64 1))), none⟩, ⟨(some 6), (.mv (.tmp 44)), none⟩])))))) (.seq (.region [⟨(some 82), (.mv (.tmp 4)), none⟩, ⟨(some 2), (.mv (.tmp 82)), none⟩]) .ret))))))⟩
def af82 : AFn := ⟨52, [(.tmp 6)], (.seq (.region [⟨(some 6), (.mv (.const (.slc none 0 0 true 0))), none⟩]) (.seq (.region [⟨(some 12), (.mv (.tmp 0)), none⟩, ⟨(some 13), (.mv (.tmp 1)), none⟩,
  ⟨(some 14), (.mv (.tmp 2)), none⟩, ⟨(some 15), (.call (.func 96) [(.tmp 12), (.tmp 13), (.tmp 14)]), none⟩, ⟨(some 7), (.alloc [(.slc none 0 0 true 0), (.map none)]), none⟩,
  ⟨none, (.store 2 (.tmp 7) (.tmp 15)), none⟩]) (.seq (.region [⟨(some 8), (.mv (.const (.slc none 0 0 true 0))), none⟩]) (.seq (.seq (.region [⟨(some 16), (.mv (.tmp 0)), none⟩,
  ⟨(some 17), (.nilchk (.tmp 16)), none⟩, ⟨(some 18), (.faddr 0 (.tmp 17)), none⟩, ⟨(some 19), (.faddr 2 (.tmp 18)), none⟩, ⟨(some 20), (.load none (.tmp 19)), none⟩, ⟨(some 21),
  (.len (.tmp 20)), none⟩, ⟨(some 22), (.mv (.const (.int .i64 0))), none⟩]) (.block 0 (.loop (.seq (.region [⟨(some 23), (.bin .lss (.tmp 22) (.tmp 21)), none⟩]) (.seq (.cond
  (.tmp 23) .skip (.exit 0)) (.seq (.block 1 (.seq (.region [⟨(some 24), (.mv (.tmp 22)), none⟩, ⟨(some 9), (.mv (.tmp 24)), none⟩]) (.seq (.region [⟨(some 25), (.mv (.tmp 0)),
  none⟩, ⟨(some 26), (.nilchk (.tmp 25)), none⟩, ⟨(some 27), (.faddr 0 (.tmp 26)), none⟩, ⟨(some 28), (.faddr 2 (.tmp 27)), none⟩, ⟨(some 29), (.load none (.tmp 28)), none⟩,
  ⟨(some 30), (.len (.tmp 29)), none⟩, ⟨(some 31), (.mv (.const (.int .i64 0))), none⟩]) (.block 2 (.loop (.seq (.region [⟨(some 32), (.bin .lss (.tmp 31) (.tmp 30)), none⟩])
  (.seq (.cond (.tmp 32) .skip (.exit 2)) (.seq (.block 3 (.seq (.region [⟨(some 33), (.mv (.tmp 31)), none⟩, ⟨(some 10), (.mv (.tmp 33)), none⟩]) (.seq (.region [⟨(some 34),
  (.faddr 1 (.tmp 7)), none⟩, ⟨(some 35), (.load none (.tmp 34)), none⟩, ⟨(some 36), (.mv (.tmp 9)), none⟩, ⟨(some 37), (.mv (.tmp 10)), none⟩, ⟨(some 38), (.build [(.int .i64 0),
  (.int .i64 0)] [(0, (1, (.tmp 36))), (1, (1, (.tmp 37)))]), none⟩, ⟨(some 39), (.look true [.int, .int] (.int .i64 0) (.tmp 35) (.tmp 38) false), none⟩, ⟨(some 11), (.mv (.tmp
  39)), none⟩]) (.seq (.region [⟨(some 40), (.mv (.tmp 11)), none⟩, ⟨(some 41), (.bin .gtr (.tmp 40) (.const (.int .i64 0))), none⟩]) (.cond (.tmp 41) (.region [⟨(some 42), (.mv
  (.tmp 8)), none⟩, ⟨(some 43), (.mv (.tmp 9)), none⟩, ⟨(some 44), (.mv (.tmp 10)), none⟩, ⟨(some 45), (.mv (.tmp 11)), none⟩, ⟨(some 46), (.build [(.int .i64 0), (.int .i64 0),
  (.int .i64 0)] [(0, (1, (.tmp 43))), (1, (1, (.tmp 44))), (2, (1, (.tmp 45)))]), none⟩, ⟨(some 47), (.bslice [(.int .i64 0), (.int .i64 0), (.int .i64 0)] 1 3 [(0, (3, (.tmp
  46)))]), none⟩, ⟨(some 48), (.app 3 24 (.tmp 42) (.tmp 47)), none⟩, ⟨(some 8), (.mv (.tmp 48)), none⟩]) .skip))))) (.region [⟨(some 49), (.bin .add (.tmp 31) (.const (.int .i64
  1))), none⟩, ⟨(some 31), (.mv (.tmp 49)), none⟩]))))))))) (.region [⟨(some 50), (.bin .add (.tmp 22) (.const (.int .i64 1))), none⟩, ⟨(some 22), (.mv (.tmp 50)), none⟩])))))))
  (.seq (.region [⟨(some 51), (.mv (.tmp 8)), none⟩, ⟨(some 6), (.mv (.tmp 51)), none⟩]) .ret)))))⟩
def af83 : AFn := ⟨19, [(.tmp 4)], (.seq (.region [⟨(some 4), (.mv (.const (.int .i64 0))), none⟩]) (.seq (.seq (.region [⟨(some 7), (.mv (.tmp 0)), none⟩, ⟨(some 8), (.len (.tmp 7)), none⟩, ⟨(some
  9), (.mv (.const (.int .i64 0))), none⟩]) (.block 0 (.loop (.seq (.region [⟨(some 10), (.bin .lss (.tmp 9) (.tmp 8)), none⟩]) (.seq (.cond (.tmp 10) .skip (.exit 0)) (.seq
  (.block 1 (.seq (.region [⟨(some 11), (.mv (.tmp 9)), none⟩, ⟨(some 12), (.iaddrS 2 (.tmp 7) (.tmp 9)), none⟩, ⟨(some 13), (.load (some 2) (.tmp 12)), none⟩, ⟨(some 6), (.alloc
  [(.int .i64 0), (.int .i64 0)]), none⟩, ⟨(some 5), (.mv (.tmp 11)), none⟩, ⟨none, (.store 2 (.tmp 6) (.tmp 13)), none⟩]) (.seq (.region [⟨(some 14), (.mv (.tmp 1)), none⟩,
  ⟨(some 15), (.load (some 2) (.tmp 6)), none⟩, ⟨(some 16), (.call (.tmp 14) [(.tmp 15)]), none⟩]) (.cond (.tmp 16) (.seq (.region [⟨(some 17), (.mv (.tmp 5)), none⟩, ⟨(some 4),
  (.mv (.tmp 17)), none⟩]) .ret) .skip)))) (.region [⟨(some 18), (.bin .add (.tmp 9) (.const (.int .i64 1))), none⟩, ⟨(some 9), (.mv (.tmp 18)), none⟩]))))))) (.seq (.region
  [⟨(some 4), (.mv (.const (.int .i64 (-1)))), none⟩]) .ret)))⟩
def af84 : AFn := ⟨10, [(.tmp 3)], (.seq (.region [⟨(some 2), (.box (.tmp 0)), none⟩, ⟨(some 3), (.mv (.const (.bool false))), none⟩]) (.seq (.region [⟨(some 4), (.load none (.tmp 1)), none⟩,
  ⟨(some 5), (.iaddrA 2 1 (.tmp 2) (.const (.int .i64 0))), none⟩, ⟨(some 6), (.load none (.tmp 5)), none⟩, ⟨(some 7), (.iaddrA 2 1 (.tmp 2) (.const (.int .i64 1))), none⟩, ⟨(some
  8), (.load none (.tmp 7)), none⟩, ⟨(some 9), (.call (.func 85) [(.tmp 4), (.tmp 6), (.tmp 8)]), none⟩, ⟨(some 3), (.mv (.tmp 9)), none⟩]) .ret))⟩
def af85 : AFn := ⟨83, [(.tmp 6)], (.seq (.region [⟨(some 6), (.mv (.const (.bool false))), none⟩]) (.seq (.draw [⟨(some 10), (.mv (.tmp 0)), none⟩, ⟨(some 11), (.nilchk (.tmp 10)), none⟩, ⟨(some
  12), (.faddr 0 (.tmp 11)), none⟩, ⟨(some 13), (.faddr 2 (.tmp 12)), none⟩, ⟨(some 14), (.load none (.tmp 13)), none⟩, ⟨(some 15), (.mv (.tmp 1)), none⟩, ⟨(some 16), (.iaddrS 4
  (.tmp 14) (.tmp 15)), none⟩, ⟨(some 17), (.load (some 4) (.tmp 16)), none⟩, ⟨(some 18), (.mv (.tmp 0)), none⟩, ⟨(some 19), (.nilchk (.tmp 18)), none⟩, ⟨(some 20), (.faddr 0
  (.tmp 19)), none⟩, ⟨(some 21), (.faddr 2 (.tmp 20)), none⟩, ⟨(some 22), (.load none (.tmp 21)), none⟩, ⟨(some 23), (.mv (.tmp 2)), none⟩, ⟨(some 24), (.iaddrS 4 (.tmp 22) (.tmp
  23)), none⟩, ⟨(some 25), (.load (some 4) (.tmp 24)), none⟩, ⟨(some 7), (.alloc [(.int .i64 0), (.int .i64 0), (.int .i64 0), (.int .i64 0)]), none⟩, ⟨(some 8), (.alloc [(.int
  .i64 0), (.int .i64 0), (.int .i64 0), (.int .i64 0)]), none⟩, ⟨none, (.store 4 (.tmp 7) (.tmp 17)), none⟩, ⟨none, (.store 4 (.tmp 8) (.tmp 25)), none⟩] [(4, 16), (7, 16), (12,
  16), (15, 16), (4, 17), (7, 17), (12, 17), (15, 17), (16, 17), (12, 18), (15, 18)]) (.seq (.region [⟨(some 26), (.faddr 0 (.tmp 7)), none⟩, ⟨(some 27), (.load none (.tmp 26)),
  none⟩, ⟨(some 28), (.faddr 1 (.tmp 7)), none⟩, ⟨(some 29), (.load none (.tmp 28)), none⟩, ⟨(some 30), (.faddr 2 (.tmp 7)), none⟩, ⟨(some 31), (.load none (.tmp 30)), none⟩,
  ⟨(some 32), (.build [(.int .i64 0), (.int .i64 0), (.int .i64 0), (.int .i64 0)] [(0, (1, (.tmp 27))), (1, (1, (.tmp 29))), (2, (1, (.tmp 31)))]), none⟩, ⟨(some 9), (.alloc
  [(.int .i64 0), (.int .i64 0), (.int .i64 0), (.int .i64 0)]), none⟩, ⟨none, (.store 4 (.tmp 9) (.tmp 32)), none⟩]) (.seq (.seq (.draw [⟨(some 33), (.mv (.tmp 1)), none⟩, ⟨(some
  34), (.mv (.tmp 2)), none⟩, ⟨(some 35), (.bin .eql (.tmp 33) (.tmp 34)), none⟩, ⟨(some 36), (.mv (.tmp 35)), none⟩, ⟨(some 37), (.faddr 2 (.tmp 7)), (some (36, false))⟩, ⟨(some
  38), (.load none (.tmp 37)), (some (36, false))⟩, ⟨(some 39), (.bin .eql (.tmp 38) (.const (.int .i64 0))), (some (36, false))⟩, ⟨(some 40), (.pick (.tmp 36) (.const (.bool
  true)) (.tmp 39)), none⟩, ⟨(some 41), (.mv (.tmp 40)), none⟩, ⟨(some 42), (.faddr 2 (.tmp 7)), (some (41, false))⟩, ⟨(some 43), (.load none (.tmp 42)), (some (41, false))⟩,
  ⟨(some 44), (.faddr 2 (.tmp 8)), (some (41, false))⟩, ⟨(some 45), (.load none (.tmp 44)), (some (41, false))⟩, ⟨(some 46), (.bin .neq (.tmp 43) (.tmp 45)), (some (41, false))⟩,
  ⟨(some 47), (.pick (.tmp 41) (.const (.bool true)) (.tmp 46)), none⟩, ⟨(some 48), (.mv (.tmp 47)), none⟩, ⟨(some 49), (.faddr 3 (.tmp 7)), (some (48, false))⟩, ⟨(some 50),
  (.load none (.tmp 49)), (some (48, false))⟩, ⟨(some 51), (.faddr 3 (.tmp 8)), (some (48, false))⟩, ⟨(some 52), (.load none (.tmp 51)), (some (48, false))⟩, ⟨(some 53), (.bin
  .eql (.tmp 50) (.tmp 52)), (some (48, false))⟩, ⟨(some 54), (.pick (.tmp 48) (.const (.bool true)) (.tmp 53)), none⟩, ⟨(some 55), (.mv (.tmp 54)), none⟩, ⟨(some 56), (.load
  (some 4) (.tmp 7)), (some (55, false))⟩, ⟨(some 57), (.load (some 4) (.tmp 9)), (some (55, false))⟩, ⟨(some 58), (.eqf false true [.int, .int, .int, .int] (.tmp 56) (.tmp 57)),
  (some (55, false))⟩, ⟨(some 59), (.pick (.tmp 55) (.const (.bool true)) (.tmp 58)), none⟩, ⟨(some 60), (.mv (.tmp 59)), none⟩, ⟨(some 61), (.faddr 3 (.tmp 8)), (some (60,
  false))⟩, ⟨(some 62), (.load none (.tmp 61)), (some (60, false))⟩, ⟨(some 63), (.bin .eql (.tmp 62) (.const (.int .i64 0))), (some (60, false))⟩, ⟨(some 64), (.pick (.tmp 60)
  (.const (.bool true)) (.tmp 63)), none⟩, ⟨(some 65), (.mv (.tmp 64)), none⟩, ⟨(some 66), (.mv (.tmp 0)), (some (65, false))⟩, ⟨(some 67), (.mv (.tmp 1)), (some (65, false))⟩,
  ⟨(some 68), (.nilchk (.tmp 66)), (some (65, false))⟩, ⟨(some 69), (.faddr 4 (.tmp 68)), (some (65, false))⟩, ⟨(some 70), (.iaddrA 12 1 (.tmp 69) (.tmp 67)), (some (65, false))⟩,
  ⟨(some 71), (.load none (.tmp 70)), (some (65, false))⟩, ⟨(some 72), (.mv (.tmp 2)), (some (65, false))⟩, ⟨(some 73), (.bslice [(.int .i64 0)] 1 1 [(0, (1, (.tmp 72)))]), (some
  (65, false))⟩, ⟨(some 74), (.call (.func 63) [(.tmp 73)]), (some (65, false))⟩, ⟨(some 75), (.bin .and (.tmp 71) (.tmp 74)), (some (65, false))⟩, ⟨(some 76), (.bin .neq (.tmp
  75) (.const (.int .i64 0))), (some (65, false))⟩, ⟨(some 77), (.pick (.tmp 65) (.const (.bool true)) (.tmp 76)), none⟩] [(38, 40), (38, 41)]) (.cond (.tmp 77) (.seq (.region
  [⟨(some 6), (.mv (.const (.bool false))), none⟩]) .ret) .skip)) (.seq (.region [⟨(some 78), (.mv (.tmp 0)), none⟩, ⟨(some 79), (.mv (.tmp 1)), none⟩, ⟨(some 80), (.mv (.tmp 2)),
  none⟩, ⟨(some 81), (.call (.func 104) [(.tmp 78), (.tmp 79), (.tmp 80)]), none⟩, ⟨(some 82), (.un .not (.tmp 81)), none⟩, ⟨(some 6), (.mv (.tmp 82)), none⟩]) .ret)))))⟩
def af86 : AFn := ⟨61, [(.tmp 4), (.tmp 5)], (.seq (.region [⟨(some 2), (.box (.tmp 0)), none⟩, ⟨(some 4), (.mv (.const (.ptr none))), none⟩, ⟨(some 5), (.mv (.const (.int .i64 0))), none⟩]) (.seq
  (.region [⟨(some 12), (.load (some 4) (.tmp 2)), none⟩, ⟨(some 13), (.call (.func 60) [(.tmp 12)]), none⟩, ⟨(some 11), (.mv (.tmp 13)), none⟩, ⟨(some 14), (.ext (.tmp 11) 0),
  none⟩, ⟨(some 15), (.ext (.tmp 11) 1), none⟩, ⟨(some 6), (.mv (.tmp 14)), none⟩, ⟨(some 7), (.mv (.tmp 15)), none⟩]) (.seq (.block 0 (.seq (.region [⟨(some 17), (.mv (.tmp 7)),
  none⟩, ⟨(some 18), (.bin .neq (.tmp 17) (.const (.int .i64 0))), none⟩, ⟨(some 16), (.mv (.tmp 18)), none⟩]) (.cond (.tmp 16) (.seq (.region [⟨(some 19), (.mv (.tmp 7)), none⟩,
  ⟨(some 4), (.mv (.const (.ptr none))), none⟩, ⟨(some 5), (.mv (.tmp 19)), none⟩]) .ret) (.seq (.region [⟨(some 21), (.mv (.tmp 1)), none⟩, ⟨(some 22), (.len (.tmp 21)), none⟩,
  ⟨(some 23), (.faddr 2 (.tmp 2)), none⟩, ⟨(some 24), (.load none (.tmp 23)), none⟩, ⟨(some 25), (.len (.tmp 24)), none⟩, ⟨(some 26), (.bin .neq (.tmp 22) (.tmp 25)), none⟩,
  ⟨(some 20), (.mv (.tmp 26)), none⟩]) (.cond (.tmp 20) (.seq (.region [⟨(some 4), (.mv (.const (.ptr none))), none⟩, ⟨(some 5), (.mv (.const (.int .i64 15))), none⟩]) .ret) (.seq
  (.region [⟨(some 28), (.mv (.tmp 6)), none⟩, ⟨(some 29), (.mv (.tmp 1)), none⟩, ⟨(some 30), (.call (.func 80) [(.tmp 28), (.tmp 29)]), none⟩, ⟨(some 31), (.un .not (.tmp 30)),
  none⟩, ⟨(some 32), (.mv (.tmp 31)), none⟩, ⟨(some 33), (.mv (.tmp 1)), (some (32, false))⟩, ⟨(some 34), (.call (.func 63) [(.tmp 33)]), (some (32, false))⟩, ⟨(some 35), (.mv
  (.tmp 6)), (some (32, false))⟩, ⟨(some 36), (.call (.func 61) [(.tmp 35)]), (some (32, false))⟩, ⟨(some 37), (.bin .neq (.tmp 34) (.tmp 36)), (some (32, false))⟩, ⟨(some 38),
  (.pick (.tmp 32) (.const (.bool true)) (.tmp 37)), none⟩, ⟨(some 27), (.mv (.tmp 38)), none⟩]) (.cond (.tmp 27) (.seq (.region [⟨(some 4), (.mv (.const (.ptr none))), none⟩,
  ⟨(some 5), (.mv (.const (.int .i64 3))), none⟩]) .ret) .skip))))))) (.seq (.region [⟨(some 8), (.mv (.const (.int .i64 0))), none⟩]) (.seq (.seq (.region [⟨(some 39), (.mv (.tmp
  1)), none⟩, ⟨(some 40), (.len (.tmp 39)), none⟩, ⟨(some 41), (.mv (.const (.int .i64 0))), none⟩]) (.block 1 (.loop (.seq (.region [⟨(some 42), (.bin .lss (.tmp 41) (.tmp 40)),
  none⟩]) (.seq (.cond (.tmp 42) .skip (.exit 1)) (.seq (.block 2 (.seq (.region [⟨(some 43), (.iaddrS 1 (.tmp 39) (.tmp 41)), none⟩, ⟨(some 44), (.load none (.tmp 43)), none⟩,
  ⟨(some 10), (.mv (.tmp 44)), none⟩]) (.seq (.seq (.region [⟨(some 45), (.mv (.tmp 6)), none⟩, ⟨(some 46), (.mv (.tmp 10)), none⟩, ⟨(some 47), (.nilchk (.tmp 45)), none⟩, ⟨(some
  48), (.faddr 4 (.tmp 47)), none⟩, ⟨(some 49), (.iaddrA 12 1 (.tmp 48) (.tmp 46)), none⟩, ⟨(some 50), (.load none (.tmp 49)), none⟩, ⟨(some 51), (.mv (.tmp 8)), none⟩, ⟨(some 52),
   (.bin .andNot (.tmp 50) (.tmp 51)), none⟩, ⟨(some 53), (.bin .neq (.tmp 52) (.const (.int .i64 0))), none⟩]) (.cond (.tmp 53) (.seq (.region [⟨(some 4), (.mv (.const (.ptr
  none))), none⟩, ⟨(some 5), (.mv (.const (.int .i64 16))), none⟩]) .ret) .skip)) (.region [⟨(some 54), (.mv (.tmp 8)), none⟩, ⟨(some 55), (.mv (.tmp 10)), none⟩, ⟨(some 56),
  (.bslice [(.int .i64 0)] 1 1 [(0, (1, (.tmp 55)))]), none⟩, ⟨(some 57), (.call (.func 63) [(.tmp 56)]), none⟩, ⟨(some 58), (.bin .or (.tmp 54) (.tmp 57)), none⟩, ⟨(some 8), (.mv
  (.tmp 58)), none⟩])))) (.region [⟨(some 59), (.bin .add (.tmp 41) (.const (.int .i64 1))), none⟩, ⟨(some 41), (.mv (.tmp 59)), none⟩]))))))) (.seq (.region [⟨(some 60), (.mv
  (.tmp 6)), none⟩, ⟨(some 4), (.mv (.tmp 60)), none⟩, ⟨(some 5), (.mv (.const (.int .i64 0))), none⟩]) .ret))))))⟩
def af87 : AFn := ⟨8, [(.tmp 2)], (.seq (.region [⟨(some 2), (.mv (.const (.slc none 0 0 true 0))), none⟩]) (.seq (.seq (.region [⟨(some 3), (.mv (.tmp 0)), none⟩, ⟨(some 4), (.eqn false 0 (.tmp 3)
  (.const (.slc none 0 0 true 0))), none⟩]) (.cond (.tmp 4) (.seq (.region [⟨(some 2), (.mv (.const (.slc none 0 0 true 0))), none⟩]) .ret) .skip)) (.seq (.region [⟨(some 5),
  (.bslice [] 0 1 []), none⟩, ⟨(some 6), (.mv (.tmp 0)), none⟩, ⟨(some 7), (.app 1 8 (.tmp 5) (.tmp 6)), none⟩, ⟨(some 2), (.mv (.tmp 7)), none⟩]) .ret)))⟩
def af88 : AFn := ⟨116, [(.tmp 2)], (.seq (.region [⟨(some 1), (.box (.tmp 0)), none⟩, ⟨(some 2), (.mv (.const (.int .i64 0))), none⟩]) (.seq (.region [⟨(some 8), (.mkfn 105 [] [(.tmp 1)]), none⟩,
  ⟨(some 3), (.alloc [.nilfn]), none⟩, ⟨none, (.store 1 (.tmp 3) (.tmp 8)), none⟩]) (.seq (.block 0 (.seq (.region [⟨(some 10), (.faddr 1 (.tmp 1)), none⟩, ⟨(some 11), (.load none
  (.tmp 10)), none⟩, ⟨(some 12), (.len (.tmp 11)), none⟩, ⟨(some 13), (.bin .eql (.tmp 12) (.const (.int .i64 0))), none⟩, ⟨(some 14), (.mv (.tmp 13)), none⟩, ⟨(some 15), (.faddr
  1 (.tmp 1)), (some (14, false))⟩, ⟨(some 16), (.load none (.tmp 15)), (some (14, false))⟩, ⟨(some 17), (.len (.tmp 16)), (some (14, false))⟩, ⟨(some 18), (.bin .gtr (.tmp 17)
  (.const (.int .i64 4))), (some (14, false))⟩, ⟨(some 19), (.pick (.tmp 14) (.const (.bool true)) (.tmp 18)), none⟩, ⟨(some 20), (.mv (.tmp 19)), none⟩, ⟨(some 21), (.faddr 2
  (.tmp 1)), (some (20, false))⟩, ⟨(some 22), (.load none (.tmp 21)), (some (20, false))⟩, ⟨(some 23), (.len (.tmp 22)), (some (20, false))⟩, ⟨(some 24), (.bin .gtr (.tmp 23)
  (.const (.int .i64 12))), (some (20, false))⟩, ⟨(some 25), (.pick (.tmp 20) (.const (.bool true)) (.tmp 24)), none⟩, ⟨(some 26), (.mv (.tmp 25)), none⟩, ⟨(some 27), (.faddr 3
  (.tmp 1)), (some (26, false))⟩, ⟨(some 28), (.load none (.tmp 27)), (some (26, false))⟩, ⟨(some 29), (.len (.tmp 28)), (some (26, false))⟩, ⟨(some 30), (.bin .gtr (.tmp 29)
  (.const (.int .i64 60))), (some (26, false))⟩, ⟨(some 31), (.pick (.tmp 26) (.const (.bool true)) (.tmp 30)), none⟩, ⟨(some 9), (.mv (.tmp 31)), none⟩]) (.cond (.tmp 9) (.seq
  (.region [⟨(some 2), (.mv (.const (.int .i64 6))), none⟩]) .ret) (.seq (.region [⟨(some 33), (.faddr 0 (.tmp 1)), none⟩, ⟨(some 34), (.load none (.tmp 33)), none⟩, ⟨(some 35),
  (.len (.tmp 34)), none⟩, ⟨(some 36), (.faddr 1 (.tmp 1)), none⟩, ⟨(some 37), (.load none (.tmp 36)), none⟩, ⟨(some 38), (.len (.tmp 37)), none⟩, ⟨(some 39), (.bin .neq (.tmp 35)
  (.tmp 38)), none⟩, ⟨(some 32), (.mv (.tmp 39)), none⟩]) (.cond (.tmp 32) (.seq (.region [⟨(some 2), (.mv (.const (.int .i64 15))), none⟩]) .ret) .skip))))) (.seq (.seq (.region
  [⟨(some 40), (.faddr 1 (.tmp 1)), none⟩, ⟨(some 41), (.load none (.tmp 40)), none⟩, ⟨(some 42), (.len (.tmp 41)), none⟩, ⟨(some 43), (.mv (.const (.int .i64 0))), none⟩])
  (.block 1 (.loop (.seq (.region [⟨(some 44), (.bin .lss (.tmp 43) (.tmp 42)), none⟩]) (.seq (.cond (.tmp 44) .skip (.exit 1)) (.seq (.block 2 (.seq (.region [⟨(some 45), (.mv
  (.tmp 43)), none⟩, ⟨(some 46), (.iaddrS 1 (.tmp 41) (.tmp 43)), none⟩, ⟨(some 47), (.load none (.tmp 46)), none⟩, ⟨(some 4), (.mv (.tmp 45)), none⟩, ⟨(some 5), (.mv (.tmp 47)),
  none⟩]) (.seq (.region [⟨(some 48), (.mv (.tmp 5)), none⟩, ⟨(some 49), (.bslice [(.int .i64 0)] 1 1 [(0, (1, (.tmp 48)))]), none⟩, ⟨(some 50), (.call (.func 66) [(.const (.int
  .i64 0)), (.const (.int .i64 100000)), (.tmp 49)]), none⟩, ⟨(some 51), (.un .not (.tmp 50)), none⟩, ⟨(some 52), (.mv (.tmp 51)), none⟩, ⟨(some 53), (.mv (.tmp 5)), (some (52,
  false))⟩, ⟨(some 54), (.faddr 0 (.tmp 1)), (some (52, false))⟩, ⟨(some 55), (.load none (.tmp 54)), (some (52, false))⟩, ⟨(some 56), (.mv (.tmp 4)), (some (52, false))⟩, ⟨(some
  57), (.iaddrS 1 (.tmp 55) (.tmp 56)), (some (52, false))⟩, ⟨(some 58), (.load none (.tmp 57)), (some (52, false))⟩, ⟨(some 59), (.bslice [(.int .i64 0)] 1 1 [(0, (1, (.tmp
  58)))]), (some (52, false))⟩, ⟨(some 60), (.call (.func 66) [(.const (.int .i64 0)), (.tmp 53), (.tmp 59)]), (some (52, false))⟩, ⟨(some 61), (.un .not (.tmp 60)), (some (52,
  false))⟩, ⟨(some 62), (.pick (.tmp 52) (.const (.bool true)) (.tmp 61)), none⟩]) (.cond (.tmp 62) (.seq (.region [⟨(some 2), (.mv (.const (.int .i64 2))), none⟩]) .ret)
  .skip)))) (.region [⟨(some 63), (.bin .add (.tmp 43) (.const (.int .i64 1))), none⟩, ⟨(some 43), (.mv (.tmp 63)), none⟩]))))))) (.seq (.seq (.region [⟨(some 64), (.faddr 2 (.tmp
  1)), none⟩, ⟨(some 65), (.load none (.tmp 64)), none⟩, ⟨(some 66), (.len (.tmp 65)), none⟩, ⟨(some 67), (.mv (.const (.int .i64 0))), none⟩]) (.block 3 (.loop (.seq (.region
  [⟨(some 68), (.bin .lss (.tmp 67) (.tmp 66)), none⟩]) (.seq (.cond (.tmp 68) .skip (.exit 3)) (.seq (.block 4 (.seq (.region [⟨(some 69), (.iaddrS 4 (.tmp 65) (.tmp 67)), none⟩,
  ⟨(some 70), (.load (some 4) (.tmp 69)), none⟩, ⟨(some 7), (.alloc [(.int .i64 0), (.int .i64 0), (.int .i64 0), (.int .i64 0)]), none⟩, ⟨none, (.store 4 (.tmp 7) (.tmp 70)),
  none⟩]) (.seq (.region [⟨(some 71), (.faddr 1 (.tmp 1)), none⟩, ⟨(some 72), (.load none (.tmp 71)), none⟩, ⟨(some 73), (.len (.tmp 72)), none⟩, ⟨(some 74), (.bin .sub (.tmp 73)
  (.const (.int .i64 1))), none⟩, ⟨(some 75), (.faddr 0 (.tmp 7)), none⟩, ⟨(some 76), (.load none (.tmp 75)), none⟩, ⟨(some 77), (.bslice [(.int .i64 0)] 1 1 [(0, (1, (.tmp
  76)))]), none⟩, ⟨(some 78), (.call (.func 66) [(.const (.int .i64 0)), (.tmp 74), (.tmp 77)]), none⟩, ⟨(some 79), (.un .not (.tmp 78)), none⟩, ⟨(some 80), (.mv (.tmp 79)), none⟩,
   ⟨(some 81), (.faddr 1 (.tmp 7)), (some (80, false))⟩, ⟨(some 82), (.load none (.tmp 81)), (some (80, false))⟩, ⟨(some 83), (.bslice [(.int .i64 0)] 1 1 [(0, (1, (.tmp 82)))]),
  (some (80, false))⟩, ⟨(some 84), (.call (.func 66) [(.const (.int .i64 (-100000))), (.const (.int .i64 100000)), (.tmp 83)]), (some (80, false))⟩, ⟨(some 85), (.un .not (.tmp
  84)), (some (80, false))⟩, ⟨(some 86), (.pick (.tmp 80) (.const (.bool true)) (.tmp 85)), none⟩, ⟨(some 87), (.mv (.tmp 86)), none⟩, ⟨(some 88), (.faddr 2 (.tmp 7)), (some (87,
  false))⟩, ⟨(some 89), (.load none (.tmp 88)), (some (87, false))⟩, ⟨(some 90), (.bslice [(.int .i64 0)] 1 1 [(0, (1, (.tmp 89)))]), (some (87, false))⟩, ⟨(some 91), (.call
  (.func 66) [(.const (.int .i64 0)), (.const (.int .i64 4)), (.tmp 90)]), (some (87, false))⟩, ⟨(some 92), (.un .not (.tmp 91)), (some (87, false))⟩, ⟨(some 93), (.pick (.tmp 87)
  (.const (.bool true)) (.tmp 92)), none⟩, ⟨(some 94), (.mv (.tmp 93)), none⟩, ⟨(some 95), (.faddr 3 (.tmp 7)), (some (94, false))⟩, ⟨(some 96), (.load none (.tmp 95)), (some (94,
  false))⟩, ⟨(some 97), (.bslice [(.int .i64 0)] 1 1 [(0, (1, (.tmp 96)))]), (some (94, false))⟩, ⟨(some 98), (.call (.func 66) [(.const (.int .i64 0)), (.const (.int .i64 5)),
  (.tmp 97)]), (some (94, false))⟩, ⟨(some 99), (.un .not (.tmp 98)), (some (94, false))⟩, ⟨(some 100), (.pick (.tmp 94) (.const (.bool true)) (.tmp 99)), none⟩, ⟨(some 101), (.mv
  (.tmp 100)), none⟩, ⟨(some 102), (.faddr 2 (.tmp 7)), (some (101, false))⟩, ⟨(some 103), (.load none (.tmp 102)), (some (101, false))⟩, ⟨(some 104), (.bin .eql (.tmp 103)
  (.const (.int .i64 0))), (some (101, false))⟩, ⟨(some 105), (.mv (.tmp 104)), (some (101, false))⟩, ⟨(some 106), (.faddr 3 (.tmp 7)), (some (105, true))⟩, ⟨(some 107), (.load
  none (.tmp 106)), (some (105, true))⟩, ⟨(some 108), (.bin .neq (.tmp 107) (.const (.int .i64 0))), (some (105, true))⟩, ⟨(some 109), (.pick (.tmp 105) (.tmp 108) (.const (.bool
  false))), (some (101, false))⟩, ⟨(some 110), (.pick (.tmp 101) (.const (.bool true)) (.tmp 109)), none⟩]) (.cond (.tmp 110) (.seq (.region [⟨(some 2), (.mv (.const (.int .i64
  2))), none⟩]) .ret) .skip)))) (.region [⟨(some 111), (.bin .add (.tmp 67) (.const (.int .i64 1))), none⟩, ⟨(some 67), (.mv (.tmp 111)), none⟩]))))))) (.seq (.seq (.region
  [⟨(some 112), (.faddr 3 (.tmp 1)), none⟩, ⟨(some 113), (.load none (.tmp 112)), none⟩, ⟨(some 114), (.mkfn 107 [] [(.tmp 3)]), none⟩, ⟨(some 115), (.call (.func 106) [(.tmp 113),
   (.tmp 114)]), none⟩]) (.cond (.tmp 115) (.seq (.region [⟨(some 2), (.mv (.const (.int .i64 3))), none⟩]) .ret) .skip)) (.seq (.region [⟨(some 2), (.mv (.const (.int .i64 0))),
  none⟩]) .ret)))))))⟩
def af89 : AFn := ⟨55, [(.tmp 2)], (.seq (.region [⟨(some 1), (.box (.tmp 0)), none⟩, ⟨(some 2), (.mv (.const (.ptr none))), none⟩]) (.seq (.region [⟨(some 7), (.load (some 4) (.tmp 1)), none⟩,
  ⟨(some 8), (.build [(.slc none 0 0 true 0), (.slc none 0 0 true 0), (.slc none 0 0 true 0), (.slc none 0 0 true 0), (.int .i64 0), (.int .i64 0), (.int .i64 0), (.int .i64 0),
  (.int .i64 0), (.int .i64 0), (.int .i64 0), (.int .i64 0), (.int .i64 0), (.int .i64 0), (.int .i64 0), (.int .i64 0)] [(0, (4, (.tmp 7)))]), none⟩, ⟨(some 9), (.box (.tmp 8)),
  none⟩, ⟨(some 3), (.mv (.tmp 9)), none⟩]) (.block 0 (.loop (.block 1 (.seq (.region [⟨(some 10), (.mv (.tmp 3)), none⟩, ⟨(some 11), (.nilchk (.tmp 10)), none⟩, ⟨(some 12),
  (.faddr 4 (.tmp 11)), none⟩, ⟨(some 13), (.load (some 12) (.tmp 12)), none⟩, ⟨(some 4), (.alloc [(.int .i64 0), (.int .i64 0), (.int .i64 0), (.int .i64 0), (.int .i64 0), (.int
  .i64 0), (.int .i64 0), (.int .i64 0), (.int .i64 0), (.int .i64 0), (.int .i64 0), (.int .i64 0)]), none⟩, ⟨none, (.store 12 (.tmp 4) (.tmp 13)), none⟩]) (.seq (.seq (.region
  [⟨(some 14), (.mv (.tmp 3)), none⟩, ⟨(some 15), (.nilchk (.tmp 14)), none⟩, ⟨(some 16), (.faddr 0 (.tmp 15)), none⟩, ⟨(some 17), (.faddr 3 (.tmp 16)), none⟩, ⟨(some 18), (.load
  none (.tmp 17)), none⟩, ⟨(some 19), (.len (.tmp 18)), none⟩, ⟨(some 20), (.mv (.const (.int .i64 0))), none⟩]) (.block 2 (.loop (.seq (.region [⟨(some 21), (.bin .lss (.tmp 20)
  (.tmp 19)), none⟩]) (.seq (.cond (.tmp 21) .skip (.exit 2)) (.seq (.block 3 (.seq (.region [⟨(some 22), (.iaddrS 2 (.tmp 18) (.tmp 20)), none⟩, ⟨(some 23), (.load (some 2) (.tmp
  22)), none⟩, ⟨(some 6), (.alloc [(.int .i64 0), (.int .i64 0)]), none⟩, ⟨none, (.store 2 (.tmp 6) (.tmp 23)), none⟩]) (.draw [⟨(some 24), (.mv (.tmp 3)), none⟩, ⟨(some 25),
  (.iaddrA 2 1 (.tmp 6) (.const (.int .i64 1))), none⟩, ⟨(some 26), (.load none (.tmp 25)), none⟩, ⟨(some 27), (.nilchk (.tmp 24)), none⟩, ⟨(some 28), (.faddr 4 (.tmp 27)), none⟩,
  ⟨(some 29), (.iaddrA 12 1 (.tmp 28) (.tmp 26)), none⟩, ⟨(some 30), (.load none (.tmp 29)), none⟩, ⟨(some 31), (.mv (.tmp 3)), none⟩, ⟨(some 32), (.iaddrA 2 1 (.tmp 6) (.const
  (.int .i64 0))), none⟩, ⟨(some 33), (.load none (.tmp 32)), none⟩, ⟨(some 34), (.nilchk (.tmp 31)), none⟩, ⟨(some 35), (.faddr 4 (.tmp 34)), none⟩, ⟨(some 36), (.iaddrA 12 1
  (.tmp 35) (.tmp 33)), none⟩, ⟨(some 37), (.load none (.tmp 36)), none⟩, ⟨(some 38), (.iaddrA 2 1 (.tmp 6) (.const (.int .i64 0))), none⟩, ⟨(some 39), (.load none (.tmp 38)),
  none⟩, ⟨(some 40), (.bslice [(.int .i64 0)] 1 1 [(0, (1, (.tmp 39)))]), none⟩, ⟨(some 41), (.call (.func 63) [(.tmp 40)]), none⟩, ⟨(some 42), (.bin .or (.tmp 37) (.tmp 41)),
  none⟩, ⟨(some 43), (.bin .or (.tmp 30) (.tmp 42)), none⟩, ⟨(some 44), (.nilchk (.tmp 24)), none⟩, ⟨(some 45), (.faddr 4 (.tmp 44)), none⟩, ⟨(some 46), (.iaddrA 12 1 (.tmp 45)
  (.tmp 26)), none⟩, ⟨none, (.store 1 (.tmp 46) (.tmp 43)), none⟩] [(2, 16), (6, 16), (9, 16), (13, 16), (2, 17), (6, 17), (9, 17), (13, 17)]))) (.region [⟨(some 47), (.bin .add
  (.tmp 20) (.const (.int .i64 1))), none⟩, ⟨(some 20), (.mv (.tmp 47)), none⟩]))))))) (.seq (.draw [⟨(some 48), (.mv (.tmp 3)), none⟩, ⟨(some 49), (.nilchk (.tmp 48)), none⟩,
  ⟨(some 50), (.faddr 4 (.tmp 49)), none⟩, ⟨(some 51), (.load (some 12) (.tmp 50)), none⟩, ⟨(some 52), (.load (some 12) (.tmp 4)), none⟩, ⟨(some 53), (.eqf false true [.int, .int,
  .int, .int, .int, .int, .int, .int, .int, .int, .int, .int] (.tmp 51) (.tmp 52)), none⟩] []) (.cond (.tmp 53) (.seq (.region [⟨(some 54), (.mv (.tmp 3)), none⟩, ⟨(some 2), (.mv
  (.tmp 54)), none⟩]) .ret) .skip)))))))))⟩
def af90 : AFn := ⟨26, [(.tmp 2)], (.seq (.region [⟨(some 2), (.mv (.const (.int .i64 0))), none⟩]) (.seq (.seq (.region [⟨(some 4), (.mv (.tmp 0)), none⟩, ⟨(some 5), (.nilchk (.tmp 4)), none⟩,
  ⟨(some 6), (.faddr 0 (.tmp 5)), none⟩, ⟨(some 7), (.faddr 2 (.tmp 6)), none⟩, ⟨(some 8), (.load none (.tmp 7)), none⟩, ⟨(some 9), (.len (.tmp 8)), none⟩, ⟨(some 10), (.mv
  (.const (.int .i64 0))), none⟩]) (.block 0 (.loop (.seq (.region [⟨(some 11), (.bin .lss (.tmp 10) (.tmp 9)), none⟩]) (.seq (.cond (.tmp 11) .skip (.exit 0)) (.seq (.block 1
  (.seq (.region [⟨(some 12), (.mv (.tmp 10)), none⟩, ⟨(some 3), (.mv (.tmp 12)), none⟩]) (.seq (.draw [⟨(some 13), (.mv (.tmp 0)), none⟩, ⟨(some 14), (.mv (.tmp 3)), none⟩,
  ⟨(some 15), (.nilchk (.tmp 13)), none⟩, ⟨(some 16), (.faddr 4 (.tmp 15)), none⟩, ⟨(some 17), (.iaddrA 12 1 (.tmp 16) (.tmp 14)), none⟩, ⟨(some 18), (.load none (.tmp 17)), none⟩,
   ⟨(some 19), (.mv (.tmp 3)), none⟩, ⟨(some 20), (.bslice [(.int .i64 0)] 1 1 [(0, (1, (.tmp 19)))]), none⟩, ⟨(some 21), (.call (.func 63) [(.tmp 20)]), none⟩, ⟨(some 22), (.bin
  .and (.tmp 18) (.tmp 21)), none⟩, ⟨(some 23), (.bin .neq (.tmp 22) (.const (.int .i64 0))), none⟩] [(5, 7), (5, 8)]) (.cond (.tmp 23) (.seq (.region [⟨(some 24), (.mv (.tmp 3)),
  none⟩, ⟨(some 2), (.mv (.tmp 24)), none⟩]) .ret) .skip)))) (.region [⟨(some 25), (.bin .add (.tmp 10) (.const (.int .i64 1))), none⟩, ⟨(some 10), (.mv (.tmp 25)), none⟩])))))))
  (.seq (.region [⟨(some 2), (.mv (.const (.int .i64 (-1)))), none⟩]) .ret)))⟩
def af91 : AFn := ⟨28, [], (.seq (.region [⟨(some 4), (.mv (.tmp 0)), none⟩, ⟨(some 5), (.len (.tmp 4)), none⟩, ⟨(some 6), (.bin .sub (.tmp 5) (.const (.int .i64 1))), none⟩, ⟨(some 2), (.mv
  (.const (.int .i64 0))), none⟩, ⟨(some 3), (.mv (.tmp 6)), none⟩]) (.block 0 (.loop (.seq (.seq (.region [⟨(some 7), (.mv (.tmp 2)), none⟩, ⟨(some 8), (.mv (.tmp 3)), none⟩,
  ⟨(some 9), (.bin .lss (.tmp 7) (.tmp 8)), none⟩]) (.cond (.tmp 9) .skip (.exit 0))) (.seq (.block 1 (.draw [⟨(some 14), (.mv (.tmp 0)), none⟩, ⟨(some 15), (.mv (.tmp 2)), none⟩,
  ⟨(some 16), (.mv (.tmp 0)), none⟩, ⟨(some 17), (.mv (.tmp 3)), none⟩, ⟨(some 18), (.mv (.tmp 0)), none⟩, ⟨(some 19), (.mv (.tmp 3)), none⟩, ⟨(some 20), (.iaddrS 1 (.tmp 18)
  (.tmp 19)), none⟩, ⟨(some 21), (.load none (.tmp 20)), none⟩, ⟨(some 22), (.mv (.tmp 0)), none⟩, ⟨(some 23), (.mv (.tmp 2)), none⟩, ⟨(some 24), (.iaddrS 1 (.tmp 22) (.tmp 23)),
  none⟩, ⟨(some 25), (.load none (.tmp 24)), none⟩, ⟨(some 26), (.iaddrS 1 (.tmp 14) (.tmp 15)), none⟩, ⟨none, (.store 1 (.tmp 26) (.tmp 21)), none⟩, ⟨(some 27), (.iaddrS 1 (.tmp
  16) (.tmp 17)), none⟩, ⟨none, (.store 1 (.tmp 27) (.tmp 25)), none⟩] [])) (.region [⟨(some 10), (.mv (.tmp 2)), none⟩, ⟨(some 11), (.bin .add (.tmp 10) (.const (.int .i64 1))),
  none⟩, ⟨(some 12), (.mv (.tmp 3)), none⟩, ⟨(some 13), (.bin .sub (.tmp 12) (.const (.int .i64 1))), none⟩, ⟨(some 2), (.mv (.tmp 11)), none⟩, ⟨(some 3), (.mv (.tmp 13)),
  none⟩]))))))⟩
def af92 : AFn := ⟨11, [(.cell 6 (some 4))], (.seq (.region [⟨(some 6), (.alloc [(.int .i64 0), (.int .i64 0), (.int .i64 0), (.int .i64 0)]), none⟩]) (.seq (.region [⟨(some 7), (.mv (.tmp 0)),
  none⟩, ⟨(some 8), (.mv (.tmp 1)), none⟩, ⟨(some 9), (.mv (.tmp 2)), none⟩, ⟨(some 10), (.build [(.int .i64 0), (.int .i64 0), (.int .i64 0), (.int .i64 0)] [(1, (1, (.tmp 7))),
  (2, (1, (.tmp 8))), (3, (1, (.tmp 9)))]), none⟩, ⟨none, (.store 4 (.tmp 6) (.tmp 10)), none⟩]) .ret))⟩
def af93 : AFn := ⟨66, [], (.seq (.seq (.region [⟨(some 6), (.load none (.tmp 1)), none⟩, ⟨(some 7), (.nilchk (.tmp 6)), none⟩, ⟨(some 8), (.faddr 0 (.tmp 7)), none⟩, ⟨(some 9), (.faddr 2 (.tmp 8)),
   none⟩, ⟨(some 10), (.load none (.tmp 9)), none⟩, ⟨(some 11), (.len (.tmp 10)), none⟩, ⟨(some 12), (.mv (.const (.int .i64 0))), none⟩]) (.block 0 (.loop (.seq (.region [⟨(some
  13), (.bin .lss (.tmp 12) (.tmp 11)), none⟩]) (.seq (.cond (.tmp 13) .skip (.exit 0)) (.seq (.block 1 (.seq (.region [⟨(some 14), (.mv (.tmp 12)), none⟩, ⟨(some 4), (.mv (.tmp
  14)), none⟩]) (.seq (.draw [⟨(some 15), (.load none (.tmp 2)), none⟩, ⟨(some 16), (.mv (.tmp 4)), none⟩, ⟨(some 17), (.bslice [(.int .i64 0)] 1 1 [(0, (1, (.tmp 16)))]), none⟩,
  ⟨(some 18), (.call (.func 63) [(.tmp 17)]), none⟩, ⟨(some 19), (.bin .and (.tmp 15) (.tmp 18)), none⟩, ⟨(some 20), (.bin .neq (.tmp 19) (.const (.int .i64 0))), none⟩, ⟨(some
  21), (.mv (.tmp 20)), none⟩, ⟨(some 22), (.load none (.tmp 1)), (some (21, true))⟩, ⟨(some 23), (.mv (.tmp 4)), (some (21, true))⟩, ⟨(some 24), (.nilchk (.tmp 22)), (some (21,
  true))⟩, ⟨(some 25), (.faddr 4 (.tmp 24)), (some (21, true))⟩, ⟨(some 26), (.iaddrA 12 1 (.tmp 25) (.tmp 23)), (some (21, true))⟩, ⟨(some 27), (.load none (.tmp 26)), (some (21,
  true))⟩, ⟨(some 28), (.load none (.tmp 2)), (some (21, true))⟩, ⟨(some 29), (.bin .andNot (.tmp 27) (.tmp 28)), (some (21, true))⟩, ⟨(some 30), (.bin .neq (.tmp 29) (.const
  (.int .i64 0))), (some (21, true))⟩, ⟨(some 31), (.pick (.tmp 21) (.tmp 30) (.const (.bool false))), none⟩] [(0, 2), (0, 3)]) (.cond (.tmp 31) .ret .skip)))) (.region [⟨(some
  32), (.bin .add (.tmp 12) (.const (.int .i64 1))), none⟩, ⟨(some 12), (.mv (.tmp 32)), none⟩]))))))) (.seq (.region [⟨(some 33), (.load none (.tmp 1)), none⟩, ⟨(some 34),
  (.nilchk (.tmp 33)), none⟩, ⟨(some 35), (.faddr 0 (.tmp 34)), none⟩, ⟨(some 36), (.faddr 2 (.tmp 35)), none⟩, ⟨(some 37), (.load none (.tmp 36)), none⟩, ⟨(some 38), (.len (.tmp
  37)), none⟩, ⟨(some 39), (.mv (.const (.int .i64 0))), none⟩]) (.block 2 (.loop (.seq (.region [⟨(some 40), (.bin .lss (.tmp 39) (.tmp 38)), none⟩]) (.seq (.cond (.tmp 40) .skip
  (.exit 2)) (.seq (.block 3 (.seq (.region [⟨(some 41), (.mv (.tmp 39)), none⟩, ⟨(some 5), (.mv (.tmp 41)), none⟩]) (.seq (.draw [⟨(some 42), (.load none (.tmp 2)), none⟩, ⟨(some
  43), (.mv (.tmp 5)), none⟩, ⟨(some 44), (.bslice [(.int .i64 0)] 1 1 [(0, (1, (.tmp 43)))]), none⟩, ⟨(some 45), (.call (.func 63) [(.tmp 44)]), none⟩, ⟨(some 46), (.bin .and
  (.tmp 42) (.tmp 45)), none⟩, ⟨(some 47), (.bin .eql (.tmp 46) (.const (.int .i64 0))), none⟩, ⟨(some 48), (.mv (.tmp 47)), none⟩, ⟨(some 49), (.load none (.tmp 1)), (some (48,
  true))⟩, ⟨(some 50), (.mv (.tmp 5)), (some (48, true))⟩, ⟨(some 51), (.nilchk (.tmp 49)), (some (48, true))⟩, ⟨(some 52), (.faddr 4 (.tmp 51)), (some (48, true))⟩, ⟨(some 53),
  (.iaddrA 12 1 (.tmp 52) (.tmp 50)), (some (48, true))⟩, ⟨(some 54), (.load none (.tmp 53)), (some (48, true))⟩, ⟨(some 55), (.load none (.tmp 2)), (some (48, true))⟩, ⟨(some 56),
   (.bin .andNot (.tmp 54) (.tmp 55)), (some (48, true))⟩, ⟨(some 57), (.bin .eql (.tmp 56) (.const (.int .i64 0))), (some (48, true))⟩, ⟨(some 58), (.pick (.tmp 48) (.tmp 57)
  (.const (.bool false))), none⟩, ⟨(some 59), (.mv (.tmp 58)), none⟩, ⟨(some 60), (.mv (.tmp 0)), (some (59, true))⟩, ⟨(some 61), (.mv (.tmp 5)), (some (59, true))⟩, ⟨(some 62),
  (.call (.tmp 60) [(.tmp 61)]), (some (59, true))⟩, ⟨(some 63), (.un .not (.tmp 62)), (some (59, true))⟩, ⟨(some 64), (.pick (.tmp 59) (.tmp 63) (.const (.bool false))), none⟩]
  [(0, 2), (0, 3)]) (.cond (.tmp 64) .ret .skip)))) (.region [⟨(some 65), (.bin .add (.tmp 39) (.const (.int .i64 1))), none⟩, ⟨(some 39), (.mv (.tmp 65)), none⟩]))))))))⟩
def af94 : AFn := ⟨9, [(.tmp 4)], (.seq (.region [⟨(some 4), (.mv (.const (.bool false))), none⟩]) (.seq (.region [⟨(some 5), (.mv (.tmp 0)), none⟩, ⟨(some 6), (.mv (.tmp 1)), none⟩, ⟨(some 7),
  (.call (.func 108) [(.tmp 5), (.tmp 6)]), none⟩, ⟨(some 8), (.bin .geq (.tmp 7) (.const (.int .i64 0))), none⟩, ⟨(some 4), (.mv (.tmp 8)), none⟩]) .ret))⟩
def af95 : AFn := ⟨13, [(.tmp 4)], (.seq (.region [⟨(some 4), (.mv (.const (.bool false))), none⟩]) (.seq (.region [⟨(some 5), (.mv (.tmp 0)), none⟩, ⟨(some 6), (.load none (.tmp 1)), none⟩, ⟨(some
  7), (.bin .lss (.tmp 5) (.tmp 6)), none⟩, ⟨(some 8), (.mv (.tmp 7)), none⟩, ⟨(some 9), (.mv (.tmp 0)), (some (8, false))⟩, ⟨(some 10), (.load none (.tmp 2)), (some (8, false))⟩,
  ⟨(some 11), (.bin .gtr (.tmp 9) (.tmp 10)), (some (8, false))⟩, ⟨(some 12), (.pick (.tmp 8) (.const (.bool true)) (.tmp 11)), none⟩, ⟨(some 4), (.mv (.tmp 12)), none⟩]) .ret))⟩
def af96 : AFn := ⟨79, [(.cell 6 (some 2))], (.seq (.region [⟨(some 6), (.alloc [(.slc none 0 0 true 0), (.map none)]), none⟩]) (.scope (.seq (.region [⟨(some 12), (.mv (.tmp 0)), none⟩, ⟨(some 13),
   (.nilchk (.tmp 12)), none⟩, ⟨(some 14), (.faddr 0 (.tmp 13)), none⟩, ⟨(some 15), (.faddr 2 (.tmp 14)), none⟩, ⟨(some 16), (.load none (.tmp 15)), none⟩, ⟨(some 17), (.len (.tmp
  16)), none⟩, ⟨(some 18), (.mkslc [(.int .i64 0)] 8 (.tmp 17) (.tmp 17)), none⟩, ⟨(some 19), .mkmap, none⟩, ⟨(some 20), (.build [(.slc none 0 0 true 0), (.map none)] [(0, (1,
  (.tmp 18))), (1, (1, (.tmp 19)))]), none⟩, ⟨(some 7), (.alloc [(.slc none 0 0 true 0), (.map none)]), none⟩, ⟨none, (.store 2 (.tmp 7) (.tmp 20)), none⟩]) (.seq (.seq (.region
  [⟨(some 21), (.mv (.tmp 0)), none⟩, ⟨(some 22), (.nilchk (.tmp 21)), none⟩, ⟨(some 23), (.faddr 0 (.tmp 22)), none⟩, ⟨(some 24), (.faddr 2 (.tmp 23)), none⟩, ⟨(some 25), (.load
  none (.tmp 24)), none⟩, ⟨(some 26), (.len (.tmp 25)), none⟩, ⟨(some 27), (.mv (.const (.int .i64 0))), none⟩]) (.block 0 (.loop (.seq (.region [⟨(some 28), (.bin .lss (.tmp 27)
  (.tmp 26)), none⟩]) (.seq (.cond (.tmp 28) .skip (.exit 0)) (.seq (.block 1 (.seq (.region [⟨(some 29), (.mv (.tmp 27)), none⟩, ⟨(some 30), (.iaddrS 4 (.tmp 25) (.tmp 27)),
  none⟩, ⟨(some 31), (.load (some 4) (.tmp 30)), none⟩, ⟨(some 9), (.alloc [(.int .i64 0), (.int .i64 0), (.int .i64 0), (.int .i64 0)]), none⟩, ⟨(some 8), (.mv (.tmp 29)), none⟩,
  ⟨none, (.store 4 (.tmp 9) (.tmp 31)), none⟩]) (.seq (.region [⟨(some 32), (.faddr 0 (.tmp 9)), none⟩, ⟨(some 33), (.load none (.tmp 32)), none⟩, ⟨(some 34), (.mv (.tmp 1)),
  none⟩, ⟨(some 35), (.bin .eql (.tmp 33) (.tmp 34)), none⟩]) (.cond (.tmp 35) (.draw [⟨(some 36), (.faddr 0 (.tmp 7)), none⟩, ⟨(some 37), (.load none (.tmp 36)), none⟩, ⟨(some
  38), (.mv (.tmp 8)), none⟩, ⟨(some 39), (.mv (.tmp 2)), none⟩, ⟨(some 40), (.mv (.tmp 8)), none⟩, ⟨(some 41), (.call (.tmp 39) [(.tmp 40)]), none⟩, ⟨(some 42), (.iaddrS 1 (.tmp
  37) (.tmp 38)), none⟩, ⟨none, (.store 1 (.tmp 42) (.tmp 41)), none⟩] [(1, 5)]) .skip)))) (.region [⟨(some 43), (.bin .add (.tmp 27) (.const (.int .i64 1))), none⟩, ⟨(some 27),
  (.mv (.tmp 43)), none⟩]))))))) (.seq .skip (.block 2 (.loop (.block 3 (.seq (.seq (.region [⟨(some 44), (.mv (.tmp 0)), none⟩, ⟨(some 45), (.nilchk (.tmp 44)), none⟩, ⟨(some 46),
   (.faddr 0 (.tmp 45)), none⟩, ⟨(some 47), (.faddr 2 (.tmp 46)), none⟩, ⟨(some 48), (.load none (.tmp 47)), none⟩, ⟨(some 49), (.len (.tmp 48)), none⟩, ⟨(some 50), (.mv (.const
  (.int .i64 0))), none⟩]) (.block 4 (.loop (.seq (.region [⟨(some 51), (.bin .lss (.tmp 50) (.tmp 49)), none⟩]) (.seq (.cond (.tmp 51) .skip (.exit 4)) (.seq (.block 5 (.seq
  (.region [⟨(some 52), (.mv (.tmp 50)), none⟩, ⟨(some 10), (.mv (.tmp 52)), none⟩]) (.seq (.seq (.region [⟨(some 53), (.faddr 0 (.tmp 7)), none⟩, ⟨(some 54), (.load none (.tmp
  53)), none⟩, ⟨(some 55), (.mv (.tmp 10)), none⟩, ⟨(some 56), (.iaddrS 1 (.tmp 54) (.tmp 55)), none⟩, ⟨(some 57), (.load none (.tmp 56)), none⟩, ⟨(some 58), (.bin .leq (.tmp 57)
  (.const (.int .i64 0))), none⟩, ⟨(some 59), (.mv (.tmp 58)), none⟩, ⟨(some 60), (.mv (.tmp 0)), (some (59, false))⟩, ⟨(some 61), (.mv (.tmp 1)), (some (59, false))⟩, ⟨(some 62),
  (.mv (.tmp 10)), (some (59, false))⟩, ⟨(some 63), (.call (.func 97) [(.tmp 60), (.tmp 61), (.tmp 62)]), (some (59, false))⟩, ⟨(some 64), (.un .not (.tmp 63)), (some (59,
  false))⟩, ⟨(some 65), (.pick (.tmp 59) (.const (.bool true)) (.tmp 64)), none⟩]) (.cond (.tmp 65) (.exit 5) .skip)) (.seq (.region [⟨(some 66), (.mv (.tmp 0)), none⟩, ⟨(some 67),
   (.load (some 2) (.tmp 7)), none⟩, ⟨(some 68), (.mv (.tmp 2)), none⟩, ⟨(some 69), (.mv (.tmp 10)), none⟩, ⟨(some 70), (.call (.func 109) [(.tmp 66), (.tmp 67), (.tmp 68), (.tmp
  69)]), none⟩, ⟨(some 11), (.mv (.tmp 70)), none⟩]) (.seq (.region [⟨(some 71), (.mv (.tmp 11)), none⟩, ⟨(some 72), (.len (.tmp 71)), none⟩, ⟨(some 73), (.bin .gtr (.tmp 72)
  (.const (.int .i64 0))), none⟩]) (.cond (.tmp 73) (.seq (.region [⟨(some 74), (.load (some 2) (.tmp 7)), none⟩, ⟨(some 75), (.mv (.tmp 11)), none⟩, ⟨(some 76), (.call (.func
  110) [(.tmp 74), (.tmp 75)]), none⟩]) (.exit 3)) .skip)))))) (.region [⟨(some 77), (.bin .add (.tmp 50) (.const (.int .i64 1))), none⟩, ⟨(some 50), (.mv (.tmp 77)),
  none⟩]))))))) (.seq (.region [⟨(some 78), (.load (some 2) (.tmp 7)), none⟩, ⟨none, (.store 2 (.tmp 6) (.tmp 78)), none⟩]) .ret))))))))))⟩
def af97 : AFn := ⟨18, [(.tmp 6)], (.seq (.region [⟨(some 6), (.mv (.const (.bool false))), none⟩]) (.seq (.region [⟨(some 7), (.mv (.tmp 0)), none⟩, ⟨(some 8), (.nilchk (.tmp 7)), none⟩, ⟨(some 9),
   (.faddr 0 (.tmp 8)), none⟩, ⟨(some 10), (.faddr 2 (.tmp 9)), none⟩, ⟨(some 11), (.load none (.tmp 10)), none⟩, ⟨(some 12), (.mv (.tmp 2)), none⟩, ⟨(some 13), (.iaddrS 4 (.tmp
  11) (.tmp 12)), none⟩, ⟨(some 14), (.faddr 0 (.tmp 13)), none⟩, ⟨(some 15), (.load none (.tmp 14)), none⟩, ⟨(some 16), (.mv (.tmp 1)), none⟩, ⟨(some 17), (.bin .eql (.tmp 15)
  (.tmp 16)), none⟩, ⟨(some 6), (.mv (.tmp 17)), none⟩]) .ret))⟩
def af98 : AFn := ⟨21, [(.tmp 2)], (.seq (.region [⟨(some 2), (.mv (.const (.bool false))), none⟩]) (.seq (.seq (.region [⟨(some 4), (.mv (.tmp 0)), none⟩, ⟨(some 5), (.len (.tmp 4)), none⟩, ⟨(some
  6), (.bin .sub (.tmp 5) (.const (.int .i64 1))), none⟩, ⟨(some 3), (.mv (.tmp 6)), none⟩]) (.block 0 (.loop (.seq (.seq (.region [⟨(some 7), (.mv (.tmp 3)), none⟩, ⟨(some 8),
  (.bin .gtr (.tmp 7) (.const (.int .i64 0))), none⟩]) (.cond (.tmp 8) .skip (.exit 0))) (.seq (.block 1 (.seq (.draw [⟨(some 11), (.mv (.tmp 0)), none⟩, ⟨(some 12), (.mv (.tmp
  3)), none⟩, ⟨(some 13), (.iaddrS 1 (.tmp 11) (.tmp 12)), none⟩, ⟨(some 14), (.load none (.tmp 13)), none⟩, ⟨(some 15), (.mv (.tmp 0)), none⟩, ⟨(some 16), (.mv (.tmp 3)), none⟩,
  ⟨(some 17), (.bin .sub (.tmp 16) (.const (.int .i64 1))), none⟩, ⟨(some 18), (.iaddrS 1 (.tmp 15) (.tmp 17)), none⟩, ⟨(some 19), (.load none (.tmp 18)), none⟩, ⟨(some 20),
  (.call (.func 111) [(.tmp 14), (.tmp 19)]), none⟩] []) (.cond (.tmp 20) (.seq (.region [⟨(some 2), (.mv (.const (.bool false))), none⟩]) .ret) .skip))) (.region [⟨(some 9), (.mv
  (.tmp 3)), none⟩, ⟨(some 10), (.bin .sub (.tmp 9) (.const (.int .i64 1))), none⟩, ⟨(some 3), (.mv (.tmp 10)), none⟩])))))) (.seq (.region [⟨(some 2), (.mv (.const (.bool true))),
   none⟩]) .ret)))⟩
def af99 : AFn := ⟨61, [(.tmp 2)], (.seq (.region [⟨(some 2), (.mv (.const (.slc none 0 0 true 0))), none⟩]) (.seq (.seq (.region [⟨(some 6), (.mv (.tmp 0)), none⟩, ⟨(some 7), (.len (.tmp 6)),
  none⟩, ⟨(some 8), (.bin .lss (.tmp 7) (.const (.int .i64 2))), none⟩]) (.cond (.tmp 8) (.seq (.region [⟨(some 9), (.mv (.tmp 0)), none⟩, ⟨(some 2), (.mv (.tmp 9)), none⟩]) .ret)
  .skip)) (.seq (.seq (.region [⟨(some 3), (.mv (.const (.int .i64 1))), none⟩]) (.block 0 (.loop (.seq (.seq (.region [⟨(some 10), (.mv (.tmp 3)), none⟩, ⟨(some 11), (.mv (.tmp
  0)), none⟩, ⟨(some 12), (.len (.tmp 11)), none⟩, ⟨(some 13), (.bin .lss (.tmp 10) (.tmp 12)), none⟩]) (.cond (.tmp 13) .skip (.exit 0))) (.seq (.block 1 (.seq (.draw [⟨(some 16),
   (.mv (.tmp 0)), none⟩, ⟨(some 17), (.mv (.tmp 3)), none⟩, ⟨(some 18), (.iaddrS 1 (.tmp 16) (.tmp 17)), none⟩, ⟨(some 19), (.load none (.tmp 18)), none⟩, ⟨(some 20), (.mv (.tmp
  0)), none⟩, ⟨(some 21), (.mv (.tmp 3)), none⟩, ⟨(some 22), (.bin .sub (.tmp 21) (.const (.int .i64 1))), none⟩, ⟨(some 23), (.iaddrS 1 (.tmp 20) (.tmp 22)), none⟩, ⟨(some 24),
  (.load none (.tmp 23)), none⟩, ⟨(some 25), (.bin .eql (.tmp 19) (.tmp 24)), none⟩] []) (.cond (.tmp 25) (.seq (.region [⟨(some 26), (.mv (.tmp 0)), none⟩, ⟨(some 27), (.mv (.tmp
  3)), none⟩, ⟨(some 28), (.slc 1 (.tmp 26) (some (.tmp 27)) none none), none⟩, ⟨(some 4), (.mv (.tmp 28)), none⟩]) (.seq (.seq (.region [⟨(some 5), (.mv (.const (.int .i64 1))),
  none⟩]) (.block 2 (.loop (.seq (.seq (.region [⟨(some 29), (.mv (.tmp 5)), none⟩, ⟨(some 30), (.mv (.tmp 4)), none⟩, ⟨(some 31), (.len (.tmp 30)), none⟩, ⟨(some 32), (.bin .lss
  (.tmp 29) (.tmp 31)), none⟩]) (.cond (.tmp 32) .skip (.exit 2))) (.seq (.block 3 (.seq (.draw [⟨(some 35), (.mv (.tmp 4)), none⟩, ⟨(some 36), (.mv (.tmp 5)), none⟩, ⟨(some 37),
  (.iaddrS 1 (.tmp 35) (.tmp 36)), none⟩, ⟨(some 38), (.load none (.tmp 37)), none⟩, ⟨(some 39), (.mv (.tmp 4)), none⟩, ⟨(some 40), (.mv (.tmp 5)), none⟩, ⟨(some 41), (.bin .sub
  (.tmp 40) (.const (.int .i64 1))), none⟩, ⟨(some 42), (.iaddrS 1 (.tmp 39) (.tmp 41)), none⟩, ⟨(some 43), (.load none (.tmp 42)), none⟩, ⟨(some 44), (.bin .neq (.tmp 38) (.tmp
  43)), none⟩] []) (.cond (.tmp 44) (.seq (.region [⟨(some 45), (.mv (.tmp 0)), none⟩, ⟨(some 46), (.mv (.tmp 3)), none⟩, ⟨(some 47), (.mv (.tmp 4)), none⟩, ⟨(some 48), (.mv (.tmp
  5)), none⟩, ⟨(some 49), (.iaddrS 1 (.tmp 47) (.tmp 48)), none⟩, ⟨(some 50), (.load none (.tmp 49)), none⟩, ⟨(some 51), (.iaddrS 1 (.tmp 45) (.tmp 46)), none⟩, ⟨none, (.store 1
  (.tmp 51) (.tmp 50)), none⟩]) (.region [⟨(some 52), (.mv (.tmp 3)), none⟩, ⟨(some 53), (.bin .add (.tmp 52) (.const (.int .i64 1))), none⟩, ⟨(some 3), (.mv (.tmp 53)), none⟩]))
  .skip))) (.region [⟨(some 33), (.mv (.tmp 5)), none⟩, ⟨(some 34), (.bin .add (.tmp 33) (.const (.int .i64 1))), none⟩, ⟨(some 5), (.mv (.tmp 34)), none⟩])))))) (.seq (.region
  [⟨(some 54), (.mv (.tmp 0)), none⟩, ⟨(some 55), (.mv (.tmp 3)), none⟩, ⟨(some 56), (.slc 1 (.tmp 54) (some (.tmp 55)) none none), none⟩, ⟨none, (.clrS [(.int .i64 0)] (.tmp 56)),
   none⟩]) (.seq (.region [⟨(some 57), (.mv (.tmp 0)), none⟩, ⟨(some 58), (.mv (.tmp 3)), none⟩, ⟨(some 59), (.slc 1 (.tmp 57) none (some (.tmp 58)) none), none⟩, ⟨(some 2), (.mv
  (.tmp 59)), none⟩]) .ret)))) .skip))) (.region [⟨(some 14), (.mv (.tmp 3)), none⟩, ⟨(some 15), (.bin .add (.tmp 14) (.const (.int .i64 1))), none⟩, ⟨(some 3), (.mv (.tmp 15)),
  none⟩])))))) (.seq (.region [⟨(some 60), (.mv (.tmp 0)), none⟩, ⟨(some 2), (.mv (.tmp 60)), none⟩]) .ret))))⟩
def af100 : AFn := ⟨8, [(.tmp 2)], (.seq (.region [⟨(some 2), (.mv (.const (.slc none 0 0 true 0))), none⟩]) (.seq (.seq (.region [⟨(some 3), (.mv (.tmp 0)), none⟩, ⟨(some 4), (.eqn false 0 (.tmp 3)
  (.const (.slc none 0 0 true 0))), none⟩]) (.cond (.tmp 4) (.seq (.region [⟨(some 2), (.mv (.const (.slc none 0 0 true 0))), none⟩]) .ret) .skip)) (.seq (.region [⟨(some 5),
  (.bslice [] 0 1 []), none⟩, ⟨(some 6), (.mv (.tmp 0)), none⟩, ⟨(some 7), (.app 1 8 (.tmp 5) (.tmp 6)), none⟩, ⟨(some 2), (.mv (.tmp 7)), none⟩]) .ret)))⟩
def af101 : AFn := ⟨19, [(.tmp 4)], (.seq (.region [⟨(some 4), (.mv (.const (.int .i64 0))), none⟩]) (.seq (.seq (.region [⟨(some 6), (.mv (.tmp 0)), none⟩, ⟨(some 7), (.len (.tmp 6)), none⟩, ⟨(some
  8), (.mv (.const (.int .i64 0))), none⟩]) (.block 0 (.loop (.seq (.region [⟨(some 9), (.bin .lss (.tmp 8) (.tmp 7)), none⟩]) (.seq (.cond (.tmp 9) .skip (.exit 0)) (.seq (.block
  1 (.seq (.region [⟨(some 10), (.mv (.tmp 8)), none⟩, ⟨(some 5), (.mv (.tmp 10)), none⟩]) (.seq (.region [⟨(some 11), (.mv (.tmp 1)), none⟩, ⟨(some 12), (.mv (.tmp 0)), none⟩,
  ⟨(some 13), (.mv (.tmp 5)), none⟩, ⟨(some 14), (.iaddrS 3 (.tmp 12) (.tmp 13)), none⟩, ⟨(some 15), (.load (some 3) (.tmp 14)), none⟩, ⟨(some 16), (.call (.tmp 11) [(.tmp 15)]),
  none⟩]) (.cond (.tmp 16) (.seq (.region [⟨(some 17), (.mv (.tmp 5)), none⟩, ⟨(some 4), (.mv (.tmp 17)), none⟩]) .ret) .skip)))) (.region [⟨(some 18), (.bin .add (.tmp 8) (.const
  (.int .i64 1))), none⟩, ⟨(some 8), (.mv (.tmp 18)), none⟩]))))))) (.seq (.region [⟨(some 4), (.mv (.const (.int .i64 (-1)))), none⟩]) .ret)))⟩
def af102 : AFn := ⟨19, [(.tmp 4)], (.seq (.region [⟨(some 4), (.mv (.const (.int .i64 0))), none⟩]) (.seq (.seq (.region [⟨(some 7), (.mv (.tmp 0)), none⟩, ⟨(some 8), (.len (.tmp 7)), none⟩, ⟨(some
  9), (.mv (.const (.int .i64 0))), none⟩]) (.block 0 (.loop (.seq (.region [⟨(some 10), (.bin .lss (.tmp 9) (.tmp 8)), none⟩]) (.seq (.cond (.tmp 10) .skip (.exit 0)) (.seq
  (.block 1 (.seq (.region [⟨(some 11), (.mv (.tmp 9)), none⟩, ⟨(some 12), (.iaddrS 1 (.tmp 7) (.tmp 9)), none⟩, ⟨(some 13), (.load none (.tmp 12)), none⟩, ⟨(some 5), (.mv (.tmp
  11)), none⟩, ⟨(some 6), (.mv (.tmp 13)), none⟩]) (.seq (.region [⟨(some 14), (.mv (.tmp 1)), none⟩, ⟨(some 15), (.mv (.tmp 6)), none⟩, ⟨(some 16), (.call (.tmp 14) [(.tmp 15)]),
  none⟩]) (.cond (.tmp 16) (.seq (.region [⟨(some 17), (.mv (.tmp 5)), none⟩, ⟨(some 4), (.mv (.tmp 17)), none⟩]) .ret) .skip)))) (.region [⟨(some 18), (.bin .add (.tmp 9) (.const
  (.int .i64 1))), none⟩, ⟨(some 9), (.mv (.tmp 18)), none⟩]))))))) (.seq (.region [⟨(some 4), (.mv (.const (.int .i64 (-1)))), none⟩]) .ret)))⟩
def af103 : AFn := ⟨16, [(.tmp 3)], (.seq (.region [⟨(some 3), (.mv (.const (.bool false))), none⟩]) (.seq (.region [⟨(some 4), (.mv (.tmp 0)), none⟩, ⟨(some 5), (.bin .lss (.tmp 4) (.const (.int
  .i64 0))), none⟩, ⟨(some 6), (.mv (.tmp 5)), none⟩, ⟨(some 7), (.mv (.tmp 0)), (some (6, false))⟩, ⟨(some 8), (.load none (.tmp 1)), (some (6, false))⟩, ⟨(some 9), (.nilchk
  (.tmp 8)), (some (6, false))⟩, ⟨(some 10), (.faddr 0 (.tmp 9)), (some (6, false))⟩, ⟨(some 11), (.faddr 2 (.tmp 10)), (some (6, false))⟩, ⟨(some 12), (.load none (.tmp 11)),
  (some (6, false))⟩, ⟨(some 13), (.len (.tmp 12)), (some (6, false))⟩, ⟨(some 14), (.bin .geq (.tmp 7) (.tmp 13)), (some (6, false))⟩, ⟨(some 15), (.pick (.tmp 6) (.const (.bool
  true)) (.tmp 14)), none⟩, ⟨(some 3), (.mv (.tmp 15)), none⟩]) .ret))⟩
def af104 : AFn := ⟨59, [(.tmp 6)], (.seq (.region [⟨(some 6), (.mv (.const (.bool false))), none⟩]) (.seq (.seq (.region [⟨(some 9), (.mv (.tmp 0)), none⟩, ⟨(some 10), (.nilchk (.tmp 9)), none⟩,
  ⟨(some 11), (.faddr 0 (.tmp 10)), none⟩, ⟨(some 12), (.faddr 2 (.tmp 11)), none⟩, ⟨(some 13), (.load none (.tmp 12)), none⟩, ⟨(some 14), (.len (.tmp 13)), none⟩, ⟨(some 15),
  (.mv (.const (.int .i64 0))), none⟩]) (.block 0 (.loop (.seq (.region [⟨(some 16), (.bin .lss (.tmp 15) (.tmp 14)), none⟩]) (.seq (.cond (.tmp 16) .skip (.exit 0)) (.seq (.block
  1 (.seq (.region [⟨(some 17), (.mv (.tmp 15)), none⟩, ⟨(some 18), (.iaddrS 4 (.tmp 13) (.tmp 15)), none⟩, ⟨(some 19), (.load (some 4) (.tmp 18)), none⟩, ⟨(some 8), (.alloc
  [(.int .i64 0), (.int .i64 0), (.int .i64 0), (.int .i64 0)]), none⟩, ⟨(some 7), (.mv (.tmp 17)), none⟩, ⟨none, (.store 4 (.tmp 8) (.tmp 19)), none⟩]) (.seq (.draw [⟨(some 20),
  (.faddr 2 (.tmp 8)), none⟩, ⟨(some 21), (.load none (.tmp 20)), none⟩, ⟨(some 22), (.mv (.tmp 0)), none⟩, ⟨(some 23), (.nilchk (.tmp 22)), none⟩, ⟨(some 24), (.faddr 0 (.tmp
  23)), none⟩, ⟨(some 25), (.faddr 2 (.tmp 24)), none⟩, ⟨(some 26), (.load none (.tmp 25)), none⟩, ⟨(some 27), (.mv (.tmp 1)), none⟩, ⟨(some 28), (.iaddrS 4 (.tmp 26) (.tmp 27)),
  none⟩, ⟨(some 29), (.faddr 2 (.tmp 28)), none⟩, ⟨(some 30), (.load none (.tmp 29)), none⟩, ⟨(some 31), (.bin .eql (.tmp 21) (.tmp 30)), none⟩, ⟨(some 32), (.mv (.tmp 31)), none⟩,
   ⟨(some 33), (.mv (.tmp 0)), (some (32, true))⟩, ⟨(some 34), (.mv (.tmp 7)), (some (32, true))⟩, ⟨(some 35), (.nilchk (.tmp 33)), (some (32, true))⟩, ⟨(some 36), (.faddr 4 (.tmp
  35)), (some (32, true))⟩, ⟨(some 37), (.iaddrA 12 1 (.tmp 36) (.tmp 34)), (some (32, true))⟩, ⟨(some 38), (.load none (.tmp 37)), (some (32, true))⟩, ⟨(some 39), (.mv (.tmp 1)),
  (some (32, true))⟩, ⟨(some 40), (.bslice [(.int .i64 0)] 1 1 [(0, (1, (.tmp 39)))]), (some (32, true))⟩, ⟨(some 41), (.call (.func 63) [(.tmp 40)]), (some (32, true))⟩, ⟨(some
  42), (.bin .and (.tmp 38) (.tmp 41)), (some (32, true))⟩, ⟨(some 43), (.bin .neq (.tmp 42) (.const (.int .i64 0))), (some (32, true))⟩, ⟨(some 44), (.pick (.tmp 32) (.tmp 43)
  (.const (.bool false))), none⟩, ⟨(some 45), (.mv (.tmp 44)), none⟩, ⟨(some 46), (.mv (.tmp 0)), (some (45, true))⟩, ⟨(some 47), (.mv (.tmp 2)), (some (45, true))⟩, ⟨(some 48),
  (.nilchk (.tmp 46)), (some (45, true))⟩, ⟨(some 49), (.faddr 4 (.tmp 48)), (some (45, true))⟩, ⟨(some 50), (.iaddrA 12 1 (.tmp 49) (.tmp 47)), (some (45, true))⟩, ⟨(some 51),
  (.load none (.tmp 50)), (some (45, true))⟩, ⟨(some 52), (.mv (.tmp 7)), (some (45, true))⟩, ⟨(some 53), (.bslice [(.int .i64 0)] 1 1 [(0, (1, (.tmp 52)))]), (some (45, true))⟩,
  ⟨(some 54), (.call (.func 63) [(.tmp 53)]), (some (45, true))⟩, ⟨(some 55), (.bin .and (.tmp 51) (.tmp 54)), (some (45, true))⟩, ⟨(some 56), (.bin .neq (.tmp 55) (.const (.int
  .i64 0))), (some (45, true))⟩, ⟨(some 57), (.pick (.tmp 45) (.tmp 56) (.const (.bool false))), none⟩] [(18, 20), (18, 21), (31, 33), (31, 34)]) (.cond (.tmp 57) (.seq (.region
  [⟨(some 6), (.mv (.const (.bool true))), none⟩]) .ret) .skip)))) (.region [⟨(some 58), (.bin .add (.tmp 15) (.const (.int .i64 1))), none⟩, ⟨(some 15), (.mv (.tmp 58)),
  none⟩]))))))) (.seq (.region [⟨(some 6), (.mv (.const (.bool false))), none⟩]) .ret)))⟩
def af105 : AFn := ⟨13, [(.tmp 3)], (.seq (.region [⟨(some 3), (.mv (.const (.bool false))), none⟩]) (.seq (.region [⟨(some 4), (.mv (.tmp 0)), none⟩, ⟨(some 5), (.bin .geq (.tmp 4) (.const (.int
  .i64 0))), none⟩, ⟨(some 6), (.mv (.tmp 5)), none⟩, ⟨(some 7), (.mv (.tmp 0)), (some (6, true))⟩, ⟨(some 8), (.faddr 2 (.tmp 1)), (some (6, true))⟩, ⟨(some 9), (.load none (.tmp
  8)), (some (6, true))⟩, ⟨(some 10), (.len (.tmp 9)), (some (6, true))⟩, ⟨(some 11), (.bin .lss (.tmp 7) (.tmp 10)), (some (6, true))⟩, ⟨(some 12), (.pick (.tmp 6) (.tmp 11)
  (.const (.bool false))), none⟩, ⟨(some 3), (.mv (.tmp 12)), none⟩]) .ret))⟩
def af106 : AFn := ⟨9, [(.tmp 4)], (.seq (.region [⟨(some 4), (.mv (.const (.bool false))), none⟩]) (.seq (.region [⟨(some 5), (.mv (.tmp 0)), none⟩, ⟨(some 6), (.mv (.tmp 1)), none⟩, ⟨(some 7),
  (.call (.func 112) [(.tmp 5), (.tmp 6)]), none⟩, ⟨(some 8), (.bin .geq (.tmp 7) (.const (.int .i64 0))), none⟩, ⟨(some 4), (.mv (.tmp 8)), none⟩]) .ret))⟩
def af107 : AFn := ⟨23, [(.tmp 3)], (.seq (.region [⟨(some 2), (.box (.tmp 0)), none⟩, ⟨(some 3), (.mv (.const (.bool false))), none⟩]) (.seq (.region [⟨(some 4), (.load none (.tmp 1)), none⟩,
  ⟨(some 5), (.iaddrA 2 1 (.tmp 2) (.const (.int .i64 0))), none⟩, ⟨(some 6), (.load none (.tmp 5)), none⟩, ⟨(some 7), (.call (.tmp 4) [(.tmp 6)]), none⟩, ⟨(some 8), (.un .not
  (.tmp 7)), none⟩, ⟨(some 9), (.mv (.tmp 8)), none⟩, ⟨(some 10), (.load none (.tmp 1)), (some (9, false))⟩, ⟨(some 11), (.iaddrA 2 1 (.tmp 2) (.const (.int .i64 1))), (some (9,
  false))⟩, ⟨(some 12), (.load none (.tmp 11)), (some (9, false))⟩, ⟨(some 13), (.call (.tmp 10) [(.tmp 12)]), (some (9, false))⟩, ⟨(some 14), (.un .not (.tmp 13)), (some (9,
  false))⟩, ⟨(some 15), (.pick (.tmp 9) (.const (.bool true)) (.tmp 14)), none⟩, ⟨(some 16), (.mv (.tmp 15)), none⟩, ⟨(some 17), (.iaddrA 2 1 (.tmp 2) (.const (.int .i64 0))),
  (some (16, false))⟩, ⟨(some 18), (.load none (.tmp 17)), (some (16, false))⟩, ⟨(some 19), (.iaddrA 2 1 (.tmp 2) (.const (.int .i64 1))), (some (16, false))⟩, ⟨(some 20), (.load
  none (.tmp 19)), (some (16, false))⟩, ⟨(some 21), (.bin .eql (.tmp 18) (.tmp 20)), (some (16, false))⟩, ⟨(some 22), (.pick (.tmp 16) (.const (.bool true)) (.tmp 21)), none⟩,
  ⟨(some 3), (.mv (.tmp 22)), none⟩]) .ret))⟩
def af108 : AFn := ⟨19, [(.tmp 4)], (.seq (.region [⟨(some 4), (.mv (.const (.int .i64 0))), none⟩]) (.seq (.seq (.region [⟨(some 6), (.mv (.tmp 0)), none⟩, ⟨(some 7), (.len (.tmp 6)), none⟩, ⟨(some
  8), (.mv (.const (.int .i64 0))), none⟩]) (.block 0 (.loop (.seq (.region [⟨(some 9), (.bin .lss (.tmp 8) (.tmp 7)), none⟩]) (.seq (.cond (.tmp 9) .skip (.exit 0)) (.seq (.block
  1 (.seq (.region [⟨(some 10), (.mv (.tmp 8)), none⟩, ⟨(some 5), (.mv (.tmp 10)), none⟩]) (.seq (.region [⟨(some 11), (.mv (.tmp 1)), none⟩, ⟨(some 12), (.mv (.tmp 0)), none⟩,
  ⟨(some 13), (.mv (.tmp 5)), none⟩, ⟨(some 14), (.iaddrS 1 (.tmp 12) (.tmp 13)), none⟩, ⟨(some 15), (.load none (.tmp 14)), none⟩, ⟨(some 16), (.call (.tmp 11) [(.tmp 15)]),
  none⟩]) (.cond (.tmp 16) (.seq (.region [⟨(some 17), (.mv (.tmp 5)), none⟩, ⟨(some 4), (.mv (.tmp 17)), none⟩]) .ret) .skip)))) (.region [⟨(some 18), (.bin .add (.tmp 8) (.const
  (.int .i64 1))), none⟩, ⟨(some 8), (.mv (.tmp 18)), none⟩]))))))) (.seq (.region [⟨(some 4), (.mv (.const (.int .i64 (-1)))), none⟩]) .ret)))⟩
def af109 : AFn := ⟨129, [(.tmp 8)], (.seq (.region [⟨(some 5), (.box (.tmp 1)), none⟩, ⟨(some 8), (.mv (.const (.slc none 0 0 true 0))), none⟩]) (.seq (.region [⟨(some 18), .mkmap, none⟩, ⟨(some
  19), (.mv (.tmp 3)), none⟩, ⟨none, (.mapup false [.int] (.tmp 18) (.tmp 19) (.const (.int .i64 (-1)))), none⟩, ⟨(some 20), (.mv (.tmp 18)), none⟩, ⟨(some 9), (.mv (.tmp 20)),
  none⟩]) (.seq (.region [⟨(some 21), (.mv (.tmp 3)), none⟩, ⟨(some 22), (.bslice [(.int .i64 0)] 1 1 [(0, (1, (.tmp 21)))]), none⟩, ⟨(some 10), (.mv (.tmp 22)), none⟩]) (.seq
  (.block 0 (.loop (.seq (.seq (.region [⟨(some 23), (.mv (.tmp 10)), none⟩, ⟨(some 24), (.len (.tmp 23)), none⟩, ⟨(some 25), (.bin .gtr (.tmp 24) (.const (.int .i64 0))), none⟩])
  (.cond (.tmp 25) .skip (.exit 0))) (.block 1 (.seq (.region [⟨(some 26), (.mv (.tmp 10)), none⟩, ⟨(some 27), (.iaddrS 1 (.tmp 26) (.const (.int .i64 0))), none⟩, ⟨(some 28),
  (.load none (.tmp 27)), none⟩, ⟨(some 11), (.mv (.tmp 28)), none⟩]) (.seq (.region [⟨(some 29), (.mv (.tmp 10)), none⟩, ⟨(some 30), (.slc 1 (.tmp 29) (some (.const (.int .i64
  1))) none none), none⟩, ⟨(some 10), (.mv (.tmp 30)), none⟩]) (.seq (.region [⟨(some 31), (.mv (.tmp 0)), none⟩, ⟨(some 32), (.nilchk (.tmp 31)), none⟩, ⟨(some 33), (.faddr 0
  (.tmp 32)), none⟩, ⟨(some 34), (.faddr 2 (.tmp 33)), none⟩, ⟨(some 35), (.load none (.tmp 34)), none⟩, ⟨(some 36), (.len (.tmp 35)), none⟩, ⟨(some 37), (.mv (.const (.int .i64
  0))), none⟩]) (.block 2 (.loop (.seq (.region [⟨(some 38), (.bin .lss (.tmp 37) (.tmp 36)), none⟩]) (.seq (.cond (.tmp 38) .skip (.exit 2)) (.seq (.block 3 (.seq (.region
  [⟨(some 39), (.mv (.tmp 37)), none⟩, ⟨(some 12), (.mv (.tmp 39)), none⟩]) (.seq (.seq (.region [⟨(some 41), (.mv (.tmp 9)), none⟩, ⟨(some 42), (.mv (.tmp 12)), none⟩, ⟨(some 43),
   (.look false [.int] (.int .i64 0) (.tmp 41) (.tmp 42) true), none⟩, ⟨(some 40), (.mv (.tmp 43)), none⟩, ⟨(some 44), (.ext (.tmp 40) 0), none⟩, ⟨(some 45), (.ext (.tmp 40) 1),
  none⟩, ⟨(some 13), (.mv (.tmp 44)), none⟩, ⟨(some 14), (.mv (.tmp 45)), none⟩]) (.seq (.draw [⟨(some 46), (.mv (.tmp 14)), none⟩, ⟨(some 47), (.mv (.tmp 46)), none⟩, ⟨(some 48),
  (.mv (.tmp 0)), (some (47, false))⟩, ⟨(some 49), (.nilchk (.tmp 48)), (some (47, false))⟩, ⟨(some 50), (.faddr 0 (.tmp 49)), (some (47, false))⟩, ⟨(some 51), (.faddr 2 (.tmp
  50)), (some (47, false))⟩, ⟨(some 52), (.load none (.tmp 51)), (some (47, false))⟩, ⟨(some 53), (.mv (.tmp 12)), (some (47, false))⟩, ⟨(some 54), (.iaddrS 4 (.tmp 52) (.tmp 53)),
   (some (47, false))⟩, ⟨(some 55), (.faddr 0 (.tmp 54)), (some (47, false))⟩, ⟨(some 56), (.load none (.tmp 55)), (some (47, false))⟩, ⟨(some 57), (.mv (.tmp 0)), (some (47,
  false))⟩, ⟨(some 58), (.nilchk (.tmp 57)), (some (47, false))⟩, ⟨(some 59), (.faddr 0 (.tmp 58)), (some (47, false))⟩, ⟨(some 60), (.faddr 2 (.tmp 59)), (some (47, false))⟩,
  ⟨(some 61), (.load none (.tmp 60)), (some (47, false))⟩, ⟨(some 62), (.mv (.tmp 3)), (some (47, false))⟩, ⟨(some 63), (.iaddrS 4 (.tmp 61) (.tmp 62)), (some (47, false))⟩,
  ⟨(some 64), (.faddr 0 (.tmp 63)), (some (47, false))⟩, ⟨(some 65), (.load none (.tmp 64)), (some (47, false))⟩, ⟨(some 66), (.bin .neq (.tmp 56) (.tmp 65)), (some (47, false))⟩,
  ⟨(some 67), (.pick (.tmp 47) (.const (.bool true)) (.tmp 66)), none⟩] []) (.cond (.tmp 67) (.exit 3) .skip))) (.seq (.region [⟨(some 68), (.faddr 1 (.tmp 5)), none⟩, ⟨(some 69),
  (.load none (.tmp 68)), none⟩, ⟨(some 70), (.mv (.tmp 11)), none⟩, ⟨(some 71), (.mv (.tmp 12)), none⟩, ⟨(some 72), (.build [(.int .i64 0), (.int .i64 0)] [(0, (1, (.tmp 70))),
  (1, (1, (.tmp 71)))]), none⟩, ⟨(some 73), (.look true [.int, .int] (.int .i64 0) (.tmp 69) (.tmp 72) false), none⟩, ⟨(some 74), (.bin .gtr (.tmp 73) (.const (.int .i64 0))),
  none⟩, ⟨(some 15), (.mv (.tmp 74)), none⟩]) (.seq (.seq (.region [⟨(some 75), (.mv (.tmp 2)), none⟩, ⟨(some 76), (.mv (.tmp 11)), none⟩, ⟨(some 77), (.call (.tmp 75) [(.tmp
  76)]), none⟩, ⟨(some 78), (.bin .gtr (.tmp 77) (.const (.int .i64 0))), none⟩]) (.cond (.tmp 78) (.draw [⟨(some 79), (.mv (.tmp 2)), none⟩, ⟨(some 80), (.mv (.tmp 12)), none⟩,
  ⟨(some 81), (.call (.tmp 79) [(.tmp 80)]), none⟩, ⟨(some 82), (.bin .lss (.tmp 81) (.const (.int .i64 0))), none⟩, ⟨(some 83), (.mv (.tmp 82)), none⟩, ⟨(some 84), (.mv (.tmp 0)),
   (some (83, true))⟩, ⟨(some 85), (.mv (.tmp 11)), (some (83, true))⟩, ⟨(some 86), (.nilchk (.tmp 84)), (some (83, true))⟩, ⟨(some 87), (.faddr 4 (.tmp 86)), (some (83, true))⟩,
  ⟨(some 88), (.iaddrA 12 1 (.tmp 87) (.tmp 85)), (some (83, true))⟩, ⟨(some 89), (.load none (.tmp 88)), (some (83, true))⟩, ⟨(some 90), (.mv (.tmp 12)), (some (83, true))⟩,
  ⟨(some 91), (.bslice [(.int .i64 0)] 1 1 [(0, (1, (.tmp 90)))]), (some (83, true))⟩, ⟨(some 92), (.call (.func 63) [(.tmp 91)]), (some (83, true))⟩, ⟨(some 93), (.bin .and (.tmp
  89) (.tmp 92)), (some (83, true))⟩, ⟨(some 94), (.bin .neq (.tmp 93) (.const (.int .i64 0))), (some (83, true))⟩, ⟨(some 95), (.pick (.tmp 83) (.tmp 94) (.const (.bool false))),
  none⟩, ⟨(some 15), (.mv (.tmp 95)), none⟩] [(10, 12), (10, 13)]) .skip)) (.seq (.seq (.region [⟨(some 96), (.mv (.tmp 15)), none⟩, ⟨(some 97), (.un .not (.tmp 96)), none⟩])
  (.cond (.tmp 97) (.exit 3) .skip)) (.seq (.region [⟨(some 98), (.mv (.tmp 9)), none⟩, ⟨(some 99), (.mv (.tmp 12)), none⟩, ⟨(some 100), (.mv (.tmp 11)), none⟩, ⟨none, (.mapup
  false [.int] (.tmp 98) (.tmp 99) (.tmp 100)), none⟩]) (.seq (.region [⟨(some 101), (.mv (.tmp 10)), none⟩, ⟨(some 102), (.mv (.tmp 12)), none⟩, ⟨(some 103), (.bslice [(.int .i64
  0)] 1 1 [(0, (1, (.tmp 102)))]), none⟩, ⟨(some 104), (.app 1 8 (.tmp 101) (.tmp 103)), none⟩, ⟨(some 10), (.mv (.tmp 104)), none⟩]) (.seq (.region [⟨(some 105), (.mv (.tmp 2)),
  none⟩, ⟨(some 106), (.mv (.tmp 12)), none⟩, ⟨(some 107), (.call (.tmp 105) [(.tmp 106)]), none⟩, ⟨(some 108), (.bin .lss (.tmp 107) (.const (.int .i64 0))), none⟩, ⟨(some 109),
  (.mv (.tmp 108)), none⟩, ⟨(some 110), (.faddr 0 (.tmp 5)), (some (109, true))⟩, ⟨(some 111), (.load none (.tmp 110)), (some (109, true))⟩, ⟨(some 112), (.mv (.tmp 12)), (some
  (109, true))⟩, ⟨(some 113), (.iaddrS 1 (.tmp 111) (.tmp 112)), (some (109, true))⟩, ⟨(some 114), (.load none (.tmp 113)), (some (109, true))⟩, ⟨(some 115), (.bin .lss (.tmp 114)
  (.const (.int .i64 0))), (some (109, true))⟩, ⟨(some 116), (.pick (.tmp 109) (.tmp 115) (.const (.bool false))), none⟩]) (.cond (.tmp 116) (.seq (.region [⟨(some 16), (.mv
  (.const (.slc none 0 0 true 0))), none⟩]) (.seq (.seq (.region [⟨(some 117), (.mv (.tmp 12)), none⟩, ⟨(some 17), (.mv (.tmp 117)), none⟩]) (.block 4 (.loop (.seq (.seq (.region
  [⟨(some 118), (.mv (.tmp 17)), none⟩, ⟨(some 119), (.bin .geq (.tmp 118) (.const (.int .i64 0))), none⟩]) (.cond (.tmp 119) .skip (.exit 4))) (.seq (.block 5 (.region [⟨(some
  123), (.mv (.tmp 16)), none⟩, ⟨(some 124), (.mv (.tmp 17)), none⟩, ⟨(some 125), (.bslice [(.int .i64 0)] 1 1 [(0, (1, (.tmp 124)))]), none⟩, ⟨(some 126), (.app 1 8 (.tmp 123)
  (.tmp 125)), none⟩, ⟨(some 16), (.mv (.tmp 126)), none⟩])) (.region [⟨(some 120), (.mv (.tmp 9)), none⟩, ⟨(some 121), (.mv (.tmp 17)), none⟩, ⟨(some 122), (.look false [.int]
  (.int .i64 0) (.tmp 120) (.tmp 121) false), none⟩, ⟨(some 17), (.mv (.tmp 122)), none⟩])))))) (.seq (.region [⟨(some 127), (.mv (.tmp 16)), none⟩, ⟨(some 8), (.mv (.tmp 127)),
  none⟩]) .ret))) .skip)))))))))) (.region [⟨(some 128), (.bin .add (.tmp 37) (.const (.int .i64 1))), none⟩, ⟨(some 37), (.mv (.tmp 128)), none⟩]))))))))))))) (.seq (.region
  [⟨(some 8), (.mv (.const (.slc none 0 0 true 0))), none⟩]) .ret)))))⟩
def af110 : AFn := ⟨120, [], (.seq (.region [⟨(some 2), (.box (.tmp 0)), none⟩]) (.seq (.region [⟨(some 9), (.mv (.tmp 1)), none⟩, ⟨(some 10), (.len (.tmp 9)), none⟩, ⟨(some 11), (.bin .sub (.tmp
  10) (.const (.int .i64 1))), none⟩, ⟨(some 4), (.mv (.tmp 11)), none⟩]) (.seq (.draw [⟨(some 12), (.faddr 0 (.tmp 2)), none⟩, ⟨(some 13), (.load none (.tmp 12)), none⟩, ⟨(some
  14), (.mv (.tmp 1)), none⟩, ⟨(some 15), (.iaddrS 1 (.tmp 14) (.const (.int .i64 0))), none⟩, ⟨(some 16), (.load none (.tmp 15)), none⟩, ⟨(some 17), (.iaddrS 1 (.tmp 13) (.tmp
  16)), none⟩, ⟨(some 18), (.load none (.tmp 17)), none⟩, ⟨(some 19), (.un .neg (.tmp 18)), none⟩, ⟨(some 20), (.faddr 0 (.tmp 2)), none⟩, ⟨(some 21), (.load none (.tmp 20)),
  none⟩, ⟨(some 22), (.mv (.tmp 1)), none⟩, ⟨(some 23), (.mv (.tmp 4)), none⟩, ⟨(some 24), (.iaddrS 1 (.tmp 22) (.tmp 23)), none⟩, ⟨(some 25), (.load none (.tmp 24)), none⟩,
  ⟨(some 26), (.iaddrS 1 (.tmp 21) (.tmp 25)), none⟩, ⟨(some 27), (.load none (.tmp 26)), none⟩, ⟨(some 28), (.mnx false [(.tmp 19), (.tmp 27)]), none⟩, ⟨(some 5), (.mv (.tmp 28)),
   none⟩] []) (.seq (.seq (.region [⟨(some 6), (.mv (.const (.int .i64 1))), none⟩]) (.block 0 (.loop (.seq (.seq (.region [⟨(some 29), (.mv (.tmp 6)), none⟩, ⟨(some 30), (.mv
  (.tmp 4)), none⟩, ⟨(some 31), (.bin .lss (.tmp 29) (.tmp 30)), none⟩]) (.cond (.tmp 31) .skip (.exit 0))) (.seq (.block 1 (.draw [⟨(some 34), (.mv (.tmp 5)), none⟩, ⟨(some 35),
  (.faddr 1 (.tmp 2)), none⟩, ⟨(some 36), (.load none (.tmp 35)), none⟩, ⟨(some 37), (.mv (.tmp 1)), none⟩, ⟨(some 38), (.mv (.tmp 6)), none⟩, ⟨(some 39), (.bin .add (.tmp 38)
  (.const (.int .i64 1))), none⟩, ⟨(some 40), (.iaddrS 1 (.tmp 37) (.tmp 39)), none⟩, ⟨(some 41), (.load none (.tmp 40)), none⟩, ⟨(some 42), (.mv (.tmp 1)), none⟩, ⟨(some 43),
  (.mv (.tmp 6)), none⟩, ⟨(some 44), (.iaddrS 1 (.tmp 42) (.tmp 43)), none⟩, ⟨(some 45), (.load none (.tmp 44)), none⟩, ⟨(some 46), (.build [(.int .i64 0), (.int .i64 0)] [(0, (1,
  (.tmp 41))), (1, (1, (.tmp 45)))]), none⟩, ⟨(some 47), (.look true [.int, .int] (.int .i64 0) (.tmp 36) (.tmp 46) false), none⟩, ⟨(some 48), (.mnx false [(.tmp 34), (.tmp 47)]),
  none⟩, ⟨(some 5), (.mv (.tmp 48)), none⟩] [])) (.region [⟨(some 32), (.mv (.tmp 6)), none⟩, ⟨(some 33), (.bin .add (.tmp 32) (.const (.int .i64 2))), none⟩, ⟨(some 6), (.mv
  (.tmp 33)), none⟩])))))) (.seq (.draw [⟨(some 49), (.faddr 0 (.tmp 2)), none⟩, ⟨(some 50), (.load none (.tmp 49)), none⟩, ⟨(some 51), (.mv (.tmp 1)), none⟩, ⟨(some 52), (.iaddrS
  1 (.tmp 51) (.const (.int .i64 0))), none⟩, ⟨(some 53), (.load none (.tmp 52)), none⟩, ⟨(some 54), (.iaddrS 1 (.tmp 50) (.tmp 53)), none⟩, ⟨(some 55), (.load none (.tmp 54)),
  none⟩, ⟨(some 56), (.mv (.tmp 5)), none⟩, ⟨(some 57), (.bin .add (.tmp 55) (.tmp 56)), none⟩, ⟨(some 58), (.iaddrS 1 (.tmp 50) (.tmp 53)), none⟩, ⟨none, (.store 1 (.tmp 58)
  (.tmp 57)), none⟩] []) (.seq (.draw [⟨(some 59), (.faddr 0 (.tmp 2)), none⟩, ⟨(some 60), (.load none (.tmp 59)), none⟩, ⟨(some 61), (.mv (.tmp 1)), none⟩, ⟨(some 62), (.mv (.tmp
  4)), none⟩, ⟨(some 63), (.iaddrS 1 (.tmp 61) (.tmp 62)), none⟩, ⟨(some 64), (.load none (.tmp 63)), none⟩, ⟨(some 65), (.iaddrS 1 (.tmp 60) (.tmp 64)), none⟩, ⟨(some 66), (.load
  none (.tmp 65)), none⟩, ⟨(some 67), (.mv (.tmp 5)), none⟩, ⟨(some 68), (.bin .sub (.tmp 66) (.tmp 67)), none⟩, ⟨(some 69), (.iaddrS 1 (.tmp 60) (.tmp 64)), none⟩, ⟨none, (.store
  1 (.tmp 69) (.tmp 68)), none⟩] []) (.seq (.region [⟨(some 7), (.mv (.const (.int .i64 0))), none⟩]) (.block 2 (.loop (.seq (.seq (.region [⟨(some 70), (.mv (.tmp 7)), none⟩,
  ⟨(some 71), (.mv (.tmp 4)), none⟩, ⟨(some 72), (.bin .lss (.tmp 70) (.tmp 71)), none⟩]) (.cond (.tmp 72) .skip (.exit 2))) (.seq (.block 3 (.seq (.draw [⟨(some 75), (.faddr 1
  (.tmp 2)), none⟩, ⟨(some 76), (.load none (.tmp 75)), none⟩, ⟨(some 77), (.mv (.tmp 1)), none⟩, ⟨(some 78), (.mv (.tmp 7)), none⟩, ⟨(some 79), (.iaddrS 1 (.tmp 77) (.tmp 78)),
  none⟩, ⟨(some 80), (.load none (.tmp 79)), none⟩, ⟨(some 81), (.mv (.tmp 1)), none⟩, ⟨(some 82), (.mv (.tmp 7)), none⟩, ⟨(some 83), (.bin .add (.tmp 82) (.const (.int .i64 1))),
  none⟩, ⟨(some 84), (.iaddrS 1 (.tmp 81) (.tmp 83)), none⟩, ⟨(some 85), (.load none (.tmp 84)), none⟩, ⟨(some 86), (.build [(.int .i64 0), (.int .i64 0)] [(0, (1, (.tmp 80))), (1,
   (1, (.tmp 85)))]), none⟩, ⟨(some 87), (.look true [.int, .int] (.int .i64 0) (.tmp 76) (.tmp 86) false), none⟩, ⟨(some 88), (.mv (.tmp 5)), none⟩, ⟨(some 89), (.bin .add (.tmp
  87) (.tmp 88)), none⟩, ⟨(some 90), (.ment true [.int, .int] (.int .i64 0) (.tmp 76) (.tmp 86)), none⟩, ⟨(some 91), (.ext (.tmp 90) 1), none⟩, ⟨none, (.mest (.tmp 76) (.tmp 91)
  (.tmp 89)), none⟩] []) (.seq (.region [⟨(some 92), (.mv (.tmp 7)), none⟩, ⟨(some 93), (.bin .gtr (.tmp 92) (.const (.int .i64 0))), none⟩]) (.cond (.tmp 93) (.seq (.draw [⟨(some
  94), (.mv (.tmp 1)), none⟩, ⟨(some 95), (.mv (.tmp 7)), none⟩, ⟨(some 96), (.iaddrS 1 (.tmp 94) (.tmp 95)), none⟩, ⟨(some 97), (.load none (.tmp 96)), none⟩, ⟨(some 98), (.mv
  (.tmp 1)), none⟩, ⟨(some 99), (.mv (.tmp 7)), none⟩, ⟨(some 100), (.bin .sub (.tmp 99) (.const (.int .i64 1))), none⟩, ⟨(some 101), (.iaddrS 1 (.tmp 98) (.tmp 100)), none⟩,
  ⟨(some 102), (.load none (.tmp 101)), none⟩, ⟨(some 103), (.build [(.int .i64 0), (.int .i64 0)] [(0, (1, (.tmp 97))), (1, (1, (.tmp 102)))]), none⟩, ⟨(some 8), (.alloc [(.int
  .i64 0), (.int .i64 0)]), none⟩, ⟨none, (.store 2 (.tmp 8) (.tmp 103)), none⟩] [(3, 10), (8, 10)]) (.seq (.draw [⟨(some 104), (.faddr 1 (.tmp 2)), none⟩, ⟨(some 105), (.load
  none (.tmp 104)), none⟩, ⟨(some 106), (.load (some 2) (.tmp 8)), none⟩, ⟨(some 107), (.look true [.int, .int] (.int .i64 0) (.tmp 105) (.tmp 106) false), none⟩, ⟨(some 108),
  (.mv (.tmp 5)), none⟩, ⟨(some 109), (.bin .sub (.tmp 107) (.tmp 108)), none⟩, ⟨(some 110), (.ment true [.int, .int] (.int .i64 0) (.tmp 105) (.tmp 106)), none⟩, ⟨(some 111),
  (.ext (.tmp 110) 1), none⟩, ⟨none, (.mest (.tmp 105) (.tmp 111) (.tmp 109)), none⟩] []) (.seq (.region [⟨(some 112), (.faddr 1 (.tmp 2)), none⟩, ⟨(some 113), (.load none (.tmp
  112)), none⟩, ⟨(some 114), (.load (some 2) (.tmp 8)), none⟩, ⟨(some 115), (.look true [.int, .int] (.int .i64 0) (.tmp 113) (.tmp 114) false), none⟩, ⟨(some 116), (.bin .eql
  (.tmp 115) (.const (.int .i64 0))), none⟩]) (.cond (.tmp 116) (.region [⟨(some 117), (.faddr 1 (.tmp 2)), none⟩, ⟨(some 118), (.load none (.tmp 117)), none⟩, ⟨(some 119), (.load
  (some 2) (.tmp 8)), none⟩, ⟨none, (.del true [.int, .int] (.tmp 118) (.tmp 119)), none⟩]) .skip)))) .skip)))) (.region [⟨(some 73), (.mv (.tmp 7)), none⟩, ⟨(some 74), (.bin .add
  (.tmp 73) (.const (.int .i64 2))), none⟩, ⟨(some 7), (.mv (.tmp 74)), none⟩]))))))))))))⟩
def af111 : AFn := ⟨17, [(.tmp 4)], (.seq (.region [⟨(some 4), (.mv (.const (.bool false))), none⟩]) (.seq (.region [⟨(some 5), (.mv (.tmp 0)), none⟩, ⟨(some 6), (.call (.func 113) [(.tmp 5)]),
  none⟩, ⟨(some 7), (.mv (.tmp 6)), none⟩, ⟨(some 8), (.mv (.tmp 1)), (some (7, true))⟩, ⟨(some 9), (.call (.func 113) [(.tmp 8)]), (some (7, true))⟩, ⟨(some 10), (.un .not (.tmp
  9)), (some (7, true))⟩, ⟨(some 11), (.pick (.tmp 7) (.tmp 10) (.const (.bool false))), none⟩, ⟨(some 12), (.mv (.tmp 11)), none⟩, ⟨(some 13), (.mv (.tmp 0)), (some (12, false))⟩,
   ⟨(some 14), (.mv (.tmp 1)), (some (12, false))⟩, ⟨(some 15), (.bin .lss (.tmp 13) (.tmp 14)), (some (12, false))⟩, ⟨(some 16), (.pick (.tmp 12) (.const (.bool true)) (.tmp 15)),
   none⟩, ⟨(some 4), (.mv (.tmp 16)), none⟩]) .ret))⟩
def af112 : AFn := ⟨19, [(.tmp 4)], (.seq (.region [⟨(some 4), (.mv (.const (.int .i64 0))), none⟩]) (.seq (.seq (.region [⟨(some 6), (.mv (.tmp 0)), none⟩, ⟨(some 7), (.len (.tmp 6)), none⟩, ⟨(some
  8), (.mv (.const (.int .i64 0))), none⟩]) (.block 0 (.loop (.seq (.region [⟨(some 9), (.bin .lss (.tmp 8) (.tmp 7)), none⟩]) (.seq (.cond (.tmp 9) .skip (.exit 0)) (.seq (.block
  1 (.seq (.region [⟨(some 10), (.mv (.tmp 8)), none⟩, ⟨(some 5), (.mv (.tmp 10)), none⟩]) (.seq (.region [⟨(some 11), (.mv (.tmp 1)), none⟩, ⟨(some 12), (.mv (.tmp 0)), none⟩,
  ⟨(some 13), (.mv (.tmp 5)), none⟩, ⟨(some 14), (.iaddrS 2 (.tmp 12) (.tmp 13)), none⟩, ⟨(some 15), (.load (some 2) (.tmp 14)), none⟩, ⟨(some 16), (.call (.tmp 11) [(.tmp 15)]),
  none⟩]) (.cond (.tmp 16) (.seq (.region [⟨(some 17), (.mv (.tmp 5)), none⟩, ⟨(some 4), (.mv (.tmp 17)), none⟩]) .ret) .skip)))) (.region [⟨(some 18), (.bin .add (.tmp 8) (.const
  (.int .i64 1))), none⟩, ⟨(some 8), (.mv (.tmp 18)), none⟩]))))))) (.seq (.region [⟨(some 4), (.mv (.const (.int .i64 (-1)))), none⟩]) .ret)))⟩
def af113 : AFn := ⟨6, [(.tmp 2)], (.seq (.region [⟨(some 2), (.mv (.const (.bool false))), none⟩]) (.seq (.region [⟨(some 3), (.mv (.tmp 0)), none⟩, ⟨(some 4), (.mv (.tmp 0)), none⟩, ⟨(some 5),
  (.bin .neq (.tmp 3) (.tmp 4)), none⟩, ⟨(some 2), (.mv (.tmp 5)), none⟩]) .ret))⟩
def tblL : List (Nat × AFn) := [(3, af3), (4, af4), (5, af5), (6, af6), (7, af7), (8, af8), (9, af9), (10, af10), (11, af11), (12, af12), (13, af13), (14, af14), (15, af15), (16, af16), (17, af17), (18, af18), (19, af19), (20, af20), (21, af21), (22, af22), (23, af23), (24, af24), (25, af25), (26, af26), (27, af27), (28, af28), (29, af29), (30, af30), (31, af31), (32, af32), (33, af33), (34, af34), (35, af35), (36, af36), (37, af37), (38, af38), (39, af39), (40, af40), (41, af41), (42, af42), (43, af43), (44, af44), (45, af45), (46, af46), (47, af47), (48, af48), (49, af49), (50, af50), (51, af51), (52, af52), (53, af53), (54, af54), (55, af55), (56, af56), (57, af57), (58, af58), (59, af59), (60, af60), (61, af61), (62, af62), (63, af63), (64, af64), (65, af65), (66, af66), (67, af67), (68, af68), (69, af69), (70, af70), (71, af71), (72, af72), (73, af73), (74, af74), (75, af75), (76, af76), (77, af77), (78, af78), (79, af79), (80, af80), (81, af81), (82, af82), (83, af83), (84, af84), (85, af85), (86, af86), (87, af87), (88, af88), (89, af89), (90, af90), (91, af91), (92, af92), (93, af93), (94, af94), (95, af95), (96, af96), (97, af97), (98, af98), (99, af99), (100, af100), (101, af101), (102, af102), (103, af103), (104, af104), (105, af105), (106, af106), (107, af107), (108, af108), (109, af109), (110, af110), (111, af111), (112, af112), (113, af113)]
def tbl : Nat → Option AFn := look1 tblL
end Go.Ax
