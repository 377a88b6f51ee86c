/- The clean code of entries and of messages. -/
import Derived.Test.YtapmpenkceomdaaAb23
import Derived.KernelRfl
import Derived.Test.YtapmpenkceomdaaProg
import Derived.Test.YtapmpenkceomdaaFramShortPA
set_option linter.unusedSimpArgs false
set_option linter.unusedVariables false
set_option maxRecDepth 20000
namespace Go.Proofs.Ytapmpenkceomdaa
open Go.Ab
set_option maxRecDepth 100000
noncomputable def c113 : TFn := ⟨(.seq (.ops [⟨some 3, (.box 7 (.t 1)), none⟩, ⟨some 4, (.mv (.c (.slice none 0 0))), none⟩]) (.seq (.seq (.ops [⟨some 9, (.faddr 0 (.t 3)), none⟩, ⟨some 10, (.load false 1 (.t
    9)), none⟩, ⟨some 11, (.faddr 1 (.t 3)), none⟩, ⟨some 12, (.load false 1 (.t 11)), none⟩, ⟨some 13, (.faddr 2 (.t 3)), none⟩, ⟨some 14, (.faddr 0 (.t 13)), none⟩, ⟨some 15,
    (.load false 1 (.t 14)), none⟩, ⟨some 16, (.faddr 2 (.t 3)), none⟩, ⟨some 17, (.faddr 1 (.t 16)), none⟩, ⟨some 18, (.load false 1 (.t 17)), none⟩, ⟨some 19, (.bslice [(.int .i64
    0)] 1 4 [(0, (.t 10)), (1, (.t 12)), (2, (.t 15)), (3, (.t 18))]), none⟩, ⟨some 20, (.lenS (.t 19)), none⟩, ⟨some 21, (.mv (.c (.int .i64 0))), none⟩]) (.block 0 (.loop (.seq
    (.ops [⟨some 22, (.bin .lss 0 (.t 21) (.t 20)), none⟩]) (.seq (.cond (.t 22) .skip (.exit 0)) (.seq (.block 1 (.seq (.ops [⟨some 23, (.iaddrS 1 (.t 19) (.t 21)), none⟩, ⟨some 24,
    (.load false 1 (.t 23)), none⟩, ⟨some 6, (.mv (.t 24)), none⟩]) (.ops [⟨some 25, (.mv (.t 0)), none⟩, ⟨some 26, (.mv (.t 6)), none⟩, ⟨some 27, (.call (fnv 111) [(.t 25), (.t
    26)]), none⟩, ⟨some 0, (.mv (.t 27)), none⟩]))) (.ops [⟨some 28, (.bin .add 0 (.t 21) (.c (.int .i64 1))), none⟩, ⟨some 21, (.mv (.t 28)), none⟩]))))))) (.seq (.seq (.ops [⟨some
    29, (.faddr 2 (.t 3)), none⟩, ⟨some 30, (.faddr 2 (.t 29)), none⟩, ⟨some 31, (.load false 1 (.t 30)), none⟩, ⟨some 32, (.faddr 2 (.t 3)), none⟩, ⟨some 33, (.faddr 3 (.t 32)),
    none⟩, ⟨some 34, (.load false 1 (.t 33)), none⟩, ⟨some 35, (.faddr 2 (.t 3)), none⟩, ⟨some 36, (.faddr 4 (.t 35)), none⟩, ⟨some 37, (.load false 1 (.t 36)), none⟩, ⟨some 38,
    (.bslice [(.slice none 0 0)] 1 3 [(0, (.t 31)), (1, (.t 34)), (2, (.t 37))]), none⟩, ⟨some 39, (.lenS (.t 38)), none⟩, ⟨some 40, (.mv (.c (.int .i64 0))), none⟩]) (.block 2
    (.loop (.seq (.ops [⟨some 41, (.bin .lss 0 (.t 40) (.t 39)), none⟩]) (.seq (.cond (.t 41) .skip (.exit 2)) (.seq (.block 3 (.seq (.ops [⟨some 42, (.iaddrS 1 (.t 38) (.t 40)),
    none⟩, ⟨some 43, (.load false 1 (.t 42)), none⟩, ⟨some 8, (.mv (.t 43)), none⟩]) (.ops [⟨some 44, (.mv (.t 0)), none⟩, ⟨some 45, (.mv (.t 8)), none⟩, ⟨some 46, (.call (fnv 110)
    [(.t 44), (.t 45)]), none⟩, ⟨some 0, (.mv (.t 46)), none⟩]))) (.ops [⟨some 47, (.bin .add 0 (.t 40) (.c (.int .i64 1))), none⟩, ⟨some 40, (.mv (.t 47)), none⟩]))))))) (.seq (.ops
    [⟨some 48, (.mv (.t 0)), none⟩, ⟨some 4, (.mv (.t 48)), none⟩]) .ret)))), 49, [(.t 4)]⟩
theorem t113 : tidyF Try.prog 113 = some c113 := by kernel_rfl
noncomputable def c104 : TFn := ⟨(.seq (.ops [⟨some 3, (.box 7 (.t 1)), none⟩, ⟨some 4, (.mv (.c (.slice none 0 0))), none⟩]) (.seq (.draw [(⟨some 5, (.mv (.t 0)), none⟩, []), (⟨some 6, (.faddr 0 (.t 3)), none⟩,
    []), (⟨some 7, (.load false 1 (.t 6)), none⟩, []), (⟨some 8, (.call (fnv 118) [(.t 5), (.t 7)]), none⟩, []), (⟨some 9, (.faddr 1 (.t 3)), none⟩, []), (⟨some 10, (.load false 1
    (.t 9)), none⟩, [3]), (⟨some 11, (.call (fnv 118) [(.t 8), (.t 10)]), none⟩, []), (⟨some 12, (.faddr 2 (.t 3)), none⟩, []), (⟨some 13, (.faddr 0 (.t 12)), none⟩, []), (⟨some 14,
    (.load false 1 (.t 13)), none⟩, [6, 3]), (⟨some 15, (.call (fnv 118) [(.t 11), (.t 14)]), none⟩, []), (⟨some 16, (.faddr 2 (.t 3)), none⟩, []), (⟨some 17, (.faddr 1 (.t 16)),
    none⟩, []), (⟨some 18, (.load false 1 (.t 17)), none⟩, [10, 6, 3]), (⟨some 19, (.call (fnv 118) [(.t 15), (.t 18)]), none⟩, []), (⟨some 0, (.mv (.t 19)), none⟩, [])]) (.seq
    (.draw [(⟨some 20, (.mv (.t 0)), none⟩, []), (⟨some 21, (.faddr 2 (.t 3)), none⟩, []), (⟨some 22, (.faddr 2 (.t 21)), none⟩, []), (⟨some 23, (.load false 1 (.t 22)), none⟩, []),
    (⟨some 24, (.call (fnv 103) [(.t 20), (.t 23)]), none⟩, []), (⟨some 25, (.faddr 2 (.t 3)), none⟩, []), (⟨some 26, (.faddr 3 (.t 25)), none⟩, []), (⟨some 27, (.load false 1 (.t
    26)), none⟩, [4]), (⟨some 28, (.call (fnv 103) [(.t 24), (.t 27)]), none⟩, []), (⟨some 29, (.faddr 2 (.t 3)), none⟩, []), (⟨some 30, (.faddr 4 (.t 29)), none⟩, []), (⟨some 31,
    (.load false 1 (.t 30)), none⟩, [8, 4]), (⟨some 32, (.call (fnv 103) [(.t 28), (.t 31)]), none⟩, []), (⟨some 4, (.mv (.t 32)), none⟩, [])]) .ret))), 33, [(.t 4)]⟩
theorem t104 : tidyF Try.prog 104 = some c104 := by kernel_rfl
noncomputable def c157 : TFn := ⟨(.seq (.ops [⟨some 2, (.alloc [(.int .i64 0), (.int .i64 0), (.int .i64 0), (.int .i64 0), (.slice none 0 0), (.slice none 0 0), (.slice none 0 0)] 7), none⟩]) (.seq (.ops [⟨some
    4, (.mv (.t 0)), none⟩, ⟨some 5, (.call (fnv 154) [(.t 4), (.c (.int .i64 1073741824))]), none⟩, ⟨some 6, (.mv (.t 0)), none⟩, ⟨some 7, (.call (fnv 154) [(.t 6), (.c (.int .i64
    1073741824))]), none⟩, ⟨some 8, (.build [(.int .i64 0), (.int .i64 0), (.int .i64 0), (.int .i64 0), (.slice none 0 0), (.slice none 0 0), (.slice none 0 0)] [(0, (1, (.t 5))),
    (1, (1, (.t 7)))]), none⟩, ⟨some 3, (.alloc [(.int .i64 0), (.int .i64 0), (.int .i64 0), (.int .i64 0), (.slice none 0 0), (.slice none 0 0), (.slice none 0 0)] 7), none⟩,
    ⟨none, (.store 7 (.t 3) (.t 8)), none⟩]) (.seq (.ops [⟨some 9, (.mv (.t 0)), none⟩, ⟨some 10, (.call (fnv 154) [(.t 9), (.c (.int .i64 1073741824))]), none⟩, ⟨some 11, (.mv (.t
    0)), none⟩, ⟨some 12, (.call (fnv 154) [(.t 11), (.c (.int .i64 1073741824))]), none⟩, ⟨some 13, (.faddr 2 (.t 3)), none⟩, ⟨some 14, (.faddr 0 (.t 13)), none⟩, ⟨none, (.store 1
    (.t 14) (.t 10)), none⟩, ⟨some 15, (.faddr 2 (.t 3)), none⟩, ⟨some 16, (.faddr 1 (.t 15)), none⟩, ⟨none, (.store 1 (.t 16) (.t 12)), none⟩]) (.seq (.ops [⟨some 17, (.mv (.t 0)),
    none⟩, ⟨some 18, (.call (fnv 155) [(.t 17), (.c (.int .i64 32))]), none⟩, ⟨some 19, (.mv (.t 0)), none⟩, ⟨some 20, (.call (fnv 155) [(.t 19), (.c (.int .i64 32))]), none⟩, ⟨some
    21, (.mv (.t 0)), none⟩, ⟨some 22, (.call (fnv 155) [(.t 21), (.c (.int .i64 32))]), none⟩, ⟨some 23, (.faddr 2 (.t 3)), none⟩, ⟨some 24, (.faddr 2 (.t 23)), none⟩, ⟨none,
    (.store 1 (.t 24) (.t 18)), none⟩, ⟨some 25, (.faddr 2 (.t 3)), none⟩, ⟨some 26, (.faddr 3 (.t 25)), none⟩, ⟨none, (.store 1 (.t 26) (.t 20)), none⟩, ⟨some 27, (.faddr 2 (.t 3)),
    none⟩, ⟨some 28, (.faddr 4 (.t 27)), none⟩, ⟨none, (.store 1 (.t 28) (.t 22)), none⟩]) (.seq (.seq (.ops [⟨some 29, (.mv (.t 0)), none⟩, ⟨some 30, (.call (fnv 174) [(.t 29)]),
    none⟩, ⟨some 31, (.un .not (.t 30)), none⟩]) (.cond (.t 31) (.seq (.ops [⟨some 32, (.build [(.int .i64 0), (.int .i64 0), (.int .i64 0), (.int .i64 0), (.slice none 0 0), (.slice
    none 0 0), (.slice none 0 0)] []), none⟩, ⟨none, (.store 7 (.t 2) (.t 32)), none⟩]) .ret) .skip)) (.seq (.ops [⟨some 33, (.load true 7 (.t 3)), none⟩, ⟨none, (.store 7 (.t 2) (.t
    33)), none⟩]) .ret)))))), 34, [(.cell 2 true 7)]⟩
theorem t157 : tidyF Try.prog 157 = some c157 := by kernel_rfl
noncomputable def c108 : TFn := ⟨(.seq (.ops [⟨some 2, (.alloc [(.int .i64 0), (.int .i64 0), (.int .i64 0), (.int .i64 0), (.slice none 0 0), (.slice none 0 0), (.slice none 0 0)] 7), none⟩]) (.seq (.ops [⟨some
    4, (.mv (.t 0)), none⟩, ⟨some 5, (.call (fnv 105) [(.t 4), (.c (.int .i64 1073741824))]), none⟩, ⟨some 6, (.mv (.t 0)), none⟩, ⟨some 7, (.call (fnv 105) [(.t 6), (.c (.int .i64
    1073741824))]), none⟩, ⟨some 8, (.build [(.int .i64 0), (.int .i64 0), (.int .i64 0), (.int .i64 0), (.slice none 0 0), (.slice none 0 0), (.slice none 0 0)] [(0, (1, (.t 5))),
    (1, (1, (.t 7)))]), none⟩, ⟨some 3, (.alloc [(.int .i64 0), (.int .i64 0), (.int .i64 0), (.int .i64 0), (.slice none 0 0), (.slice none 0 0), (.slice none 0 0)] 7), none⟩,
    ⟨none, (.store 7 (.t 3) (.t 8)), none⟩]) (.seq (.ops [⟨some 9, (.mv (.t 0)), none⟩, ⟨some 10, (.call (fnv 105) [(.t 9), (.c (.int .i64 1073741824))]), none⟩, ⟨some 11, (.mv (.t
    0)), none⟩, ⟨some 12, (.call (fnv 105) [(.t 11), (.c (.int .i64 1073741824))]), none⟩, ⟨some 13, (.faddr 2 (.t 3)), none⟩, ⟨some 14, (.faddr 0 (.t 13)), none⟩, ⟨none, (.store 1
    (.t 14) (.t 10)), none⟩, ⟨some 15, (.faddr 2 (.t 3)), none⟩, ⟨some 16, (.faddr 1 (.t 15)), none⟩, ⟨none, (.store 1 (.t 16) (.t 12)), none⟩]) (.seq (.ops [⟨some 17, (.mv (.t 0)),
    none⟩, ⟨some 18, (.call (fnv 106) [(.t 17), (.c (.int .i64 32))]), none⟩, ⟨some 19, (.mv (.t 0)), none⟩, ⟨some 20, (.call (fnv 106) [(.t 19), (.c (.int .i64 32))]), none⟩, ⟨some
    21, (.mv (.t 0)), none⟩, ⟨some 22, (.call (fnv 106) [(.t 21), (.c (.int .i64 32))]), none⟩, ⟨some 23, (.faddr 2 (.t 3)), none⟩, ⟨some 24, (.faddr 2 (.t 23)), none⟩, ⟨none,
    (.store 1 (.t 24) (.t 18)), none⟩, ⟨some 25, (.faddr 2 (.t 3)), none⟩, ⟨some 26, (.faddr 3 (.t 25)), none⟩, ⟨none, (.store 1 (.t 26) (.t 20)), none⟩, ⟨some 27, (.faddr 2 (.t 3)),
    none⟩, ⟨some 28, (.faddr 4 (.t 27)), none⟩, ⟨none, (.store 1 (.t 28) (.t 22)), none⟩]) (.seq (.seq (.ops [⟨some 29, (.mv (.t 0)), none⟩, ⟨some 30, (.nilc (.t 29)), none⟩, ⟨some
    31, (.faddr 1 (.t 30)), none⟩, ⟨some 32, (.load false 1 (.t 31)), none⟩]) (.cond (.t 32) (.seq (.ops [⟨some 33, (.build [(.int .i64 0), (.int .i64 0), (.int .i64 0), (.int .i64
    0), (.slice none 0 0), (.slice none 0 0), (.slice none 0 0)] []), none⟩, ⟨none, (.store 7 (.t 2) (.t 33)), none⟩]) .ret) .skip)) (.seq (.ops [⟨some 34, (.load true 7 (.t 3)),
    none⟩, ⟨none, (.store 7 (.t 2) (.t 34)), none⟩]) .ret)))))), 35, [(.cell 2 true 7)]⟩
theorem t108 : tidyF Try.prog 108 = some c108 := by kernel_rfl
noncomputable def c177 : TFn := ⟨(.seq (.ops [⟨some 2, (.box 7 (.t 0)), none⟩, ⟨some 3, (.box 7 (.t 1)), none⟩, ⟨some 4, (.mv (.c (.bool false))), none⟩]) (.seq (.draw [(⟨some 7, (.faddr 2 (.t 2)), none⟩, []),
    (⟨some 8, (.load true 5 (.t 7)), none⟩, []), (⟨some 9, (.faddr 2 (.t 3)), none⟩, []), (⟨some 10, (.load true 5 (.t 9)), none⟩, []), (⟨some 5, (.alloc [(.int .i64 0), (.int .i64
    0), (.slice none 0 0), (.slice none 0 0), (.slice none 0 0)] 5), none⟩, []), (⟨some 6, (.alloc [(.int .i64 0), (.int .i64 0), (.slice none 0 0), (.slice none 0 0), (.slice none 0
    0)] 5), none⟩, []), (⟨none, (.store 5 (.t 5) (.t 8)), none⟩, [3]), (⟨none, (.store 5 (.t 6) (.t 10)), none⟩, [])]) (.seq (.ops [⟨some 11, (.faddr 0 (.t 2)), none⟩, ⟨some 12,
    (.load false 1 (.t 11)), none⟩, ⟨some 13, (.faddr 0 (.t 3)), none⟩, ⟨some 14, (.load false 1 (.t 13)), none⟩, ⟨some 15, (.bin .eql 0 (.t 12) (.t 14)), none⟩, ⟨some 16, (.mv (.t
    15)), none⟩, ⟨some 17, (.faddr 1 (.t 2)), some (16, true)⟩, ⟨some 18, (.load false 1 (.t 17)), some (16, true)⟩, ⟨some 19, (.faddr 1 (.t 3)), some (16, true)⟩, ⟨some 20, (.load
    false 1 (.t 19)), some (16, true)⟩, ⟨some 21, (.bin .eql 0 (.t 18) (.t 20)), some (16, true)⟩, ⟨some 22, (.pick (.t 16) (.t 21) (.c (.bool false))), none⟩, ⟨some 23, (.mv (.t
    22)), none⟩, ⟨some 24, (.faddr 0 (.t 5)), some (23, true)⟩, ⟨some 25, (.load false 1 (.t 24)), some (23, true)⟩, ⟨some 26, (.faddr 0 (.t 6)), some (23, true)⟩, ⟨some 27, (.load
    false 1 (.t 26)), some (23, true)⟩, ⟨some 28, (.bin .eql 0 (.t 25) (.t 27)), some (23, true)⟩, ⟨some 29, (.pick (.t 23) (.t 28) (.c (.bool false))), none⟩, ⟨some 30, (.mv (.t
    29)), none⟩, ⟨some 31, (.faddr 1 (.t 5)), some (30, true)⟩, ⟨some 32, (.load false 1 (.t 31)), some (30, true)⟩, ⟨some 33, (.faddr 1 (.t 6)), some (30, true)⟩, ⟨some 34, (.load
    false 1 (.t 33)), some (30, true)⟩, ⟨some 35, (.bin .eql 0 (.t 32) (.t 34)), some (30, true)⟩, ⟨some 36, (.pick (.t 30) (.t 35) (.c (.bool false))), none⟩, ⟨some 37, (.mv (.t
    36)), none⟩, ⟨some 38, (.faddr 2 (.t 5)), some (37, true)⟩, ⟨some 39, (.load false 1 (.t 38)), some (37, true)⟩, ⟨some 40, (.faddr 2 (.t 6)), some (37, true)⟩, ⟨some 41, (.load
    false 1 (.t 40)), some (37, true)⟩, ⟨some 42, (.call (fnv 175) [(.t 39), (.t 41)]), some (37, true)⟩, ⟨some 43, (.pick (.t 37) (.t 42) (.c (.bool false))), none⟩, ⟨some 44, (.mv
    (.t 43)), none⟩, ⟨some 45, (.faddr 3 (.t 5)), some (44, true)⟩, ⟨some 46, (.load false 1 (.t 45)), some (44, true)⟩, ⟨some 47, (.faddr 3 (.t 6)), some (44, true)⟩, ⟨some 48,
    (.load false 1 (.t 47)), some (44, true)⟩, ⟨some 49, (.call (fnv 175) [(.t 46), (.t 48)]), some (44, true)⟩, ⟨some 50, (.pick (.t 44) (.t 49) (.c (.bool false))), none⟩, ⟨some
    51, (.mv (.t 50)), none⟩, ⟨some 52, (.faddr 4 (.t 5)), some (51, true)⟩, ⟨some 53, (.load false 1 (.t 52)), some (51, true)⟩, ⟨some 54, (.faddr 4 (.t 6)), some (51, true)⟩, ⟨some
    55, (.load false 1 (.t 54)), some (51, true)⟩, ⟨some 56, (.call (fnv 175) [(.t 53), (.t 55)]), some (51, true)⟩, ⟨some 57, (.pick (.t 51) (.t 56) (.c (.bool false))), none⟩,
    ⟨some 4, (.mv (.t 57)), none⟩]) .ret))), 58, [(.t 4)]⟩
theorem t177 : tidyF Try.prog 177 = some c177 := by kernel_rfl
noncomputable def c28 : TFn := ⟨(.seq (.ops [⟨some 2, (.box 7 (.t 0)), none⟩, ⟨some 3, (.box 7 (.t 1)), none⟩, ⟨some 4, (.mv (.c (.bool false))), none⟩]) (.seq (.ops [⟨some 5, (.faddr 0 (.t 2)), none⟩, ⟨some 6,
    (.load false 1 (.t 5)), none⟩, ⟨some 7, (.faddr 0 (.t 3)), none⟩, ⟨some 8, (.load false 1 (.t 7)), none⟩, ⟨some 9, (.bin .eql 0 (.t 6) (.t 8)), none⟩, ⟨some 10, (.mv (.t 9)),
    none⟩, ⟨some 11, (.faddr 1 (.t 2)), some (10, true)⟩, ⟨some 12, (.load false 1 (.t 11)), some (10, true)⟩, ⟨some 13, (.faddr 1 (.t 3)), some (10, true)⟩, ⟨some 14, (.load false 1
    (.t 13)), some (10, true)⟩, ⟨some 15, (.bin .eql 0 (.t 12) (.t 14)), some (10, true)⟩, ⟨some 16, (.pick (.t 10) (.t 15) (.c (.bool false))), none⟩, ⟨some 17, (.mv (.t 16)),
    none⟩, ⟨some 18, (.faddr 2 (.t 2)), some (17, true)⟩, ⟨some 19, (.faddr 0 (.t 18)), some (17, true)⟩, ⟨some 20, (.load false 1 (.t 19)), some (17, true)⟩, ⟨some 21, (.faddr 2 (.t
    3)), some (17, true)⟩, ⟨some 22, (.faddr 0 (.t 21)), some (17, true)⟩, ⟨some 23, (.load false 1 (.t 22)), some (17, true)⟩, ⟨some 24, (.bin .eql 0 (.t 20) (.t 23)), some (17,
    true)⟩, ⟨some 25, (.pick (.t 17) (.t 24) (.c (.bool false))), none⟩, ⟨some 26, (.mv (.t 25)), none⟩, ⟨some 27, (.faddr 2 (.t 2)), some (26, true)⟩, ⟨some 28, (.faddr 1 (.t 27)),
    some (26, true)⟩, ⟨some 29, (.load false 1 (.t 28)), some (26, true)⟩, ⟨some 30, (.faddr 2 (.t 3)), some (26, true)⟩, ⟨some 31, (.faddr 1 (.t 30)), some (26, true)⟩, ⟨some 32,
    (.load false 1 (.t 31)), some (26, true)⟩, ⟨some 33, (.bin .eql 0 (.t 29) (.t 32)), some (26, true)⟩, ⟨some 34, (.pick (.t 26) (.t 33) (.c (.bool false))), none⟩, ⟨some 35, (.mv
    (.t 34)), none⟩, ⟨some 36, (.faddr 2 (.t 2)), some (35, true)⟩, ⟨some 37, (.faddr 2 (.t 36)), some (35, true)⟩, ⟨some 38, (.load false 1 (.t 37)), some (35, true)⟩, ⟨some 39,
    (.b2t (.t 38)), some (35, true)⟩, ⟨some 40, (.faddr 2 (.t 3)), some (35, true)⟩, ⟨some 41, (.faddr 2 (.t 40)), some (35, true)⟩, ⟨some 42, (.load false 1 (.t 41)), some (35,
    true)⟩, ⟨some 43, (.b2t (.t 42)), some (35, true)⟩, ⟨some 44, (.bin .eql 0 (.t 39) (.t 43)), some (35, true)⟩, ⟨some 45, (.pick (.t 35) (.t 44) (.c (.bool false))), none⟩, ⟨some
    46, (.mv (.t 45)), none⟩, ⟨some 47, (.faddr 2 (.t 2)), some (46, true)⟩, ⟨some 48, (.faddr 3 (.t 47)), some (46, true)⟩, ⟨some 49, (.load false 1 (.t 48)), some (46, true)⟩,
    ⟨some 50, (.b2t (.t 49)), some (46, true)⟩, ⟨some 51, (.faddr 2 (.t 3)), some (46, true)⟩, ⟨some 52, (.faddr 3 (.t 51)), some (46, true)⟩, ⟨some 53, (.load false 1 (.t 52)), some
    (46, true)⟩, ⟨some 54, (.b2t (.t 53)), some (46, true)⟩, ⟨some 55, (.bin .eql 0 (.t 50) (.t 54)), some (46, true)⟩, ⟨some 56, (.pick (.t 46) (.t 55) (.c (.bool false))), none⟩,
    ⟨some 57, (.mv (.t 56)), none⟩, ⟨some 58, (.faddr 2 (.t 2)), some (57, true)⟩, ⟨some 59, (.faddr 4 (.t 58)), some (57, true)⟩, ⟨some 60, (.load false 1 (.t 59)), some (57,
    true)⟩, ⟨some 61, (.b2t (.t 60)), some (57, true)⟩, ⟨some 62, (.faddr 2 (.t 3)), some (57, true)⟩, ⟨some 63, (.faddr 4 (.t 62)), some (57, true)⟩, ⟨some 64, (.load false 1 (.t
    63)), some (57, true)⟩, ⟨some 65, (.b2t (.t 64)), some (57, true)⟩, ⟨some 66, (.bin .eql 0 (.t 61) (.t 65)), some (57, true)⟩, ⟨some 67, (.pick (.t 57) (.t 66) (.c (.bool
    false))), none⟩, ⟨some 4, (.mv (.t 67)), none⟩]) .ret)), 68, [(.t 4)]⟩
theorem t28 : tidyF Try.prog 28 = some c28 := by kernel_rfl
noncomputable def c88 : TFn := ⟨(.seq (.ops [⟨some 1, (.box 7 (.t 0)), none⟩, ⟨some 2, (.alloc [(.int .i64 0), (.int .i64 0), (.int .i64 0), (.int .i64 0), (.slice none 0 0), (.slice none 0 0), (.slice none 0
    0)] 7), none⟩]) (.seq (.draw [(⟨some 3, (.faddr 2 (.t 1)), none⟩, []), (⟨some 4, (.faddr 2 (.t 3)), none⟩, []), (⟨some 5, (.load false 1 (.t 4)), none⟩, []), (⟨some 6, (.call
    (fnv 121) [(.t 5)]), none⟩, []), (⟨some 7, (.faddr 2 (.t 1)), none⟩, []), (⟨some 8, (.faddr 3 (.t 7)), none⟩, []), (⟨some 9, (.load false 1 (.t 8)), none⟩, [3]), (⟨some 10,
    (.call (fnv 121) [(.t 9)]), none⟩, []), (⟨some 11, (.faddr 2 (.t 1)), none⟩, []), (⟨some 12, (.faddr 4 (.t 11)), none⟩, []), (⟨some 13, (.load false 1 (.t 12)), none⟩, [7, 3]),
    (⟨some 14, (.call (fnv 121) [(.t 13)]), none⟩, []), (⟨some 15, (.faddr 2 (.t 1)), none⟩, []), (⟨some 16, (.faddr 2 (.t 15)), none⟩, []), (⟨none, (.store 1 (.t 16) (.t 6)), none⟩,
    []), (⟨some 17, (.faddr 2 (.t 1)), none⟩, []), (⟨some 18, (.faddr 3 (.t 17)), none⟩, []), (⟨none, (.store 1 (.t 18) (.t 10)), none⟩, []), (⟨some 19, (.faddr 2 (.t 1)), none⟩,
    []), (⟨some 20, (.faddr 4 (.t 19)), none⟩, []), (⟨none, (.store 1 (.t 20) (.t 14)), none⟩, [])]) (.seq (.ops [⟨some 21, (.load true 7 (.t 1)), none⟩, ⟨none, (.store 7 (.t 2) (.t
    21)), none⟩]) .ret))), 22, [(.cell 2 true 7)]⟩
theorem t88 : tidyF Try.prog 88 = some c88 := by kernel_rfl
noncomputable def c99 : TFn := ⟨(.seq (.ops [⟨some 1, (.box 24 (.t 0)), none⟩, ⟨some 2, (.mv (.c (.slice none 0 0))), none⟩]) (.seq (.ops [⟨some 3, (.alloc [(.slice none 0 0)] 1), none⟩]) (.seq (.ops [⟨some 5,
    (.mkf (.func 150) [] [(.t 3)]), none⟩, ⟨some 4, (.mv (.t 5)), none⟩]) (.seq (.ops [⟨some 6, (.mv (.t 4)), none⟩, ⟨some 7, (.faddr 0 (.t 1)), none⟩, ⟨some 8, (.load false 1 (.t
    7)), none⟩, ⟨some 9, (.faddr 1 (.t 1)), none⟩, ⟨some 10, (.load false 1 (.t 9)), none⟩, ⟨some 11, (.faddr 2 (.t 1)), none⟩, ⟨some 12, (.load false 1 (.t 11)), none⟩, ⟨some 13,
    (.faddr 3 (.t 1)), none⟩, ⟨some 14, (.load false 1 (.t 13)), none⟩, ⟨some 15, (.bslice [(.int .i64 0)] 1 4 [(0, (.t 8)), (1, (.t 10)), (2, (.t 12)), (3, (.t 14))]), none⟩, ⟨some
    16, (.call (.t 6) [(.t 15)]), none⟩]) (.seq (.seq (.ops [⟨some 17, (.faddr 0 (.t 1)), none⟩, ⟨some 18, (.load false 1 (.t 17)), none⟩]) (.block 0 (.seq (.ops [⟨some 20, (.bin
    .eql 0 (.t 18) (.c (.int .i64 2))), none⟩, ⟨some 19, (.mv (.t 20)), none⟩]) (.cond (.t 19) (.draw [(⟨some 21, (.mv (.t 4)), none⟩, []), (⟨some 22, (.faddr 4 (.t 1)), none⟩, []),
    (⟨some 23, (.load false 1 (.t 22)), none⟩, []), (⟨some 24, (.faddr 5 (.t 1)), none⟩, []), (⟨some 25, (.load false 1 (.t 24)), none⟩, []), (⟨some 26, (.faddr 6 (.t 1)), none⟩,
    []), (⟨some 27, (.load false 1 (.t 26)), none⟩, []), (⟨some 28, (.call (fnv 151) [(.t 27)]), none⟩, [4, 2]), (⟨some 29, (.bslice [(.int .i64 0)] 1 3 [(0, (.t 23)), (1, (.t 25)),
    (2, (.t 28))]), none⟩, []), (⟨some 30, (.call (.t 21) [(.t 29)]), none⟩, [])]) (.seq (.ops [⟨some 32, (.bin .eql 0 (.t 18) (.c (.int .i64 3))), none⟩, ⟨some 31, (.mv (.t 32)),
    none⟩]) (.cond (.t 31) (.ops [⟨some 33, (.mv (.t 4)), none⟩, ⟨some 34, (.faddr 7 (.t 1)), none⟩, ⟨some 35, (.load false 1 (.t 34)), none⟩, ⟨some 36, (.faddr 8 (.t 1)), none⟩,
    ⟨some 37, (.load false 1 (.t 36)), none⟩, ⟨some 38, (.faddr 5 (.t 1)), none⟩, ⟨some 39, (.load false 1 (.t 38)), none⟩, ⟨some 40, (.bslice [(.int .i64 0)] 1 3 [(0, (.t 35)), (1,
    (.t 37)), (2, (.t 39))]), none⟩, ⟨some 41, (.call (.t 33) [(.t 40)]), none⟩]) (.seq (.ops [⟨some 43, (.bin .eql 0 (.t 18) (.c (.int .i64 4))), none⟩, ⟨some 42, (.mv (.t 43)),
    none⟩]) (.cond (.t 42) (.ops [⟨some 44, (.mv (.t 4)), none⟩, ⟨some 45, (.faddr 9 (.t 1)), none⟩, ⟨some 46, (.load false 1 (.t 45)), none⟩, ⟨some 47, (.bslice [(.int .i64 0)] 1 1
    [(0, (.t 46))]), none⟩, ⟨some 48, (.call (.t 44) [(.t 47)]), none⟩]) (.seq (.ops [⟨some 50, (.bin .eql 0 (.t 18) (.c (.int .i64 5))), none⟩, ⟨some 49, (.mv (.t 50)), none⟩])
    (.cond (.t 49) (.seq (.ops [⟨some 51, (.mv (.t 4)), none⟩, ⟨some 52, (.faddr 9 (.t 1)), none⟩, ⟨some 53, (.load false 1 (.t 52)), none⟩, ⟨some 54, (.faddr 10 (.t 1)), none⟩,
    ⟨some 55, (.load false 1 (.t 54)), none⟩, ⟨some 56, (.bslice [(.int .i64 0)] 1 2 [(0, (.t 53)), (1, (.t 55))]), none⟩, ⟨some 57, (.call (.t 51) [(.t 56)]), none⟩]) (.ops [⟨some
    58, (.load false 1 (.t 3)), none⟩, ⟨some 59, (.faddr 11 (.t 1)), none⟩, ⟨some 60, (.load false 1 (.t 59)), none⟩, ⟨some 61, (.call (fnv 110) [(.t 58), (.t 60)]), none⟩, ⟨none,
    (.store 1 (.t 3) (.t 61)), none⟩])) (.seq (.ops [⟨some 63, (.bin .eql 0 (.t 18) (.c (.int .i64 7))), none⟩, ⟨some 62, (.mv (.t 63)), none⟩]) (.cond (.t 62) (.seq (.ops [⟨some 64,
    (.mv (.t 4)), none⟩, ⟨some 65, (.faddr 12 (.t 1)), none⟩, ⟨some 66, (.load false 1 (.t 65)), none⟩, ⟨some 67, (.faddr 13 (.t 1)), none⟩, ⟨some 68, (.load false 1 (.t 67)), none⟩,
    ⟨some 69, (.bslice [(.int .i64 0)] 1 2 [(0, (.t 66)), (1, (.t 68))]), none⟩, ⟨some 70, (.call (.t 64) [(.t 69)]), none⟩]) (.draw [(⟨some 71, (.load false 1 (.t 3)), none⟩, []),
    (⟨some 72, (.faddr 14 (.t 1)), none⟩, []), (⟨some 73, (.load false 1 (.t 72)), none⟩, []), (⟨some 74, (.call (fnv 152) [(.t 71), (.t 73)]), none⟩, []), (⟨some 75, (.faddr 15 (.t
    1)), none⟩, []), (⟨some 76, (.load false 1 (.t 75)), none⟩, [3]), (⟨some 77, (.call (fnv 152) [(.t 74), (.t 76)]), none⟩, []), (⟨none, (.store 1 (.t 3) (.t 77)), none⟩, [])]))
    (.seq (.ops [⟨some 79, (.bin .eql 0 (.t 18) (.c (.int .i64 8))), none⟩, ⟨some 78, (.mv (.t 79)), none⟩]) (.cond (.t 78) (.seq (.ops [⟨some 80, (.mv (.t 4)), none⟩, ⟨some 81,
    (.faddr 16 (.t 1)), none⟩, ⟨some 82, (.load false 1 (.t 81)), none⟩, ⟨some 83, (.bslice [(.int .i64 0)] 1 1 [(0, (.t 82))]), none⟩, ⟨some 84, (.call (.t 80) [(.t 83)]), none⟩])
    (.ops [⟨some 85, (.load false 1 (.t 3)), none⟩, ⟨some 86, (.faddr 17 (.t 1)), none⟩, ⟨some 87, (.load true 7 (.t 86)), none⟩, ⟨some 88, (.call (fnv 113) [(.t 85), (.t 87)]),
    none⟩, ⟨none, (.store 1 (.t 3) (.t 88)), none⟩])) .skip)))))))))))))) (.seq (.ops [⟨some 89, (.load false 1 (.t 3)), none⟩, ⟨some 2, (.mv (.t 89)), none⟩]) .ret)))))), 90, [(.t
    2)]⟩
theorem t99 : tidyF Try.prog 99 = some c99 := by kernel_rfl
noncomputable def c150 : TFn := ⟨(.seq (.ops [⟨some 5, (.mv (.t 0)), none⟩, ⟨some 6, (.lenS (.t 5)), none⟩, ⟨some 7, (.mv (.c (.int .i64 0))), none⟩]) (.block 0 (.loop (.seq (.ops [⟨some 8, (.bin .lss 0 (.t 7)
    (.t 6)), none⟩]) (.seq (.cond (.t 8) .skip (.exit 0)) (.seq (.block 1 (.seq (.ops [⟨some 9, (.iaddrS 1 (.t 5) (.t 7)), none⟩, ⟨some 10, (.load false 1 (.t 9)), none⟩, ⟨some 4,
    (.mv (.t 10)), none⟩]) (.ops [⟨some 11, (.load false 1 (.t 1)), none⟩, ⟨some 12, (.mv (.t 4)), none⟩, ⟨some 13, (.call (fnv 111) [(.t 11), (.t 12)]), none⟩, ⟨none, (.store 1 (.t
    1) (.t 13)), none⟩]))) (.ops [⟨some 14, (.bin .add 0 (.t 7) (.c (.int .i64 1))), none⟩, ⟨some 7, (.mv (.t 14)), none⟩]))))))), 15, []⟩
theorem t150 : tidyF Try.prog 150 = some c150 := by kernel_rfl
noncomputable def c151 : TFn := ⟨(.seq (.ops [⟨some 2, (.mv (.c (.int .i64 0))), none⟩]) (.seq (.seq (.ops [⟨some 3, (.mv (.t 0)), none⟩]) (.cond (.t 3) (.seq (.ops [⟨some 2, (.mv (.c (.int .i64 1))), none⟩])
    .ret) .skip)) (.seq (.ops [⟨some 2, (.mv (.c (.int .i64 0))), none⟩]) .ret))), 4, [(.t 2)]⟩
theorem t151 : tidyF Try.prog 151 = some c151 := by kernel_rfl
noncomputable def c152 : TFn := ⟨(.seq (.ops [⟨some 4, (.mv (.c (.slice none 0 0))), none⟩]) (.seq (.ops [⟨some 7, (.mv (.t 0)), none⟩, ⟨some 8, (.mv (.t 1)), none⟩, ⟨some 9, (.lenS (.t 8)), none⟩, ⟨some 10,
    (.call (fnv 111) [(.t 7), (.t 9)]), none⟩, ⟨some 0, (.mv (.t 10)), none⟩]) (.seq (.seq (.ops [⟨some 11, (.mv (.t 1)), none⟩, ⟨some 12, (.lenS (.t 11)), none⟩, ⟨some 13, (.mv (.c
    (.int .i64 0))), none⟩]) (.block 0 (.loop (.seq (.ops [⟨some 14, (.bin .lss 0 (.t 13) (.t 12)), none⟩]) (.seq (.cond (.t 14) .skip (.exit 0)) (.seq (.block 1 (.seq (.ops [⟨some
    15, (.iaddrS 1 (.t 11) (.t 13)), none⟩, ⟨some 16, (.load false 1 (.t 15)), none⟩, ⟨some 6, (.mv (.t 16)), none⟩]) (.ops [⟨some 17, (.mv (.t 0)), none⟩, ⟨some 18, (.mv (.t 6)),
    none⟩, ⟨some 19, (.call (fnv 111) [(.t 17), (.t 18)]), none⟩, ⟨some 0, (.mv (.t 19)), none⟩]))) (.ops [⟨some 20, (.bin .add 0 (.t 13) (.c (.int .i64 1))), none⟩, ⟨some 13, (.mv
    (.t 20)), none⟩]))))))) (.seq (.ops [⟨some 21, (.mv (.t 0)), none⟩, ⟨some 4, (.mv (.t 21)), none⟩]) .ret)))), 22, [(.t 4)]⟩
theorem t152 : tidyF Try.prog 152 = some c152 := by kernel_rfl
noncomputable def c100 : TFn := ⟨(.seq (.ops [⟨some 2, (.alloc [(.int .i64 0), (.int .i64 0), (.int .i64 0), (.int .i64 0), (.int .i64 0), (.int .i64 0), (.bool false), (.int .i64 0), (.int .i64 0), (.int .i64
    0), (.int .i64 0), (.slice none 0 0), (.int .i64 0), (.int .i64 0), (.slice none 0 0), (.slice none 0 0), (.int .i64 0), (.int .i64 0), (.int .i64 0), (.int .i64 0), (.int .i64
    0), (.slice none 0 0), (.slice none 0 0), (.slice none 0 0)] 24), none⟩, ⟨some 3, (.mv (.c (.bool false))), none⟩]) (.seq (.ops [⟨some 6, (.mv (.t 0)), none⟩, ⟨some 7, (.call
    (fnv 153) [(.t 6)]), none⟩, ⟨some 4, (.mv (.t 7)), none⟩]) (.seq (.ops [⟨some 8, (.mv (.t 4)), none⟩, ⟨some 9, (.call (fnv 154) [(.t 8), (.c (.int .i64 8))]), none⟩, ⟨some 10,
    (.mv (.t 4)), none⟩, ⟨some 11, (.call (fnv 154) [(.t 10), (.c (.int .i64 6))]), none⟩, ⟨some 12, (.mv (.t 4)), none⟩, ⟨some 13, (.call (fnv 154) [(.t 12), (.c (.int .i64 6))]),
    none⟩, ⟨some 14, (.mv (.t 4)), none⟩, ⟨some 15, (.call (fnv 154) [(.t 14), (.c (.int .i64 1099511627776))]), none⟩, ⟨some 16, (.build [(.int .i64 0), (.int .i64 0), (.int .i64
    0), (.int .i64 0), (.int .i64 0), (.int .i64 0), (.bool false), (.int .i64 0), (.int .i64 0), (.int .i64 0), (.int .i64 0), (.slice none 0 0), (.int .i64 0), (.int .i64 0),
    (.slice none 0 0), (.slice none 0 0), (.int .i64 0), (.int .i64 0), (.int .i64 0), (.int .i64 0), (.int .i64 0), (.slice none 0 0), (.slice none 0 0), (.slice none 0 0)] [(0, (1,
    (.t 9))), (1, (1, (.t 11))), (2, (1, (.t 13))), (3, (1, (.t 15)))]), none⟩, ⟨some 5, (.alloc [(.int .i64 0), (.int .i64 0), (.int .i64 0), (.int .i64 0), (.int .i64 0), (.int
    .i64 0), (.bool false), (.int .i64 0), (.int .i64 0), (.int .i64 0), (.int .i64 0), (.slice none 0 0), (.int .i64 0), (.int .i64 0), (.slice none 0 0), (.slice none 0 0), (.int
    .i64 0), (.int .i64 0), (.int .i64 0), (.int .i64 0), (.int .i64 0), (.slice none 0 0), (.slice none 0 0), (.slice none 0 0)] 24), none⟩, ⟨none, (.store 24 (.t 5) (.t 16)),
    none⟩]) (.seq (.seq (.ops [⟨some 17, (.faddr 0 (.t 5)), none⟩, ⟨some 18, (.load false 1 (.t 17)), none⟩]) (.block 0 (.seq (.seq (.ops [⟨some 21, (.bin .eql 0 (.t 18) (.c (.int
    .i64 1))), none⟩, ⟨some 20, (.mv (.t 21)), none⟩]) (.cond (.t 20) .skip (.ops [⟨some 22, (.bin .eql 0 (.t 18) (.c (.int .i64 6))), none⟩, ⟨some 20, (.mv (.t 22)), none⟩])))
    (.cond (.t 20) .skip (.seq (.ops [⟨some 24, (.bin .eql 0 (.t 18) (.c (.int .i64 2))), none⟩, ⟨some 23, (.mv (.t 24)), none⟩]) (.cond (.t 23) (.ops [⟨some 25, (.mv (.t 4)), none⟩,
    ⟨some 26, (.call (fnv 154) [(.t 25), (.c (.int .i64 1099511627776))]), none⟩, ⟨some 27, (.mv (.t 4)), none⟩, ⟨some 28, (.call (fnv 154) [(.t 27), (.c (.int .i64
    1099511627776))]), none⟩, ⟨some 29, (.mv (.t 4)), none⟩, ⟨some 30, (.call (fnv 154) [(.t 29), (.c (.int .i64 1))]), none⟩, ⟨some 31, (.bin .eql 0 (.t 30) (.c (.int .i64 1))),
    none⟩, ⟨some 32, (.faddr 4 (.t 5)), none⟩, ⟨none, (.store 1 (.t 32) (.t 26)), none⟩, ⟨some 33, (.faddr 5 (.t 5)), none⟩, ⟨none, (.store 1 (.t 33) (.t 28)), none⟩, ⟨some 34,
    (.faddr 6 (.t 5)), none⟩, ⟨none, (.store 1 (.t 34) (.t 31)), none⟩]) (.seq (.ops [⟨some 36, (.bin .eql 0 (.t 18) (.c (.int .i64 3))), none⟩, ⟨some 35, (.mv (.t 36)), none⟩])
    (.cond (.t 35) (.ops [⟨some 37, (.mv (.t 4)), none⟩, ⟨some 38, (.call (fnv 154) [(.t 37), (.c (.int .i64 127))]), none⟩, ⟨some 39, (.mv (.t 4)), none⟩, ⟨some 40, (.call (fnv 154)
    [(.t 39), (.c (.int .i64 6))]), none⟩, ⟨some 41, (.mv (.t 4)), none⟩, ⟨some 42, (.call (fnv 154) [(.t 41), (.c (.int .i64 1099511627776))]), none⟩, ⟨some 43, (.faddr 7 (.t 5)),
    none⟩, ⟨none, (.store 1 (.t 43) (.t 38)), none⟩, ⟨some 44, (.faddr 8 (.t 5)), none⟩, ⟨none, (.store 1 (.t 44) (.t 40)), none⟩, ⟨some 45, (.faddr 5 (.t 5)), none⟩, ⟨none, (.store
    1 (.t 45) (.t 42)), none⟩]) (.seq (.ops [⟨some 47, (.bin .eql 0 (.t 18) (.c (.int .i64 4))), none⟩, ⟨some 46, (.mv (.t 47)), none⟩]) (.cond (.t 46) (.ops [⟨some 48, (.mv (.t 4)),
    none⟩, ⟨some 49, (.call (fnv 154) [(.t 48), (.c (.int .i64 1099511627776))]), none⟩, ⟨some 50, (.faddr 9 (.t 5)), none⟩, ⟨none, (.store 1 (.t 50) (.t 49)), none⟩]) (.seq (.ops
    [⟨some 52, (.bin .eql 0 (.t 18) (.c (.int .i64 5))), none⟩, ⟨some 51, (.mv (.t 52)), none⟩]) (.cond (.t 51) (.ops [⟨some 53, (.mv (.t 4)), none⟩, ⟨some 54, (.call (fnv 154) [(.t
    53), (.c (.int .i64 1099511627776))]), none⟩, ⟨some 55, (.mv (.t 4)), none⟩, ⟨some 56, (.call (fnv 154) [(.t 55), (.c (.int .i64 1099511627776))]), none⟩, ⟨some 57, (.mv (.t 4)),
    none⟩, ⟨some 58, (.call (fnv 155) [(.t 57), (.c (.int .i64 64))]), none⟩, ⟨some 59, (.faddr 9 (.t 5)), none⟩, ⟨none, (.store 1 (.t 59) (.t 54)), none⟩, ⟨some 60, (.faddr 10 (.t
    5)), none⟩, ⟨none, (.store 1 (.t 60) (.t 56)), none⟩, ⟨some 61, (.faddr 11 (.t 5)), none⟩, ⟨none, (.store 1 (.t 61) (.t 58)), none⟩]) (.seq (.ops [⟨some 63, (.bin .eql 0 (.t 18)
    (.c (.int .i64 7))), none⟩, ⟨some 62, (.mv (.t 63)), none⟩]) (.cond (.t 62) (.seq (.ops [⟨some 64, (.mv (.t 4)), none⟩, ⟨some 65, (.call (fnv 154) [(.t 64), (.c (.int .i64
    1099511627776))]), none⟩, ⟨some 66, (.mv (.t 4)), none⟩, ⟨some 67, (.call (fnv 154) [(.t 66), (.c (.int .i64 1099511627776))]), none⟩, ⟨some 68, (.faddr 12 (.t 5)), none⟩, ⟨none,
    (.store 1 (.t 68) (.t 65)), none⟩, ⟨some 69, (.faddr 13 (.t 5)), none⟩, ⟨none, (.store 1 (.t 69) (.t 67)), none⟩]) (.ops [⟨some 70, (.mv (.t 4)), none⟩, ⟨some 71, (.call (fnv
    156) [(.t 70), (.c (.int .i64 7))]), none⟩, ⟨some 72, (.mv (.t 4)), none⟩, ⟨some 73, (.call (fnv 156) [(.t 72), (.c (.int .i64 8))]), none⟩, ⟨some 74, (.faddr 14 (.t 5)), none⟩,
    ⟨none, (.store 1 (.t 74) (.t 71)), none⟩, ⟨some 75, (.faddr 15 (.t 5)), none⟩, ⟨none, (.store 1 (.t 75) (.t 73)), none⟩])) (.seq (.ops [⟨some 77, (.bin .eql 0 (.t 18) (.c (.int
    .i64 8))), none⟩, ⟨some 76, (.mv (.t 77)), none⟩]) (.cond (.t 76) (.ops [⟨some 78, (.mv (.t 4)), none⟩, ⟨some 79, (.call (fnv 154) [(.t 78), (.c (.int .i64 1099511627776))]),
    none⟩, ⟨some 80, (.mv (.t 4)), none⟩, ⟨some 81, (.call (fnv 157) [(.t 80)]), none⟩, ⟨some 82, (.faddr 16 (.t 5)), none⟩, ⟨none, (.store 1 (.t 82) (.t 79)), none⟩, ⟨some 83,
    (.faddr 17 (.t 5)), none⟩, ⟨none, (.store 7 (.t 83) (.t 81)), none⟩]) (.seq (.ops [⟨some 19, (.build [(.int .i64 0), (.int .i64 0), (.int .i64 0), (.int .i64 0), (.int .i64 0),
    (.int .i64 0), (.bool false), (.int .i64 0), (.int .i64 0), (.int .i64 0), (.int .i64 0), (.slice none 0 0), (.int .i64 0), (.int .i64 0), (.slice none 0 0), (.slice none 0 0),
    (.int .i64 0), (.int .i64 0), (.int .i64 0), (.int .i64 0), (.int .i64 0), (.slice none 0 0), (.slice none 0 0), (.slice none 0 0)] []), none⟩, ⟨none, (.store 24 (.t 2) (.t 19)),
    none⟩, ⟨some 3, (.mv (.c (.bool false))), none⟩]) .ret))))))))))))))))) (.seq (.draw [(⟨some 84, (.load true 24 (.t 5)), none⟩, []), (⟨some 85, (.mv (.t 4)), none⟩, []), (⟨some
    86, (.call (fnv 158) [(.t 85)]), none⟩, [0]), (⟨none, (.store 24 (.t 2) (.t 84)), none⟩, []), (⟨some 3, (.mv (.t 86)), none⟩, [])]) .ret))))), 87, [(.cell 2 true 24), (.t 3)]⟩
theorem t100 : tidyF Try.prog 100 = some c100 := by kernel_rfl
noncomputable def c156 : TFn := ⟨(.seq (.ops [⟨some 4, (.mv (.c (.slice none 0 0))), none⟩]) (.seq (.ops [⟨some 5, (.mv (.c (.slice none 0 0))), none⟩]) (.seq (.seq (.ops [⟨some 6, (.mv (.t 0)), none⟩, ⟨some 7,
    (.mv (.t 1)), none⟩, ⟨some 8, (.call (fnv 154) [(.t 6), (.t 7)]), none⟩, ⟨some 9, (.mv (.c (.int .i64 0))), none⟩]) (.block 0 (.loop (.seq (.ops [⟨some 10, (.bin .lss 0 (.t 9)
    (.t 8)), none⟩]) (.seq (.cond (.t 10) .skip (.exit 0)) (.seq (.block 1 (.ops [⟨some 11, (.mv (.t 5)), none⟩, ⟨some 12, (.mv (.t 0)), none⟩, ⟨some 13, (.call (fnv 154) [(.t 12),
    (.c (.int .i64 1099511627776))]), none⟩, ⟨some 14, (.bslice [(.int .i64 0)] 1 1 [(0, (.t 13))]), none⟩, ⟨some 15, (.append 1 8 (.t 11) (.t 14)), none⟩, ⟨some 5, (.mv (.t 15)),
    none⟩])) (.ops [⟨some 16, (.bin .add 0 (.t 9) (.c (.int .i64 1))), none⟩, ⟨some 9, (.mv (.t 16)), none⟩]))))))) (.seq (.ops [⟨some 17, (.mv (.t 5)), none⟩, ⟨some 4, (.mv (.t
    17)), none⟩]) .ret)))), 18, [(.t 4)]⟩
theorem t156 : tidyF Try.prog 156 = some c156 := by kernel_rfl
noncomputable def c50 : TFn := ⟨(.seq (.ops [⟨some 1, (.box 24 (.t 0)), none⟩, ⟨some 2, (.mv (.c (.slice none 0 0))), none⟩]) (.seq (.seq (.ops [⟨some 6, (.load true 24 (.t 1)), none⟩, ⟨some 7, (.call (fnv 98)
    [(.t 6)]), none⟩]) (.cond (.t 7) (.seq (.ops [⟨some 2, (.mv (.c (.slice none 0 0))), none⟩]) .ret) .skip)) (.seq (.ops [⟨some 8, (.load true 24 (.t 1)), none⟩, ⟨some 9, (.call
    (fnv 99) [(.t 8)]), none⟩, ⟨some 3, (.mv (.t 9)), none⟩]) (.seq (.seq (.ops [⟨some 11, (.mv (.t 3)), none⟩, ⟨some 12, (.call (fnv 100) [(.t 11)]), none⟩, ⟨some 10, (.mv (.t 12)),
    none⟩, ⟨some 13, (.ext (.t 10) 0), none⟩, ⟨some 14, (.ext (.t 10) 1), none⟩, ⟨some 4, (.alloc [(.int .i64 0), (.int .i64 0), (.int .i64 0), (.int .i64 0), (.int .i64 0), (.int
    .i64 0), (.bool false), (.int .i64 0), (.int .i64 0), (.int .i64 0), (.int .i64 0), (.slice none 0 0), (.int .i64 0), (.int .i64 0), (.slice none 0 0), (.slice none 0 0), (.int
    .i64 0), (.int .i64 0), (.int .i64 0), (.int .i64 0), (.int .i64 0), (.slice none 0 0), (.slice none 0 0), (.slice none 0 0)] 24), none⟩, ⟨none, (.store 24 (.t 4) (.t 13)),
    none⟩, ⟨some 5, (.mv (.t 14)), none⟩]) (.seq (.ops [⟨some 15, (.mv (.t 5)), none⟩, ⟨some 16, (.un .not (.t 15)), none⟩, ⟨some 17, (.mv (.t 16)), none⟩, ⟨some 18, (.load true 24
    (.t 4)), some (17, false)⟩, ⟨some 19, (.load true 24 (.t 1)), some (17, false)⟩, ⟨some 20, (.call (fnv 101) [(.t 18), (.t 19)]), some (17, false)⟩, ⟨some 21, (.un .not (.t 20)),
    some (17, false)⟩, ⟨some 22, (.pick (.t 17) (.c (.bool true)) (.t 21)), none⟩]) (.cond (.t 22) (.seq (.ops [⟨some 2, (.mv (.c (.slice none 0 0))), none⟩]) .ret) .skip))) (.seq
    (.ops [⟨some 23, (.mv (.t 3)), none⟩, ⟨some 2, (.mv (.t 23)), none⟩]) .ret))))), 24, [(.t 2)]⟩
theorem t50 : tidyF Try.prog 50 = some c50 := by kernel_rfl
noncomputable def c98 : TFn := ⟨(.seq (.ops [⟨some 1, (.box 24 (.t 0)), none⟩, ⟨some 2, (.mv (.c (.bool false))), none⟩]) (.seq (.ops [⟨some 3, (.faddr 14 (.t 1)), none⟩, ⟨some 4, (.load false 1 (.t 3)), none⟩,
    ⟨some 5, (.lenS (.t 4)), none⟩, ⟨some 6, (.bin .gtr 0 (.t 5) (.c (.int .i64 7))), none⟩, ⟨some 7, (.mv (.t 6)), none⟩, ⟨some 8, (.faddr 0 (.t 1)), some (7, true)⟩, ⟨some 9,
    (.load false 1 (.t 8)), some (7, true)⟩, ⟨some 10, (.bin .eql 0 (.t 9) (.c (.int .i64 7))), some (7, true)⟩, ⟨some 11, (.pick (.t 7) (.t 10) (.c (.bool false))), none⟩, ⟨some 12,
    (.mv (.t 11)), none⟩, ⟨some 13, (.faddr 15 (.t 1)), some (12, false)⟩, ⟨some 14, (.load false 1 (.t 13)), some (12, false)⟩, ⟨some 15, (.lenS (.t 14)), some (12, false)⟩, ⟨some
    16, (.bin .gtr 0 (.t 15) (.c (.int .i64 8))), some (12, false)⟩, ⟨some 17, (.mv (.t 16)), some (12, false)⟩, ⟨some 18, (.faddr 0 (.t 1)), some (17, true)⟩, ⟨some 19, (.load false
    1 (.t 18)), some (17, true)⟩, ⟨some 20, (.bin .eql 0 (.t 19) (.c (.int .i64 7))), some (17, true)⟩, ⟨some 21, (.pick (.t 17) (.t 20) (.c (.bool false))), some (12, false)⟩, ⟨some
    22, (.pick (.t 12) (.c (.bool true)) (.t 21)), none⟩, ⟨some 23, (.mv (.t 22)), none⟩, ⟨some 24, (.faddr 11 (.t 1)), some (23, false)⟩, ⟨some 25, (.load false 1 (.t 24)), some
    (23, false)⟩, ⟨some 26, (.lenS (.t 25)), some (23, false)⟩, ⟨some 27, (.bin .gtr 0 (.t 26) (.c (.int .i64 64))), some (23, false)⟩, ⟨some 28, (.mv (.t 27)), some (23, false)⟩,
    ⟨some 29, (.faddr 0 (.t 1)), some (28, true)⟩, ⟨some 30, (.load false 1 (.t 29)), some (28, true)⟩, ⟨some 31, (.bin .eql 0 (.t 30) (.c (.int .i64 5))), some (28, true)⟩, ⟨some
    32, (.pick (.t 28) (.t 31) (.c (.bool false))), some (23, false)⟩, ⟨some 33, (.pick (.t 23) (.c (.bool true)) (.t 32)), none⟩, ⟨some 2, (.mv (.t 33)), none⟩]) .ret)), 34, [(.t
    2)]⟩
theorem t98 : tidyF Try.prog 98 = some c98 := by kernel_rfl
noncomputable def c51 : TFn := ⟨(.seq (.ops [⟨some 2, (.alloc [(.int .i64 0), (.int .i64 0), (.int .i64 0), (.int .i64 0), (.int .i64 0), (.int .i64 0), (.bool false), (.int .i64 0), (.int .i64 0), (.int .i64
    0), (.int .i64 0), (.slice none 0 0), (.int .i64 0), (.int .i64 0), (.slice none 0 0), (.slice none 0 0), (.int .i64 0), (.int .i64 0), (.int .i64 0), (.int .i64 0), (.int .i64
    0), (.slice none 0 0), (.slice none 0 0), (.slice none 0 0)] 24), none⟩, ⟨some 3, (.mv (.c (.bool false))), none⟩]) (.seq (.ops [⟨some 7, (.mv (.t 0)), none⟩, ⟨some 8, (.call
    (fnv 100) [(.t 7)]), none⟩, ⟨some 6, (.mv (.t 8)), none⟩, ⟨some 9, (.ext (.t 6) 0), none⟩, ⟨some 10, (.ext (.t 6) 1), none⟩, ⟨some 4, (.alloc [(.int .i64 0), (.int .i64 0), (.int
    .i64 0), (.int .i64 0), (.int .i64 0), (.int .i64 0), (.bool false), (.int .i64 0), (.int .i64 0), (.int .i64 0), (.int .i64 0), (.slice none 0 0), (.int .i64 0), (.int .i64 0),
    (.slice none 0 0), (.slice none 0 0), (.int .i64 0), (.int .i64 0), (.int .i64 0), (.int .i64 0), (.int .i64 0), (.slice none 0 0), (.slice none 0 0), (.slice none 0 0)] 24),
    none⟩, ⟨none, (.store 24 (.t 4) (.t 9)), none⟩, ⟨some 5, (.mv (.t 10)), none⟩]) (.seq (.seq (.ops [⟨some 11, (.mv (.t 5)), none⟩, ⟨some 12, (.un .not (.t 11)), none⟩]) (.cond (.t
    12) (.seq (.ops [⟨some 13, (.build [(.int .i64 0), (.int .i64 0), (.int .i64 0), (.int .i64 0), (.int .i64 0), (.int .i64 0), (.bool false), (.int .i64 0), (.int .i64 0), (.int
    .i64 0), (.int .i64 0), (.slice none 0 0), (.int .i64 0), (.int .i64 0), (.slice none 0 0), (.slice none 0 0), (.int .i64 0), (.int .i64 0), (.int .i64 0), (.int .i64 0), (.int
    .i64 0), (.slice none 0 0), (.slice none 0 0), (.slice none 0 0)] []), none⟩, ⟨none, (.store 24 (.t 2) (.t 13)), none⟩, ⟨some 3, (.mv (.c (.bool false))), none⟩]) .ret) .skip))
    (.seq (.ops [⟨some 14, (.load true 24 (.t 4)), none⟩, ⟨none, (.store 24 (.t 2) (.t 14)), none⟩, ⟨some 3, (.mv (.c (.bool true))), none⟩]) .ret)))), 15, [(.cell 2 true 24), (.t
    3)]⟩
theorem t51 : tidyF Try.prog 51 = some c51 := by kernel_rfl
noncomputable def c159 : TFn := ⟨(.seq (.ops [⟨some 2, (.box 24 (.t 0)), none⟩, ⟨some 3, (.box 24 (.t 1)), none⟩, ⟨some 4, (.mv (.c (.bool false))), none⟩]) (.seq (.seq (.ops [⟨some 5, (.faddr 0 (.t 2)), none⟩,
    ⟨some 6, (.load false 1 (.t 5)), none⟩]) (.block 0 (.seq (.ops [⟨some 8, (.bin .eql 0 (.t 6) (.c (.int .i64 2))), none⟩, ⟨some 7, (.mv (.t 8)), none⟩]) (.cond (.t 7) (.seq (.ops
    [⟨some 9, (.faddr 4 (.t 2)), none⟩, ⟨some 10, (.load false 1 (.t 9)), none⟩, ⟨some 11, (.faddr 4 (.t 3)), none⟩, ⟨some 12, (.load false 1 (.t 11)), none⟩, ⟨some 13, (.bin .eql 0
    (.t 10) (.t 12)), none⟩, ⟨some 14, (.mv (.t 13)), none⟩, ⟨some 15, (.faddr 5 (.t 2)), some (14, true)⟩, ⟨some 16, (.load false 1 (.t 15)), some (14, true)⟩, ⟨some 17, (.faddr 5
    (.t 3)), some (14, true)⟩, ⟨some 18, (.load false 1 (.t 17)), some (14, true)⟩, ⟨some 19, (.bin .eql 0 (.t 16) (.t 18)), some (14, true)⟩, ⟨some 20, (.pick (.t 14) (.t 19) (.c
    (.bool false))), none⟩, ⟨some 21, (.mv (.t 20)), none⟩, ⟨some 22, (.faddr 6 (.t 2)), some (21, true)⟩, ⟨some 23, (.load false 1 (.t 22)), some (21, true)⟩, ⟨some 24, (.faddr 6
    (.t 3)), some (21, true)⟩, ⟨some 25, (.load false 1 (.t 24)), some (21, true)⟩, ⟨some 26, (.bin .eql 1 (.t 23) (.t 25)), some (21, true)⟩, ⟨some 27, (.pick (.t 21) (.t 26) (.c
    (.bool false))), none⟩, ⟨some 4, (.mv (.t 27)), none⟩]) .ret) (.seq (.ops [⟨some 29, (.bin .eql 0 (.t 6) (.c (.int .i64 3))), none⟩, ⟨some 28, (.mv (.t 29)), none⟩]) (.cond (.t
    28) (.seq (.ops [⟨some 30, (.faddr 7 (.t 2)), none⟩, ⟨some 31, (.load false 1 (.t 30)), none⟩, ⟨some 32, (.faddr 7 (.t 3)), none⟩, ⟨some 33, (.load false 1 (.t 32)), none⟩, ⟨some
    34, (.bin .eql 0 (.t 31) (.t 33)), none⟩, ⟨some 35, (.mv (.t 34)), none⟩, ⟨some 36, (.faddr 8 (.t 2)), some (35, true)⟩, ⟨some 37, (.load false 1 (.t 36)), some (35, true)⟩,
    ⟨some 38, (.faddr 8 (.t 3)), some (35, true)⟩, ⟨some 39, (.load false 1 (.t 38)), some (35, true)⟩, ⟨some 40, (.bin .eql 0 (.t 37) (.t 39)), some (35, true)⟩, ⟨some 41, (.pick
    (.t 35) (.t 40) (.c (.bool false))), none⟩, ⟨some 42, (.mv (.t 41)), none⟩, ⟨some 43, (.faddr 5 (.t 2)), some (42, true)⟩, ⟨some 44, (.load false 1 (.t 43)), some (42, true)⟩,
    ⟨some 45, (.faddr 5 (.t 3)), some (42, true)⟩, ⟨some 46, (.load false 1 (.t 45)), some (42, true)⟩, ⟨some 47, (.bin .eql 0 (.t 44) (.t 46)), some (42, true)⟩, ⟨some 48, (.pick
    (.t 42) (.t 47) (.c (.bool false))), none⟩, ⟨some 4, (.mv (.t 48)), none⟩]) .ret) (.seq (.ops [⟨some 50, (.bin .eql 0 (.t 6) (.c (.int .i64 4))), none⟩, ⟨some 49, (.mv (.t 50)),
    none⟩]) (.cond (.t 49) (.seq (.ops [⟨some 51, (.faddr 9 (.t 2)), none⟩, ⟨some 52, (.load false 1 (.t 51)), none⟩, ⟨some 53, (.faddr 9 (.t 3)), none⟩, ⟨some 54, (.load false 1 (.t
    53)), none⟩, ⟨some 55, (.bin .eql 0 (.t 52) (.t 54)), none⟩, ⟨some 4, (.mv (.t 55)), none⟩]) .ret) (.seq (.ops [⟨some 57, (.bin .eql 0 (.t 6) (.c (.int .i64 5))), none⟩, ⟨some
    56, (.mv (.t 57)), none⟩]) (.cond (.t 56) (.seq (.ops [⟨some 58, (.faddr 9 (.t 2)), none⟩, ⟨some 59, (.load false 1 (.t 58)), none⟩, ⟨some 60, (.faddr 9 (.t 3)), none⟩, ⟨some 61,
    (.load false 1 (.t 60)), none⟩, ⟨some 62, (.bin .eql 0 (.t 59) (.t 61)), none⟩, ⟨some 63, (.mv (.t 62)), none⟩, ⟨some 64, (.faddr 10 (.t 2)), some (63, true)⟩, ⟨some 65, (.load
    false 1 (.t 64)), some (63, true)⟩, ⟨some 66, (.faddr 10 (.t 3)), some (63, true)⟩, ⟨some 67, (.load false 1 (.t 66)), some (63, true)⟩, ⟨some 68, (.bin .eql 0 (.t 65) (.t 67)),
    some (63, true)⟩, ⟨some 69, (.pick (.t 63) (.t 68) (.c (.bool false))), none⟩, ⟨some 70, (.mv (.t 69)), none⟩, ⟨some 71, (.faddr 11 (.t 2)), some (70, true)⟩, ⟨some 72, (.load
    false 1 (.t 71)), some (70, true)⟩, ⟨some 73, (.faddr 11 (.t 3)), some (70, true)⟩, ⟨some 74, (.load false 1 (.t 73)), some (70, true)⟩, ⟨some 75, (.call (fnv 175) [(.t 72), (.t
    74)]), some (70, true)⟩, ⟨some 76, (.pick (.t 70) (.t 75) (.c (.bool false))), none⟩, ⟨some 4, (.mv (.t 76)), none⟩]) .ret) (.seq (.ops [⟨some 78, (.bin .eql 0 (.t 6) (.c (.int
    .i64 7))), none⟩, ⟨some 77, (.mv (.t 78)), none⟩]) (.cond (.t 77) (.seq (.ops [⟨some 79, (.faddr 12 (.t 2)), none⟩, ⟨some 80, (.load false 1 (.t 79)), none⟩, ⟨some 81, (.faddr 12
    (.t 3)), none⟩, ⟨some 82, (.load false 1 (.t 81)), none⟩, ⟨some 83, (.bin .eql 0 (.t 80) (.t 82)), none⟩, ⟨some 84, (.mv (.t 83)), none⟩, ⟨some 85, (.faddr 13 (.t 2)), some (84,
    true)⟩, ⟨some 86, (.load false 1 (.t 85)), some (84, true)⟩, ⟨some 87, (.faddr 13 (.t 3)), some (84, true)⟩, ⟨some 88, (.load false 1 (.t 87)), some (84, true)⟩, ⟨some 89, (.bin
    .eql 0 (.t 86) (.t 88)), some (84, true)⟩, ⟨some 90, (.pick (.t 84) (.t 89) (.c (.bool false))), none⟩, ⟨some 91, (.mv (.t 90)), none⟩, ⟨some 92, (.faddr 14 (.t 2)), some (91,
    true)⟩, ⟨some 93, (.load false 1 (.t 92)), some (91, true)⟩, ⟨some 94, (.faddr 14 (.t 3)), some (91, true)⟩, ⟨some 95, (.load false 1 (.t 94)), some (91, true)⟩, ⟨some 96, (.call
    (fnv 176) [(.t 93), (.t 95)]), some (91, true)⟩, ⟨some 97, (.pick (.t 91) (.t 96) (.c (.bool false))), none⟩, ⟨some 98, (.mv (.t 97)), none⟩, ⟨some 99, (.faddr 15 (.t 2)), some
    (98, true)⟩, ⟨some 100, (.load false 1 (.t 99)), some (98, true)⟩, ⟨some 101, (.faddr 15 (.t 3)), some (98, true)⟩, ⟨some 102, (.load false 1 (.t 101)), some (98, true)⟩, ⟨some
    103, (.call (fnv 176) [(.t 100), (.t 102)]), some (98, true)⟩, ⟨some 104, (.pick (.t 98) (.t 103) (.c (.bool false))), none⟩, ⟨some 4, (.mv (.t 104)), none⟩]) .ret) (.seq (.ops
    [⟨some 106, (.bin .eql 0 (.t 6) (.c (.int .i64 8))), none⟩, ⟨some 105, (.mv (.t 106)), none⟩]) (.cond (.t 105) (.seq (.ops [⟨some 107, (.faddr 16 (.t 2)), none⟩, ⟨some 108,
    (.load false 1 (.t 107)), none⟩, ⟨some 109, (.faddr 16 (.t 3)), none⟩, ⟨some 110, (.load false 1 (.t 109)), none⟩, ⟨some 111, (.bin .eql 0 (.t 108) (.t 110)), none⟩, ⟨some 112,
    (.mv (.t 111)), none⟩, ⟨some 113, (.faddr 17 (.t 2)), some (112, true)⟩, ⟨some 114, (.load true 7 (.t 113)), some (112, true)⟩, ⟨some 115, (.faddr 17 (.t 3)), some (112, true)⟩,
    ⟨some 116, (.load true 7 (.t 115)), some (112, true)⟩, ⟨some 117, (.call (fnv 177) [(.t 114), (.t 116)]), some (112, true)⟩, ⟨some 118, (.pick (.t 112) (.t 117) (.c (.bool
    false))), none⟩, ⟨some 4, (.mv (.t 118)), none⟩]) .ret) .skip)))))))))))))) (.seq (.ops [⟨some 4, (.mv (.c (.bool true))), none⟩]) .ret))), 119, [(.t 4)]⟩
theorem t159 : tidyF Try.prog 159 = some c159 := by kernel_rfl
noncomputable def c101 : TFn := ⟨(.seq (.ops [⟨some 2, (.box 24 (.t 0)), none⟩, ⟨some 3, (.box 24 (.t 1)), none⟩, ⟨some 4, (.mv (.c (.bool false))), none⟩]) (.seq (.ops [⟨some 5, (.faddr 0 (.t 2)), none⟩, ⟨some
    6, (.load false 1 (.t 5)), none⟩, ⟨some 7, (.faddr 0 (.t 3)), none⟩, ⟨some 8, (.load false 1 (.t 7)), none⟩, ⟨some 9, (.bin .eql 0 (.t 6) (.t 8)), none⟩, ⟨some 10, (.mv (.t 9)),
    none⟩, ⟨some 11, (.faddr 1 (.t 2)), some (10, true)⟩, ⟨some 12, (.load false 1 (.t 11)), some (10, true)⟩, ⟨some 13, (.faddr 1 (.t 3)), some (10, true)⟩, ⟨some 14, (.load false 1
    (.t 13)), some (10, true)⟩, ⟨some 15, (.bin .eql 0 (.t 12) (.t 14)), some (10, true)⟩, ⟨some 16, (.pick (.t 10) (.t 15) (.c (.bool false))), none⟩, ⟨some 17, (.mv (.t 16)),
    none⟩, ⟨some 18, (.faddr 2 (.t 2)), some (17, true)⟩, ⟨some 19, (.load false 1 (.t 18)), some (17, true)⟩, ⟨some 20, (.faddr 2 (.t 3)), some (17, true)⟩, ⟨some 21, (.load false 1
    (.t 20)), some (17, true)⟩, ⟨some 22, (.bin .eql 0 (.t 19) (.t 21)), some (17, true)⟩, ⟨some 23, (.pick (.t 17) (.t 22) (.c (.bool false))), none⟩, ⟨some 24, (.mv (.t 23)),
    none⟩, ⟨some 25, (.faddr 3 (.t 2)), some (24, true)⟩, ⟨some 26, (.load false 1 (.t 25)), some (24, true)⟩, ⟨some 27, (.faddr 3 (.t 3)), some (24, true)⟩, ⟨some 28, (.load false 1
    (.t 27)), some (24, true)⟩, ⟨some 29, (.bin .eql 0 (.t 26) (.t 28)), some (24, true)⟩, ⟨some 30, (.pick (.t 24) (.t 29) (.c (.bool false))), none⟩, ⟨some 31, (.mv (.t 30)),
    none⟩, ⟨some 32, (.load true 24 (.t 2)), some (31, true)⟩, ⟨some 33, (.load true 24 (.t 3)), some (31, true)⟩, ⟨some 34, (.call (fnv 159) [(.t 32), (.t 33)]), some (31, true)⟩,
    ⟨some 35, (.pick (.t 31) (.t 34) (.c (.bool false))), none⟩, ⟨some 4, (.mv (.t 35)), none⟩]) .ret)), 36, [(.t 4)]⟩
theorem t101 : tidyF Try.prog 101 = some c101 := by kernel_rfl
noncomputable def c54 : TFn := ⟨(.seq (.ops [⟨some 2, (.box 24 (.t 0)), none⟩, ⟨some 3, (.box 24 (.t 1)), none⟩, ⟨some 4, (.mv (.c (.bool false))), none⟩]) (.seq (.seq (.ops [⟨some 5, (.mv (.c (.int .i64 1))),
    none⟩]) (.block 0 (.loop (.seq (.seq (.ops [⟨some 8, (.mv (.t 5)), none⟩, ⟨some 9, (.bin .leq 0 (.t 8) (.c (.int .i64 8))), none⟩]) (.cond (.t 9) .skip (.exit 0))) (.seq (.block
    1 (.seq (.draw [(⟨some 12, (.load true 24 (.t 2)), none⟩, []), (⟨some 13, (.load true 24 (.t 3)), none⟩, []), (⟨some 6, (.alloc [(.int .i64 0), (.int .i64 0), (.int .i64 0),
    (.int .i64 0), (.int .i64 0), (.int .i64 0), (.bool false), (.int .i64 0), (.int .i64 0), (.int .i64 0), (.int .i64 0), (.slice none 0 0), (.int .i64 0), (.int .i64 0), (.slice
    none 0 0), (.slice none 0 0), (.int .i64 0), (.int .i64 0), (.int .i64 0), (.int .i64 0), (.int .i64 0), (.slice none 0 0), (.slice none 0 0), (.slice none 0 0)] 24), none⟩, []),
    (⟨some 7, (.alloc [(.int .i64 0), (.int .i64 0), (.int .i64 0), (.int .i64 0), (.int .i64 0), (.int .i64 0), (.bool false), (.int .i64 0), (.int .i64 0), (.int .i64 0), (.int
    .i64 0), (.slice none 0 0), (.int .i64 0), (.int .i64 0), (.slice none 0 0), (.slice none 0 0), (.int .i64 0), (.int .i64 0), (.int .i64 0), (.int .i64 0), (.int .i64 0), (.slice
    none 0 0), (.slice none 0 0), (.slice none 0 0)] 24), none⟩, []), (⟨none, (.store 24 (.t 6) (.t 12)), none⟩, [1]), (⟨none, (.store 24 (.t 7) (.t 13)), none⟩, [])]) (.seq (.ops
    [⟨some 14, (.mv (.t 5)), none⟩, ⟨some 15, (.mv (.t 5)), none⟩, ⟨some 16, (.faddr 0 (.t 6)), none⟩, ⟨none, (.store 1 (.t 16) (.t 14)), none⟩, ⟨some 17, (.faddr 0 (.t 7)), none⟩,
    ⟨none, (.store 1 (.t 17) (.t 15)), none⟩]) (.seq (.ops [⟨some 18, (.load true 24 (.t 6)), none⟩, ⟨some 19, (.load true 24 (.t 7)), none⟩, ⟨some 20, (.call (fnv 101) [(.t 18), (.t
    19)]), none⟩, ⟨some 21, (.un .not (.t 20)), none⟩]) (.cond (.t 21) (.seq (.ops [⟨some 4, (.mv (.c (.bool false))), none⟩]) .ret) .skip))))) (.ops [⟨some 10, (.mv (.t 5)), none⟩,
    ⟨some 11, (.bin .add 0 (.t 10) (.c (.int .i64 1))), none⟩, ⟨some 5, (.mv (.t 11)), none⟩])))))) (.seq (.ops [⟨some 22, (.faddr 0 (.t 2)), none⟩, ⟨some 23, (.load false 1 (.t
    22)), none⟩, ⟨some 24, (.faddr 0 (.t 3)), none⟩, ⟨some 25, (.load false 1 (.t 24)), none⟩, ⟨some 26, (.bin .eql 0 (.t 23) (.t 25)), none⟩, ⟨some 4, (.mv (.t 26)), none⟩])
    .ret))), 27, [(.t 4)]⟩
theorem t54 : tidyF Try.prog 54 = some c54 := by kernel_rfl
noncomputable def c102 : TFn := ⟨(.seq (.ops [⟨some 4, (.mv (.c (.slice none 0 0))), none⟩]) (.seq (.seq (.ops [⟨some 5, (.mv (.c (.int .i64 0))), none⟩]) (.block 0 (.loop (.seq (.seq (.ops [⟨some 6, (.mv (.t
    5)), none⟩, ⟨some 7, (.mv (.t 1)), none⟩, ⟨some 8, (.lenS (.t 7)), none⟩, ⟨some 9, (.bin .lss 0 (.t 6) (.t 8)), none⟩]) (.cond (.t 9) .skip (.exit 0))) (.seq (.block 1 (.ops
    [⟨some 12, (.mv (.t 0)), none⟩, ⟨some 13, (.mv (.t 1)), none⟩, ⟨some 14, (.mv (.t 5)), none⟩, ⟨some 15, (.iaddrS 1 (.t 13) (.t 14)), none⟩, ⟨some 16, (.load false 1 (.t 15)),
    none⟩, ⟨some 17, (.call (fnv 118) [(.t 12), (.t 16)]), none⟩, ⟨some 0, (.mv (.t 17)), none⟩])) (.ops [⟨some 10, (.mv (.t 5)), none⟩, ⟨some 11, (.bin .add 0 (.t 10) (.c (.int .i64
    1))), none⟩, ⟨some 5, (.mv (.t 11)), none⟩])))))) (.seq (.ops [⟨some 18, (.mv (.t 0)), none⟩, ⟨some 4, (.mv (.t 18)), none⟩]) .ret))), 19, [(.t 4)]⟩
theorem t102 : tidyF Try.prog 102 = some c102 := by kernel_rfl
noncomputable def c107 : TFn := ⟨(.seq (.ops [⟨some 4, (.mv (.c (.slice none 0 0))), none⟩]) (.seq (.ops [⟨some 5, (.mv (.c (.slice none 0 0))), none⟩]) (.seq (.seq (.ops [⟨some 7, (.mv (.t 0)), none⟩, ⟨some 8,
    (.mv (.t 1)), none⟩, ⟨some 9, (.call (fnv 105) [(.t 7), (.t 8)]), none⟩, ⟨some 6, (.mv (.t 9)), none⟩]) (.block 0 (.loop (.seq (.seq (.ops [⟨some 10, (.mv (.t 6)), none⟩, ⟨some
    11, (.bin .gtr 0 (.t 10) (.c (.int .i64 0))), none⟩]) (.cond (.t 11) .skip (.exit 0))) (.seq (.block 1 (.ops [⟨some 14, (.mv (.t 5)), none⟩, ⟨some 15, (.mv (.t 0)), none⟩, ⟨some
    16, (.call (fnv 105) [(.t 15), (.c (.int .i64 1099511627776))]), none⟩, ⟨some 17, (.bslice [(.int .i64 0)] 1 1 [(0, (.t 16))]), none⟩, ⟨some 18, (.append 1 8 (.t 14) (.t 17)),
    none⟩, ⟨some 5, (.mv (.t 18)), none⟩])) (.ops [⟨some 12, (.mv (.t 6)), none⟩, ⟨some 13, (.bin .sub 0 (.t 12) (.c (.int .i64 1))), none⟩, ⟨some 6, (.mv (.t 13)), none⟩]))))))
    (.seq (.ops [⟨some 19, (.mv (.t 5)), none⟩, ⟨some 4, (.mv (.t 19)), none⟩]) .ret)))), 20, [(.t 4)]⟩
theorem t107 : tidyF Try.prog 107 = some c107 := by kernel_rfl
noncomputable def c53 : TFn := ⟨(.seq (.ops [⟨some 1, (.box 24 (.t 0)), none⟩, ⟨some 2, (.mv (.c (.slice none 0 0))), none⟩]) (.seq (.seq (.ops [⟨some 5, (.load true 24 (.t 1)), none⟩, ⟨some 6, (.call (fnv 82)
    [(.t 5)]), none⟩, ⟨some 7, (.un .not (.t 6)), none⟩]) (.cond (.t 7) (.seq (.ops [⟨some 2, (.mv (.c (.slice none 0 0))), none⟩]) .ret) .skip)) (.seq (.ops [⟨some 8, (.faddr 0 (.t
    1)), none⟩, ⟨some 9, (.load false 1 (.t 8)), none⟩, ⟨some 10, (.faddr 1 (.t 1)), none⟩, ⟨some 11, (.load false 1 (.t 10)), none⟩, ⟨some 12, (.faddr 2 (.t 1)), none⟩, ⟨some 13,
    (.load false 1 (.t 12)), none⟩, ⟨some 14, (.faddr 3 (.t 1)), none⟩, ⟨some 15, (.load false 1 (.t 14)), none⟩, ⟨some 16, (.bslice [(.int .i64 0)] 1 4 [(0, (.t 9)), (1, (.t 11)),
    (2, (.t 13)), (3, (.t 15))]), none⟩, ⟨some 17, (.call (fnv 102) [(.c (.slice none 0 0)), (.t 16)]), none⟩, ⟨some 3, (.mv (.t 17)), none⟩]) (.seq (.seq (.ops [⟨some 18, (.faddr 0
    (.t 1)), none⟩, ⟨some 19, (.load false 1 (.t 18)), none⟩]) (.block 0 (.seq (.ops [⟨some 21, (.bin .eql 0 (.t 19) (.c (.int .i64 2))), none⟩, ⟨some 20, (.mv (.t 21)), none⟩])
    (.cond (.t 20) (.seq (.ops [⟨some 4, (.mv (.c (.int .i64 0))), none⟩]) (.seq (.seq (.ops [⟨some 22, (.faddr 6 (.t 1)), none⟩, ⟨some 23, (.load false 1 (.t 22)), none⟩]) (.cond
    (.t 23) (.ops [⟨some 4, (.mv (.c (.int .i64 1))), none⟩]) .skip)) (.seq (.ops [⟨some 24, (.mv (.t 3)), none⟩, ⟨some 25, (.faddr 4 (.t 1)), none⟩, ⟨some 26, (.load false 1 (.t
    25)), none⟩, ⟨some 27, (.faddr 5 (.t 1)), none⟩, ⟨some 28, (.load false 1 (.t 27)), none⟩, ⟨some 29, (.mv (.t 4)), none⟩, ⟨some 30, (.bslice [(.int .i64 0)] 1 3 [(0, (.t 26)),
    (1, (.t 28)), (2, (.t 29))]), none⟩, ⟨some 31, (.call (fnv 102) [(.t 24), (.t 30)]), none⟩, ⟨some 2, (.mv (.t 31)), none⟩]) .ret))) (.seq (.ops [⟨some 33, (.bin .eql 0 (.t 19)
    (.c (.int .i64 3))), none⟩, ⟨some 32, (.mv (.t 33)), none⟩]) (.cond (.t 32) (.seq (.ops [⟨some 34, (.mv (.t 3)), none⟩, ⟨some 35, (.faddr 7 (.t 1)), none⟩, ⟨some 36, (.load false
    1 (.t 35)), none⟩, ⟨some 37, (.faddr 8 (.t 1)), none⟩, ⟨some 38, (.load false 1 (.t 37)), none⟩, ⟨some 39, (.faddr 5 (.t 1)), none⟩, ⟨some 40, (.load false 1 (.t 39)), none⟩,
    ⟨some 41, (.bslice [(.int .i64 0)] 1 3 [(0, (.t 36)), (1, (.t 38)), (2, (.t 40))]), none⟩, ⟨some 42, (.call (fnv 102) [(.t 34), (.t 41)]), none⟩, ⟨some 2, (.mv (.t 42)), none⟩])
    .ret) (.seq (.ops [⟨some 44, (.bin .eql 0 (.t 19) (.c (.int .i64 4))), none⟩, ⟨some 43, (.mv (.t 44)), none⟩]) (.cond (.t 43) (.seq (.ops [⟨some 45, (.mv (.t 3)), none⟩, ⟨some
    46, (.faddr 9 (.t 1)), none⟩, ⟨some 47, (.load false 1 (.t 46)), none⟩, ⟨some 48, (.bslice [(.int .i64 0)] 1 1 [(0, (.t 47))]), none⟩, ⟨some 49, (.call (fnv 102) [(.t 45), (.t
    48)]), none⟩, ⟨some 2, (.mv (.t 49)), none⟩]) .ret) (.seq (.ops [⟨some 51, (.bin .eql 0 (.t 19) (.c (.int .i64 5))), none⟩, ⟨some 50, (.mv (.t 51)), none⟩]) (.cond (.t 50) (.seq
    (.draw [(⟨some 52, (.mv (.t 3)), none⟩, []), (⟨some 53, (.faddr 9 (.t 1)), none⟩, []), (⟨some 54, (.load false 1 (.t 53)), none⟩, []), (⟨some 55, (.faddr 10 (.t 1)), none⟩, []),
    (⟨some 56, (.load false 1 (.t 55)), none⟩, []), (⟨some 57, (.bslice [(.int .i64 0)] 1 2 [(0, (.t 54)), (1, (.t 56))]), none⟩, []), (⟨some 58, (.call (fnv 102) [(.t 52), (.t
    57)]), none⟩, []), (⟨some 59, (.faddr 11 (.t 1)), none⟩, []), (⟨some 60, (.load false 1 (.t 59)), none⟩, [6, 5]), (⟨some 61, (.call (fnv 103) [(.t 58), (.t 60)]), none⟩, []),
    (⟨some 2, (.mv (.t 61)), none⟩, [])]) .ret) (.seq (.ops [⟨some 63, (.bin .eql 0 (.t 19) (.c (.int .i64 7))), none⟩, ⟨some 62, (.mv (.t 63)), none⟩]) (.cond (.t 62) (.seq (.draw
    [(⟨some 64, (.mv (.t 3)), none⟩, []), (⟨some 65, (.faddr 12 (.t 1)), none⟩, []), (⟨some 66, (.load false 1 (.t 65)), none⟩, []), (⟨some 67, (.faddr 13 (.t 1)), none⟩, []), (⟨some
    68, (.load false 1 (.t 67)), none⟩, []), (⟨some 69, (.faddr 14 (.t 1)), none⟩, []), (⟨some 70, (.load false 1 (.t 69)), none⟩, []), (⟨some 71, (.lenS (.t 70)), none⟩, []), (⟨some
    72, (.bslice [(.int .i64 0)] 1 3 [(0, (.t 66)), (1, (.t 68)), (2, (.t 71))]), none⟩, []), (⟨some 73, (.call (fnv 102) [(.t 64), (.t 72)]), none⟩, []), (⟨some 74, (.faddr 14 (.t
    1)), none⟩, []), (⟨some 75, (.load false 1 (.t 74)), none⟩, [9, 8]), (⟨some 76, (.call (fnv 102) [(.t 73), (.t 75)]), none⟩, []), (⟨some 3, (.mv (.t 76)), none⟩, [])]) (.seq
    (.draw [(⟨some 77, (.mv (.t 3)), none⟩, []), (⟨some 78, (.faddr 15 (.t 1)), none⟩, []), (⟨some 79, (.load false 1 (.t 78)), none⟩, []), (⟨some 80, (.lenS (.t 79)), none⟩, []),
    (⟨some 81, (.bslice [(.int .i64 0)] 1 1 [(0, (.t 80))]), none⟩, []), (⟨some 82, (.call (fnv 102) [(.t 77), (.t 81)]), none⟩, []), (⟨some 83, (.faddr 15 (.t 1)), none⟩, []),
    (⟨some 84, (.load false 1 (.t 83)), none⟩, [5, 4]), (⟨some 85, (.call (fnv 102) [(.t 82), (.t 84)]), none⟩, []), (⟨some 2, (.mv (.t 85)), none⟩, [])]) .ret)) (.seq (.ops [⟨some
    87, (.bin .eql 0 (.t 19) (.c (.int .i64 8))), none⟩, ⟨some 86, (.mv (.t 87)), none⟩]) (.cond (.t 86) (.seq (.draw [(⟨some 88, (.mv (.t 3)), none⟩, []), (⟨some 89, (.faddr 16 (.t
    1)), none⟩, []), (⟨some 90, (.load false 1 (.t 89)), none⟩, []), (⟨some 91, (.bslice [(.int .i64 0)] 1 1 [(0, (.t 90))]), none⟩, []), (⟨some 92, (.call (fnv 102) [(.t 88), (.t
    91)]), none⟩, []), (⟨some 93, (.faddr 17 (.t 1)), none⟩, []), (⟨some 94, (.load true 7 (.t 93)), none⟩, [4, 3]), (⟨some 95, (.call (fnv 104) [(.t 92), (.t 94)]), none⟩, []),
    (⟨some 2, (.mv (.t 95)), none⟩, [])]) .ret) .skip)))))))))))))) (.seq (.ops [⟨some 96, (.mv (.t 3)), none⟩, ⟨some 2, (.mv (.t 96)), none⟩]) .ret))))), 97, [(.t 2)]⟩
theorem t53 : tidyF Try.prog 53 = some c53 := by kernel_rfl
noncomputable def c55 : TFn := ⟨(.seq (.ops [⟨some 2, (.alloc [(.int .i64 0), (.int .i64 0), (.int .i64 0), (.int .i64 0), (.int .i64 0), (.int .i64 0), (.bool false), (.int .i64 0), (.int .i64 0), (.int .i64
    0), (.int .i64 0), (.slice none 0 0), (.int .i64 0), (.int .i64 0), (.slice none 0 0), (.slice none 0 0), (.int .i64 0), (.int .i64 0), (.int .i64 0), (.int .i64 0), (.int .i64
    0), (.slice none 0 0), (.slice none 0 0), (.slice none 0 0)] 24), none⟩, ⟨some 3, (.mv (.c (.bool false))), none⟩]) (.seq (.ops [⟨some 6, (.mv (.t 0)), none⟩, ⟨some 7, (.build
    [(.slice none 0 0), (.bool false)] [(0, (1, (.t 6)))]), none⟩, ⟨some 8, (.box 2 (.t 7)), none⟩, ⟨some 4, (.mv (.t 8)), none⟩]) (.seq (.ops [⟨some 9, (.mv (.t 4)), none⟩, ⟨some
    10, (.call (fnv 105) [(.t 9), (.c (.int .i64 8))]), none⟩, ⟨some 11, (.mv (.t 4)), none⟩, ⟨some 12, (.call (fnv 105) [(.t 11), (.c (.int .i64 6))]), none⟩, ⟨some 13, (.mv (.t
    4)), none⟩, ⟨some 14, (.call (fnv 105) [(.t 13), (.c (.int .i64 6))]), none⟩, ⟨some 15, (.mv (.t 4)), none⟩, ⟨some 16, (.call (fnv 105) [(.t 15), (.c (.int .i64
    1099511627776))]), none⟩, ⟨some 17, (.build [(.int .i64 0), (.int .i64 0), (.int .i64 0), (.int .i64 0), (.int .i64 0), (.int .i64 0), (.bool false), (.int .i64 0), (.int .i64
    0), (.int .i64 0), (.int .i64 0), (.slice none 0 0), (.int .i64 0), (.int .i64 0), (.slice none 0 0), (.slice none 0 0), (.int .i64 0), (.int .i64 0), (.int .i64 0), (.int .i64
    0), (.int .i64 0), (.slice none 0 0), (.slice none 0 0), (.slice none 0 0)] [(0, (1, (.t 10))), (1, (1, (.t 12))), (2, (1, (.t 14))), (3, (1, (.t 16)))]), none⟩, ⟨some 5, (.alloc
    [(.int .i64 0), (.int .i64 0), (.int .i64 0), (.int .i64 0), (.int .i64 0), (.int .i64 0), (.bool false), (.int .i64 0), (.int .i64 0), (.int .i64 0), (.int .i64 0), (.slice none
    0 0), (.int .i64 0), (.int .i64 0), (.slice none 0 0), (.slice none 0 0), (.int .i64 0), (.int .i64 0), (.int .i64 0), (.int .i64 0), (.int .i64 0), (.slice none 0 0), (.slice
    none 0 0), (.slice none 0 0)] 24), none⟩, ⟨none, (.store 24 (.t 5) (.t 17)), none⟩]) (.seq (.seq (.ops [⟨some 18, (.faddr 0 (.t 5)), none⟩, ⟨some 19, (.load false 1 (.t 18)),
    none⟩]) (.block 0 (.seq (.ops [⟨some 21, (.bin .eql 0 (.t 19) (.c (.int .i64 2))), none⟩, ⟨some 20, (.mv (.t 21)), none⟩]) (.cond (.t 20) (.seq (.ops [⟨some 22, (.mv (.t 4)),
    none⟩, ⟨some 23, (.call (fnv 105) [(.t 22), (.c (.int .i64 1099511627776))]), none⟩, ⟨some 24, (.mv (.t 4)), none⟩, ⟨some 25, (.call (fnv 105) [(.t 24), (.c (.int .i64
    1099511627776))]), none⟩, ⟨some 26, (.faddr 4 (.t 5)), none⟩, ⟨none, (.store 1 (.t 26) (.t 23)), none⟩, ⟨some 27, (.faddr 5 (.t 5)), none⟩, ⟨none, (.store 1 (.t 27) (.t 25)),
    none⟩]) (.ops [⟨some 28, (.mv (.t 4)), none⟩, ⟨some 29, (.call (fnv 105) [(.t 28), (.c (.int .i64 1))]), none⟩, ⟨some 30, (.bin .eql 0 (.t 29) (.c (.int .i64 1))), none⟩, ⟨some
    31, (.faddr 6 (.t 5)), none⟩, ⟨none, (.store 1 (.t 31) (.t 30)), none⟩])) (.seq (.ops [⟨some 33, (.bin .eql 0 (.t 19) (.c (.int .i64 3))), none⟩, ⟨some 32, (.mv (.t 33)), none⟩])
    (.cond (.t 32) (.ops [⟨some 34, (.mv (.t 4)), none⟩, ⟨some 35, (.call (fnv 105) [(.t 34), (.c (.int .i64 127))]), none⟩, ⟨some 36, (.mv (.t 4)), none⟩, ⟨some 37, (.call (fnv 105)
    [(.t 36), (.c (.int .i64 6))]), none⟩, ⟨some 38, (.mv (.t 4)), none⟩, ⟨some 39, (.call (fnv 105) [(.t 38), (.c (.int .i64 1099511627776))]), none⟩, ⟨some 40, (.faddr 7 (.t 5)),
    none⟩, ⟨none, (.store 1 (.t 40) (.t 35)), none⟩, ⟨some 41, (.faddr 8 (.t 5)), none⟩, ⟨none, (.store 1 (.t 41) (.t 37)), none⟩, ⟨some 42, (.faddr 5 (.t 5)), none⟩, ⟨none, (.store
    1 (.t 42) (.t 39)), none⟩]) (.seq (.ops [⟨some 44, (.bin .eql 0 (.t 19) (.c (.int .i64 4))), none⟩, ⟨some 43, (.mv (.t 44)), none⟩]) (.cond (.t 43) (.ops [⟨some 45, (.mv (.t 4)),
    none⟩, ⟨some 46, (.call (fnv 105) [(.t 45), (.c (.int .i64 1099511627776))]), none⟩, ⟨some 47, (.faddr 9 (.t 5)), none⟩, ⟨none, (.store 1 (.t 47) (.t 46)), none⟩]) (.seq (.ops
    [⟨some 49, (.bin .eql 0 (.t 19) (.c (.int .i64 5))), none⟩, ⟨some 48, (.mv (.t 49)), none⟩]) (.cond (.t 48) (.seq (.ops [⟨some 50, (.mv (.t 4)), none⟩, ⟨some 51, (.call (fnv 105)
    [(.t 50), (.c (.int .i64 1099511627776))]), none⟩, ⟨some 52, (.mv (.t 4)), none⟩, ⟨some 53, (.call (fnv 105) [(.t 52), (.c (.int .i64 1099511627776))]), none⟩, ⟨some 54, (.faddr
    9 (.t 5)), none⟩, ⟨none, (.store 1 (.t 54) (.t 51)), none⟩, ⟨some 55, (.faddr 10 (.t 5)), none⟩, ⟨none, (.store 1 (.t 55) (.t 53)), none⟩]) (.ops [⟨some 56, (.mv (.t 4)), none⟩,
    ⟨some 57, (.call (fnv 106) [(.t 56), (.c (.int .i64 64))]), none⟩, ⟨some 58, (.faddr 11 (.t 5)), none⟩, ⟨none, (.store 1 (.t 58) (.t 57)), none⟩])) (.seq (.ops [⟨some 60, (.bin
    .eql 0 (.t 19) (.c (.int .i64 7))), none⟩, ⟨some 59, (.mv (.t 60)), none⟩]) (.cond (.t 59) (.seq (.ops [⟨some 61, (.mv (.t 4)), none⟩, ⟨some 62, (.call (fnv 105) [(.t 61), (.c
    (.int .i64 1099511627776))]), none⟩, ⟨some 63, (.mv (.t 4)), none⟩, ⟨some 64, (.call (fnv 105) [(.t 63), (.c (.int .i64 1099511627776))]), none⟩, ⟨some 65, (.faddr 12 (.t 5)),
    none⟩, ⟨none, (.store 1 (.t 65) (.t 62)), none⟩, ⟨some 66, (.faddr 13 (.t 5)), none⟩, ⟨none, (.store 1 (.t 66) (.t 64)), none⟩]) (.seq (.ops [⟨some 67, (.mv (.t 4)), none⟩, ⟨some
    68, (.call (fnv 107) [(.t 67), (.c (.int .i64 7))]), none⟩, ⟨some 69, (.faddr 14 (.t 5)), none⟩, ⟨none, (.store 1 (.t 69) (.t 68)), none⟩]) (.ops [⟨some 70, (.mv (.t 4)), none⟩,
    ⟨some 71, (.call (fnv 107) [(.t 70), (.c (.int .i64 8))]), none⟩, ⟨some 72, (.faddr 15 (.t 5)), none⟩, ⟨none, (.store 1 (.t 72) (.t 71)), none⟩]))) (.seq (.ops [⟨some 74, (.bin
    .eql 0 (.t 19) (.c (.int .i64 8))), none⟩, ⟨some 73, (.mv (.t 74)), none⟩]) (.cond (.t 73) (.seq (.ops [⟨some 75, (.mv (.t 4)), none⟩, ⟨some 76, (.call (fnv 105) [(.t 75), (.c
    (.int .i64 1099511627776))]), none⟩, ⟨some 77, (.faddr 16 (.t 5)), none⟩, ⟨none, (.store 1 (.t 77) (.t 76)), none⟩]) (.ops [⟨some 78, (.mv (.t 4)), none⟩, ⟨some 79, (.call (fnv
    108) [(.t 78)]), none⟩, ⟨some 80, (.faddr 17 (.t 5)), none⟩, ⟨none, (.store 7 (.t 80) (.t 79)), none⟩])) .skip)))))))))))))) (.seq (.seq (.ops [⟨some 81, (.faddr 0 (.t 5)),
    none⟩, ⟨some 82, (.load false 1 (.t 81)), none⟩, ⟨some 83, (.bin .eql 0 (.t 82) (.c (.int .i64 0))), none⟩, ⟨some 84, (.mv (.t 83)), none⟩, ⟨some 85, (.mv (.t 4)), some (84,
    false)⟩, ⟨some 86, (.call (fnv 109) [(.t 85)]), some (84, false)⟩, ⟨some 87, (.un .not (.t 86)), some (84, false)⟩, ⟨some 88, (.pick (.t 84) (.c (.bool true)) (.t 87)), none⟩])
    (.cond (.t 88) (.seq (.ops [⟨some 89, (.build [(.int .i64 0), (.int .i64 0), (.int .i64 0), (.int .i64 0), (.int .i64 0), (.int .i64 0), (.bool false), (.int .i64 0), (.int .i64
    0), (.int .i64 0), (.int .i64 0), (.slice none 0 0), (.int .i64 0), (.int .i64 0), (.slice none 0 0), (.slice none 0 0), (.int .i64 0), (.int .i64 0), (.int .i64 0), (.int .i64
    0), (.int .i64 0), (.slice none 0 0), (.slice none 0 0), (.slice none 0 0)] []), none⟩, ⟨none, (.store 24 (.t 2) (.t 89)), none⟩, ⟨some 3, (.mv (.c (.bool false))), none⟩]) .ret)
    .skip)) (.seq (.ops [⟨some 90, (.load true 24 (.t 5)), none⟩, ⟨none, (.store 24 (.t 2) (.t 90)), none⟩, ⟨some 3, (.mv (.c (.bool true))), none⟩]) .ret)))))), 91, [(.cell 2 true
    24), (.t 3)]⟩
theorem t55 : tidyF Try.prog 55 = some c55 := by kernel_rfl
noncomputable def c38 : TFn := ⟨(.seq (.ops [⟨some 2, (.box 24 (.t 0)), none⟩, ⟨some 3, (.box 24 (.t 1)), none⟩, ⟨some 4, (.mv (.c (.bool false))), none⟩]) (.seq (.ops [⟨some 5, (.faddr 0 (.t 2)), none⟩, ⟨some
    6, (.load false 1 (.t 5)), none⟩, ⟨some 7, (.faddr 0 (.t 3)), none⟩, ⟨some 8, (.load false 1 (.t 7)), none⟩, ⟨some 9, (.bin .eql 0 (.t 6) (.t 8)), none⟩, ⟨some 10, (.mv (.t 9)),
    none⟩, ⟨some 11, (.faddr 1 (.t 2)), some (10, true)⟩, ⟨some 12, (.load false 1 (.t 11)), some (10, true)⟩, ⟨some 13, (.faddr 1 (.t 3)), some (10, true)⟩, ⟨some 14, (.load false 1
    (.t 13)), some (10, true)⟩, ⟨some 15, (.bin .eql 0 (.t 12) (.t 14)), some (10, true)⟩, ⟨some 16, (.pick (.t 10) (.t 15) (.c (.bool false))), none⟩, ⟨some 17, (.mv (.t 16)),
    none⟩, ⟨some 18, (.faddr 2 (.t 2)), some (17, true)⟩, ⟨some 19, (.load false 1 (.t 18)), some (17, true)⟩, ⟨some 20, (.faddr 2 (.t 3)), some (17, true)⟩, ⟨some 21, (.load false 1
    (.t 20)), some (17, true)⟩, ⟨some 22, (.bin .eql 0 (.t 19) (.t 21)), some (17, true)⟩, ⟨some 23, (.pick (.t 17) (.t 22) (.c (.bool false))), none⟩, ⟨some 24, (.mv (.t 23)),
    none⟩, ⟨some 25, (.faddr 3 (.t 2)), some (24, true)⟩, ⟨some 26, (.load false 1 (.t 25)), some (24, true)⟩, ⟨some 27, (.faddr 3 (.t 3)), some (24, true)⟩, ⟨some 28, (.load false 1
    (.t 27)), some (24, true)⟩, ⟨some 29, (.bin .eql 0 (.t 26) (.t 28)), some (24, true)⟩, ⟨some 30, (.pick (.t 24) (.t 29) (.c (.bool false))), none⟩, ⟨some 31, (.mv (.t 30)),
    none⟩, ⟨some 32, (.faddr 4 (.t 2)), some (31, true)⟩, ⟨some 33, (.load false 1 (.t 32)), some (31, true)⟩, ⟨some 34, (.faddr 4 (.t 3)), some (31, true)⟩, ⟨some 35, (.load false 1
    (.t 34)), some (31, true)⟩, ⟨some 36, (.bin .eql 0 (.t 33) (.t 35)), some (31, true)⟩, ⟨some 37, (.pick (.t 31) (.t 36) (.c (.bool false))), none⟩, ⟨some 38, (.mv (.t 37)),
    none⟩, ⟨some 39, (.faddr 5 (.t 2)), some (38, true)⟩, ⟨some 40, (.load false 1 (.t 39)), some (38, true)⟩, ⟨some 41, (.faddr 5 (.t 3)), some (38, true)⟩, ⟨some 42, (.load false 1
    (.t 41)), some (38, true)⟩, ⟨some 43, (.bin .eql 0 (.t 40) (.t 42)), some (38, true)⟩, ⟨some 44, (.pick (.t 38) (.t 43) (.c (.bool false))), none⟩, ⟨some 45, (.mv (.t 44)),
    none⟩, ⟨some 46, (.faddr 6 (.t 2)), some (45, true)⟩, ⟨some 47, (.load false 1 (.t 46)), some (45, true)⟩, ⟨some 48, (.faddr 6 (.t 3)), some (45, true)⟩, ⟨some 49, (.load false 1
    (.t 48)), some (45, true)⟩, ⟨some 50, (.bin .eql 1 (.t 47) (.t 49)), some (45, true)⟩, ⟨some 51, (.pick (.t 45) (.t 50) (.c (.bool false))), none⟩, ⟨some 52, (.mv (.t 51)),
    none⟩, ⟨some 53, (.faddr 7 (.t 2)), some (52, true)⟩, ⟨some 54, (.load false 1 (.t 53)), some (52, true)⟩, ⟨some 55, (.faddr 7 (.t 3)), some (52, true)⟩, ⟨some 56, (.load false 1
    (.t 55)), some (52, true)⟩, ⟨some 57, (.bin .eql 0 (.t 54) (.t 56)), some (52, true)⟩, ⟨some 58, (.pick (.t 52) (.t 57) (.c (.bool false))), none⟩, ⟨some 59, (.mv (.t 58)),
    none⟩, ⟨some 60, (.faddr 8 (.t 2)), some (59, true)⟩, ⟨some 61, (.load false 1 (.t 60)), some (59, true)⟩, ⟨some 62, (.faddr 8 (.t 3)), some (59, true)⟩, ⟨some 63, (.load false 1
    (.t 62)), some (59, true)⟩, ⟨some 64, (.bin .eql 0 (.t 61) (.t 63)), some (59, true)⟩, ⟨some 65, (.pick (.t 59) (.t 64) (.c (.bool false))), none⟩, ⟨some 66, (.mv (.t 65)),
    none⟩, ⟨some 67, (.faddr 9 (.t 2)), some (66, true)⟩, ⟨some 68, (.load false 1 (.t 67)), some (66, true)⟩, ⟨some 69, (.faddr 9 (.t 3)), some (66, true)⟩, ⟨some 70, (.load false 1
    (.t 69)), some (66, true)⟩, ⟨some 71, (.bin .eql 0 (.t 68) (.t 70)), some (66, true)⟩, ⟨some 72, (.pick (.t 66) (.t 71) (.c (.bool false))), none⟩, ⟨some 73, (.mv (.t 72)),
    none⟩, ⟨some 74, (.faddr 10 (.t 2)), some (73, true)⟩, ⟨some 75, (.load false 1 (.t 74)), some (73, true)⟩, ⟨some 76, (.faddr 10 (.t 3)), some (73, true)⟩, ⟨some 77, (.load false
    1 (.t 76)), some (73, true)⟩, ⟨some 78, (.bin .eql 0 (.t 75) (.t 77)), some (73, true)⟩, ⟨some 79, (.pick (.t 73) (.t 78) (.c (.bool false))), none⟩, ⟨some 80, (.mv (.t 79)),
    none⟩, ⟨some 81, (.faddr 11 (.t 2)), some (80, true)⟩, ⟨some 82, (.load false 1 (.t 81)), some (80, true)⟩, ⟨some 83, (.b2t (.t 82)), some (80, true)⟩, ⟨some 84, (.faddr 11 (.t
    3)), some (80, true)⟩, ⟨some 85, (.load false 1 (.t 84)), some (80, true)⟩, ⟨some 86, (.b2t (.t 85)), some (80, true)⟩, ⟨some 87, (.bin .eql 0 (.t 83) (.t 86)), some (80, true)⟩,
    ⟨some 88, (.pick (.t 80) (.t 87) (.c (.bool false))), none⟩, ⟨some 89, (.mv (.t 88)), none⟩, ⟨some 90, (.faddr 12 (.t 2)), some (89, true)⟩, ⟨some 91, (.load false 1 (.t 90)),
    some (89, true)⟩, ⟨some 92, (.faddr 12 (.t 3)), some (89, true)⟩, ⟨some 93, (.load false 1 (.t 92)), some (89, true)⟩, ⟨some 94, (.bin .eql 0 (.t 91) (.t 93)), some (89, true)⟩,
    ⟨some 95, (.pick (.t 89) (.t 94) (.c (.bool false))), none⟩, ⟨some 96, (.mv (.t 95)), none⟩, ⟨some 97, (.faddr 13 (.t 2)), some (96, true)⟩, ⟨some 98, (.load false 1 (.t 97)),
    some (96, true)⟩, ⟨some 99, (.faddr 13 (.t 3)), some (96, true)⟩, ⟨some 100, (.load false 1 (.t 99)), some (96, true)⟩, ⟨some 101, (.bin .eql 0 (.t 98) (.t 100)), some (96,
    true)⟩, ⟨some 102, (.pick (.t 96) (.t 101) (.c (.bool false))), none⟩, ⟨some 103, (.mv (.t 102)), none⟩, ⟨some 104, (.faddr 14 (.t 2)), some (103, true)⟩, ⟨some 105, (.load false
    1 (.t 104)), some (103, true)⟩, ⟨some 106, (.faddr 14 (.t 3)), some (103, true)⟩, ⟨some 107, (.load false 1 (.t 106)), some (103, true)⟩, ⟨some 108, (.call (fnv 41) [(.t 105),
    (.t 107)]), some (103, true)⟩, ⟨some 109, (.pick (.t 103) (.t 108) (.c (.bool false))), none⟩, ⟨some 110, (.mv (.t 109)), none⟩, ⟨some 111, (.faddr 15 (.t 2)), some (110, true)⟩,
    ⟨some 112, (.load false 1 (.t 111)), some (110, true)⟩, ⟨some 113, (.faddr 15 (.t 3)), some (110, true)⟩, ⟨some 114, (.load false 1 (.t 113)), some (110, true)⟩, ⟨some 115,
    (.call (fnv 41) [(.t 112), (.t 114)]), some (110, true)⟩, ⟨some 116, (.pick (.t 110) (.t 115) (.c (.bool false))), none⟩, ⟨some 117, (.mv (.t 116)), none⟩, ⟨some 118, (.faddr 16
    (.t 2)), some (117, true)⟩, ⟨some 119, (.load false 1 (.t 118)), some (117, true)⟩, ⟨some 120, (.faddr 16 (.t 3)), some (117, true)⟩, ⟨some 121, (.load false 1 (.t 120)), some
    (117, true)⟩, ⟨some 122, (.bin .eql 0 (.t 119) (.t 121)), some (117, true)⟩, ⟨some 123, (.pick (.t 117) (.t 122) (.c (.bool false))), none⟩, ⟨some 124, (.mv (.t 123)), none⟩,
    ⟨some 125, (.faddr 17 (.t 2)), some (124, true)⟩, ⟨some 126, (.load true 7 (.t 125)), some (124, true)⟩, ⟨some 127, (.faddr 17 (.t 3)), some (124, true)⟩, ⟨some 128, (.load true
    7 (.t 127)), some (124, true)⟩, ⟨some 129, (.call (fnv 28) [(.t 126), (.t 128)]), some (124, true)⟩, ⟨some 130, (.pick (.t 124) (.t 129) (.c (.bool false))), none⟩, ⟨some 4, (.mv
    (.t 130)), none⟩]) .ret)), 131, [(.t 4)]⟩
theorem t38 : tidyF Try.prog 38 = some c38 := by kernel_rfl
noncomputable def c82 : TFn := ⟨(.seq (.ops [⟨some 1, (.box 24 (.t 0)), none⟩, ⟨some 2, (.mv (.c (.bool false))), none⟩]) (.seq (.seq (.ops [⟨some 3, (.faddr 1 (.t 1)), none⟩, ⟨some 4, (.load false 1 (.t 3)),
    none⟩, ⟨some 5, (.bin .lss 0 (.t 4) (.c (.int .i64 0))), none⟩, ⟨some 6, (.mv (.t 5)), none⟩, ⟨some 7, (.faddr 1 (.t 1)), some (6, false)⟩, ⟨some 8, (.load false 1 (.t 7)), some
    (6, false)⟩, ⟨some 9, (.bin .gtr 0 (.t 8) (.c (.int .i64 6))), some (6, false)⟩, ⟨some 10, (.pick (.t 6) (.c (.bool true)) (.t 9)), none⟩, ⟨some 11, (.mv (.t 10)), none⟩, ⟨some
    12, (.faddr 2 (.t 1)), some (11, false)⟩, ⟨some 13, (.load false 1 (.t 12)), some (11, false)⟩, ⟨some 14, (.bin .lss 0 (.t 13) (.c (.int .i64 0))), some (11, false)⟩, ⟨some 15,
    (.pick (.t 11) (.c (.bool true)) (.t 14)), none⟩, ⟨some 16, (.mv (.t 15)), none⟩, ⟨some 17, (.faddr 2 (.t 1)), some (16, false)⟩, ⟨some 18, (.load false 1 (.t 17)), some (16,
    false)⟩, ⟨some 19, (.bin .gtr 0 (.t 18) (.c (.int .i64 6))), some (16, false)⟩, ⟨some 20, (.pick (.t 16) (.c (.bool true)) (.t 19)), none⟩, ⟨some 21, (.mv (.t 20)), none⟩, ⟨some
    22, (.faddr 3 (.t 1)), some (21, false)⟩, ⟨some 23, (.load false 1 (.t 22)), some (21, false)⟩, ⟨some 24, (.bin .lss 0 (.t 23) (.c (.int .i64 0))), some (21, false)⟩, ⟨some 25,
    (.pick (.t 21) (.c (.bool true)) (.t 24)), none⟩, ⟨some 26, (.mv (.t 25)), none⟩, ⟨some 27, (.faddr 3 (.t 1)), some (26, false)⟩, ⟨some 28, (.load false 1 (.t 27)), some (26,
    false)⟩, ⟨some 29, (.bin .gtr 0 (.t 28) (.c (.int .i64 1099511627776))), some (26, false)⟩, ⟨some 30, (.pick (.t 26) (.c (.bool true)) (.t 29)), none⟩]) (.cond (.t 30) (.seq
    (.ops [⟨some 2, (.mv (.c (.bool false))), none⟩]) .ret) .skip)) (.seq (.seq (.ops [⟨some 31, (.faddr 0 (.t 1)), none⟩, ⟨some 32, (.load false 1 (.t 31)), none⟩]) (.block 0 (.seq
    (.seq (.ops [⟨some 34, (.bin .eql 0 (.t 32) (.c (.int .i64 1))), none⟩, ⟨some 33, (.mv (.t 34)), none⟩]) (.cond (.t 33) .skip (.ops [⟨some 35, (.bin .eql 0 (.t 32) (.c (.int .i64
    6))), none⟩, ⟨some 33, (.mv (.t 35)), none⟩]))) (.cond (.t 33) (.seq (.ops [⟨some 2, (.mv (.c (.bool true))), none⟩]) .ret) (.seq (.ops [⟨some 37, (.bin .eql 0 (.t 32) (.c (.int
    .i64 2))), none⟩, ⟨some 36, (.mv (.t 37)), none⟩]) (.cond (.t 36) (.seq (.ops [⟨some 38, (.faddr 4 (.t 1)), none⟩, ⟨some 39, (.load false 1 (.t 38)), none⟩, ⟨some 40, (.faddr 5
    (.t 1)), none⟩, ⟨some 41, (.load false 1 (.t 40)), none⟩, ⟨some 42, (.bslice [(.int .i64 0)] 1 2 [(0, (.t 39)), (1, (.t 41))]), none⟩, ⟨some 43, (.call (fnv 130) [(.t 42), (.c
    (.int .i64 2))]), none⟩, ⟨some 2, (.mv (.t 43)), none⟩]) .ret) (.seq (.ops [⟨some 45, (.bin .eql 0 (.t 32) (.c (.int .i64 3))), none⟩, ⟨some 44, (.mv (.t 45)), none⟩]) (.cond (.t
    44) (.seq (.ops [⟨some 46, (.faddr 7 (.t 1)), none⟩, ⟨some 47, (.load false 1 (.t 46)), none⟩, ⟨some 48, (.bin .geq 0 (.t 47) (.c (.int .i64 0))), none⟩, ⟨some 49, (.mv (.t 48)),
    none⟩, ⟨some 50, (.faddr 7 (.t 1)), some (49, true)⟩, ⟨some 51, (.load false 1 (.t 50)), some (49, true)⟩, ⟨some 52, (.bin .leq 0 (.t 51) (.c (.int .i64 127))), some (49, true)⟩,
    ⟨some 53, (.pick (.t 49) (.t 52) (.c (.bool false))), none⟩, ⟨some 54, (.mv (.t 53)), none⟩, ⟨some 55, (.faddr 8 (.t 1)), some (54, true)⟩, ⟨some 56, (.load false 1 (.t 55)),
    some (54, true)⟩, ⟨some 57, (.bin .geq 0 (.t 56) (.c (.int .i64 0))), some (54, true)⟩, ⟨some 58, (.pick (.t 54) (.t 57) (.c (.bool false))), none⟩, ⟨some 59, (.mv (.t 58)),
    none⟩, ⟨some 60, (.faddr 8 (.t 1)), some (59, true)⟩, ⟨some 61, (.load false 1 (.t 60)), some (59, true)⟩, ⟨some 62, (.bin .leq 0 (.t 61) (.c (.int .i64 6))), some (59, true)⟩,
    ⟨some 63, (.pick (.t 59) (.t 62) (.c (.bool false))), none⟩, ⟨some 64, (.mv (.t 63)), none⟩, ⟨some 65, (.faddr 5 (.t 1)), some (64, true)⟩, ⟨some 66, (.load false 1 (.t 65)),
    some (64, true)⟩, ⟨some 67, (.bslice [(.int .i64 0)] 1 1 [(0, (.t 66))]), some (64, true)⟩, ⟨some 68, (.call (fnv 130) [(.t 67), (.c (.int .i64 1))]), some (64, true)⟩, ⟨some 69,
    (.pick (.t 64) (.t 68) (.c (.bool false))), none⟩, ⟨some 2, (.mv (.t 69)), none⟩]) .ret) (.seq (.ops [⟨some 71, (.bin .eql 0 (.t 32) (.c (.int .i64 4))), none⟩, ⟨some 70, (.mv
    (.t 71)), none⟩]) (.cond (.t 70) (.seq (.ops [⟨some 72, (.faddr 9 (.t 1)), none⟩, ⟨some 73, (.load false 1 (.t 72)), none⟩, ⟨some 74, (.bslice [(.int .i64 0)] 1 1 [(0, (.t
    73))]), none⟩, ⟨some 75, (.call (fnv 130) [(.t 74), (.c (.int .i64 1))]), none⟩, ⟨some 2, (.mv (.t 75)), none⟩]) .ret) (.seq (.ops [⟨some 77, (.bin .eql 0 (.t 32) (.c (.int .i64
    5))), none⟩, ⟨some 76, (.mv (.t 77)), none⟩]) (.cond (.t 76) (.seq (.ops [⟨some 78, (.faddr 9 (.t 1)), none⟩, ⟨some 79, (.load false 1 (.t 78)), none⟩, ⟨some 80, (.faddr 10 (.t
    1)), none⟩, ⟨some 81, (.load false 1 (.t 80)), none⟩, ⟨some 82, (.bslice [(.int .i64 0)] 1 2 [(0, (.t 79)), (1, (.t 81))]), none⟩, ⟨some 83, (.call (fnv 130) [(.t 82), (.c (.int
    .i64 2))]), none⟩, ⟨some 84, (.mv (.t 83)), none⟩, ⟨some 85, (.faddr 11 (.t 1)), some (84, true)⟩, ⟨some 86, (.load false 1 (.t 85)), some (84, true)⟩, ⟨some 87, (.lenS (.t 86)),
    some (84, true)⟩, ⟨some 88, (.bin .leq 0 (.t 87) (.c (.int .i64 64))), some (84, true)⟩, ⟨some 89, (.pick (.t 84) (.t 88) (.c (.bool false))), none⟩, ⟨some 2, (.mv (.t 89)),
    none⟩]) .ret) (.seq (.ops [⟨some 91, (.bin .eql 0 (.t 32) (.c (.int .i64 7))), none⟩, ⟨some 90, (.mv (.t 91)), none⟩]) (.cond (.t 90) (.seq (.ops [⟨some 92, (.faddr 12 (.t 1)),
    none⟩, ⟨some 93, (.load false 1 (.t 92)), none⟩, ⟨some 94, (.faddr 13 (.t 1)), none⟩, ⟨some 95, (.load false 1 (.t 94)), none⟩, ⟨some 96, (.bslice [(.int .i64 0)] 1 2 [(0, (.t
    93)), (1, (.t 95))]), none⟩, ⟨some 97, (.call (fnv 130) [(.t 96), (.c (.int .i64 2))]), none⟩, ⟨some 98, (.mv (.t 97)), none⟩, ⟨some 99, (.faddr 14 (.t 1)), some (98, true)⟩,
    ⟨some 100, (.load false 1 (.t 99)), some (98, true)⟩, ⟨some 101, (.call (fnv 130) [(.t 100), (.c (.int .i64 7))]), some (98, true)⟩, ⟨some 102, (.pick (.t 98) (.t 101) (.c (.bool
    false))), none⟩, ⟨some 103, (.mv (.t 102)), none⟩, ⟨some 104, (.faddr 15 (.t 1)), some (103, true)⟩, ⟨some 105, (.load false 1 (.t 104)), some (103, true)⟩, ⟨some 106, (.call
    (fnv 130) [(.t 105), (.c (.int .i64 8))]), some (103, true)⟩, ⟨some 107, (.pick (.t 103) (.t 106) (.c (.bool false))), none⟩, ⟨some 2, (.mv (.t 107)), none⟩]) .ret) (.seq (.ops
    [⟨some 109, (.bin .eql 0 (.t 32) (.c (.int .i64 8))), none⟩, ⟨some 108, (.mv (.t 109)), none⟩]) (.cond (.t 108) (.seq (.ops [⟨some 110, (.faddr 16 (.t 1)), none⟩, ⟨some 111,
    (.load false 1 (.t 110)), none⟩, ⟨some 112, (.bslice [(.int .i64 0)] 1 1 [(0, (.t 111))]), none⟩, ⟨some 113, (.call (fnv 130) [(.t 112), (.c (.int .i64 1))]), none⟩, ⟨some 114,
    (.mv (.t 113)), none⟩, ⟨some 115, (.faddr 17 (.t 1)), some (114, true)⟩, ⟨some 116, (.load true 7 (.t 115)), some (114, true)⟩, ⟨some 117, (.call (fnv 131) [(.t 116)]), some
    (114, true)⟩, ⟨some 118, (.pick (.t 114) (.t 117) (.c (.bool false))), none⟩, ⟨some 2, (.mv (.t 118)), none⟩]) .ret) .skip)))))))))))))))) (.seq (.ops [⟨some 2, (.mv (.c (.bool
    false))), none⟩]) .ret)))), 119, [(.t 2)]⟩
theorem t82 : tidyF Try.prog 82 = some c82 := by kernel_rfl
noncomputable def c130 : TFn := ⟨(.seq (.ops [⟨some 4, (.mv (.c (.bool false))), none⟩]) (.seq (.seq (.ops [⟨some 5, (.mv (.c (.int .i64 0))), none⟩]) (.block 0 (.loop (.seq (.seq (.ops [⟨some 6, (.mv (.t 5)),
    none⟩, ⟨some 7, (.mv (.t 0)), none⟩, ⟨some 8, (.lenS (.t 7)), none⟩, ⟨some 9, (.bin .lss 0 (.t 6) (.t 8)), none⟩]) (.cond (.t 9) .skip (.exit 0))) (.seq (.block 1 (.seq (.ops
    [⟨some 12, (.mv (.t 0)), none⟩, ⟨some 13, (.mv (.t 5)), none⟩, ⟨some 14, (.iaddrS 1 (.t 12) (.t 13)), none⟩, ⟨some 15, (.load false 1 (.t 14)), none⟩, ⟨some 16, (.bin .lss 0 (.t
    15) (.c (.int .i64 0))), none⟩, ⟨some 17, (.mv (.t 16)), none⟩, ⟨some 18, (.mv (.t 0)), some (17, false)⟩, ⟨some 19, (.mv (.t 5)), some (17, false)⟩, ⟨some 20, (.iaddrS 1 (.t 18)
    (.t 19)), some (17, false)⟩, ⟨some 21, (.load false 1 (.t 20)), some (17, false)⟩, ⟨some 22, (.bin .gtr 0 (.t 21) (.c (.int .i64 1099511627776))), some (17, false)⟩, ⟨some 23,
    (.pick (.t 17) (.c (.bool true)) (.t 22)), none⟩]) (.cond (.t 23) (.seq (.ops [⟨some 4, (.mv (.c (.bool false))), none⟩]) .ret) .skip))) (.ops [⟨some 10, (.mv (.t 5)), none⟩,
    ⟨some 11, (.bin .add 0 (.t 10) (.c (.int .i64 1))), none⟩, ⟨some 5, (.mv (.t 11)), none⟩])))))) (.seq (.ops [⟨some 24, (.mv (.t 0)), none⟩, ⟨some 25, (.lenS (.t 24)), none⟩,
    ⟨some 26, (.mv (.t 1)), none⟩, ⟨some 27, (.bin .leq 0 (.t 25) (.t 26)), none⟩, ⟨some 4, (.mv (.t 27)), none⟩]) .ret))), 28, [(.t 4)]⟩
theorem t130 : tidyF Try.prog 130 = some c130 := by kernel_rfl
noncomputable def c131 : TFn := ⟨(.seq (.ops [⟨some 1, (.box 7 (.t 0)), none⟩, ⟨some 2, (.mv (.c (.bool false))), none⟩]) (.seq (.ops [⟨some 4, (.faddr 2 (.t 1)), none⟩, ⟨some 5, (.load true 5 (.t 4)), none⟩,
    ⟨some 3, (.alloc [(.int .i64 0), (.int .i64 0), (.slice none 0 0), (.slice none 0 0), (.slice none 0 0)] 5), none⟩, ⟨none, (.store 5 (.t 3) (.t 5)), none⟩]) (.seq (.ops [⟨some 6,
    (.faddr 0 (.t 1)), none⟩, ⟨some 7, (.load false 1 (.t 6)), none⟩, ⟨some 8, (.bin .geq 0 (.t 7) (.c (.int .i64 0))), none⟩, ⟨some 9, (.mv (.t 8)), none⟩, ⟨some 10, (.faddr 0 (.t
    1)), some (9, true)⟩, ⟨some 11, (.load false 1 (.t 10)), some (9, true)⟩, ⟨some 12, (.bin .leq 0 (.t 11) (.c (.int .i64 1073741824))), some (9, true)⟩, ⟨some 13, (.pick (.t 9)
    (.t 12) (.c (.bool false))), none⟩, ⟨some 14, (.mv (.t 13)), none⟩, ⟨some 15, (.faddr 1 (.t 1)), some (14, true)⟩, ⟨some 16, (.load false 1 (.t 15)), some (14, true)⟩, ⟨some 17,
    (.bin .geq 0 (.t 16) (.c (.int .i64 0))), some (14, true)⟩, ⟨some 18, (.pick (.t 14) (.t 17) (.c (.bool false))), none⟩, ⟨some 19, (.mv (.t 18)), none⟩, ⟨some 20, (.faddr 1 (.t
    1)), some (19, true)⟩, ⟨some 21, (.load false 1 (.t 20)), some (19, true)⟩, ⟨some 22, (.bin .leq 0 (.t 21) (.c (.int .i64 1073741824))), some (19, true)⟩, ⟨some 23, (.pick (.t
    19) (.t 22) (.c (.bool false))), none⟩, ⟨some 24, (.mv (.t 23)), none⟩, ⟨some 25, (.faddr 0 (.t 3)), some (24, true)⟩, ⟨some 26, (.load false 1 (.t 25)), some (24, true)⟩, ⟨some
    27, (.bin .geq 0 (.t 26) (.c (.int .i64 0))), some (24, true)⟩, ⟨some 28, (.pick (.t 24) (.t 27) (.c (.bool false))), none⟩, ⟨some 29, (.mv (.t 28)), none⟩, ⟨some 30, (.faddr 0
    (.t 3)), some (29, true)⟩, ⟨some 31, (.load false 1 (.t 30)), some (29, true)⟩, ⟨some 32, (.bin .leq 0 (.t 31) (.c (.int .i64 1073741824))), some (29, true)⟩, ⟨some 33, (.pick
    (.t 29) (.t 32) (.c (.bool false))), none⟩, ⟨some 34, (.mv (.t 33)), none⟩, ⟨some 35, (.faddr 1 (.t 3)), some (34, true)⟩, ⟨some 36, (.load false 1 (.t 35)), some (34, true)⟩,
    ⟨some 37, (.bin .geq 0 (.t 36) (.c (.int .i64 0))), some (34, true)⟩, ⟨some 38, (.pick (.t 34) (.t 37) (.c (.bool false))), none⟩, ⟨some 39, (.mv (.t 38)), none⟩, ⟨some 40,
    (.faddr 1 (.t 3)), some (39, true)⟩, ⟨some 41, (.load false 1 (.t 40)), some (39, true)⟩, ⟨some 42, (.bin .leq 0 (.t 41) (.c (.int .i64 1073741824))), some (39, true)⟩, ⟨some 43,
    (.pick (.t 39) (.t 42) (.c (.bool false))), none⟩, ⟨some 44, (.mv (.t 43)), none⟩, ⟨some 45, (.faddr 2 (.t 3)), some (44, true)⟩, ⟨some 46, (.load false 1 (.t 45)), some (44,
    true)⟩, ⟨some 47, (.lenS (.t 46)), some (44, true)⟩, ⟨some 48, (.bin .leq 0 (.t 47) (.c (.int .i64 32))), some (44, true)⟩, ⟨some 49, (.pick (.t 44) (.t 48) (.c (.bool false))),
    none⟩, ⟨some 50, (.mv (.t 49)), none⟩, ⟨some 51, (.faddr 3 (.t 3)), some (50, true)⟩, ⟨some 52, (.load false 1 (.t 51)), some (50, true)⟩, ⟨some 53, (.lenS (.t 52)), some (50,
    true)⟩, ⟨some 54, (.bin .leq 0 (.t 53) (.c (.int .i64 32))), some (50, true)⟩, ⟨some 55, (.pick (.t 50) (.t 54) (.c (.bool false))), none⟩, ⟨some 56, (.mv (.t 55)), none⟩, ⟨some
    57, (.faddr 4 (.t 3)), some (56, true)⟩, ⟨some 58, (.load false 1 (.t 57)), some (56, true)⟩, ⟨some 59, (.lenS (.t 58)), some (56, true)⟩, ⟨some 60, (.bin .leq 0 (.t 59) (.c
    (.int .i64 32))), some (56, true)⟩, ⟨some 61, (.pick (.t 56) (.t 60) (.c (.bool false))), none⟩, ⟨some 2, (.mv (.t 61)), none⟩]) .ret))), 62, [(.t 2)]⟩
theorem t131 : tidyF Try.prog 131 = some c131 := by kernel_rfl
noncomputable def c70 : TFn := ⟨(.seq (.ops [⟨some 1, (.box 24 (.t 0)), none⟩, ⟨some 2, (.mv (.c (.slice none 0 0))), none⟩]) (.seq (.seq (.ops [⟨some 3, (.load true 24 (.t 1)), none⟩, ⟨some 4, (.call (fnv 82)
    [(.t 3)]), none⟩, ⟨some 5, (.un .not (.t 4)), none⟩]) (.cond (.t 5) (.seq (.ops [⟨some 2, (.mv (.c (.slice none 0 0))), none⟩]) .ret) .skip)) (.seq (.ops [⟨some 6, (.load true 24
    (.t 1)), none⟩, ⟨some 7, (.call (fnv 53) [(.t 6)]), none⟩, ⟨some 8, (.call (fnv 58) [(.t 7)]), none⟩, ⟨some 2, (.mv (.t 8)), none⟩]) .ret))), 9, [(.t 2)]⟩
theorem t70 : tidyF Try.prog 70 = some c70 := by kernel_rfl
noncomputable def c71 : TFn := ⟨(.seq (.ops [⟨some 2, (.alloc [(.int .i64 0), (.int .i64 0), (.int .i64 0), (.int .i64 0), (.int .i64 0), (.int .i64 0), (.bool false), (.int .i64 0), (.int .i64 0), (.int .i64
    0), (.int .i64 0), (.slice none 0 0), (.int .i64 0), (.int .i64 0), (.slice none 0 0), (.slice none 0 0), (.int .i64 0), (.int .i64 0), (.int .i64 0), (.int .i64 0), (.int .i64
    0), (.slice none 0 0), (.slice none 0 0), (.slice none 0 0)] 24), none⟩, ⟨some 3, (.mv (.c (.bool false))), none⟩]) (.seq (.ops [⟨some 7, (.mv (.t 0)), none⟩, ⟨some 8, (.call
    (fnv 122) [(.t 7)]), none⟩, ⟨some 6, (.mv (.t 8)), none⟩, ⟨some 9, (.ext (.t 6) 0), none⟩, ⟨some 10, (.ext (.t 6) 1), none⟩, ⟨some 4, (.mv (.t 9)), none⟩, ⟨some 5, (.mv (.t 10)),
    none⟩]) (.seq (.seq (.ops [⟨some 11, (.mv (.t 5)), none⟩, ⟨some 12, (.un .not (.t 11)), none⟩]) (.cond (.t 12) (.seq (.ops [⟨some 13, (.build [(.int .i64 0), (.int .i64 0), (.int
    .i64 0), (.int .i64 0), (.int .i64 0), (.int .i64 0), (.bool false), (.int .i64 0), (.int .i64 0), (.int .i64 0), (.int .i64 0), (.slice none 0 0), (.int .i64 0), (.int .i64 0),
    (.slice none 0 0), (.slice none 0 0), (.int .i64 0), (.int .i64 0), (.int .i64 0), (.int .i64 0), (.int .i64 0), (.slice none 0 0), (.slice none 0 0), (.slice none 0 0)] []),
    none⟩, ⟨none, (.store 24 (.t 2) (.t 13)), none⟩, ⟨some 3, (.mv (.c (.bool false))), none⟩]) .ret) .skip)) (.seq (.ops [⟨some 14, (.mv (.t 4)), none⟩, ⟨some 15, (.call (fnv 55)
    [(.t 14)]), none⟩, ⟨some 16, (.ext (.t 15) 0), none⟩, ⟨some 17, (.ext (.t 15) 1), none⟩, ⟨none, (.store 24 (.t 2) (.t 16)), none⟩, ⟨some 3, (.mv (.t 17)), none⟩]) .ret)))), 18,
    [(.cell 2 true 24), (.t 3)]⟩
theorem t71 : tidyF Try.prog 71 = some c71 := by kernel_rfl
noncomputable def c67 : TFn := ⟨(.seq (.ops [⟨some 1, (.box 24 (.t 0)), none⟩, ⟨some 2, (.mv (.c (.slice none 0 0))), none⟩]) (.seq (.ops [⟨some 4, (.load true 24 (.t 1)), none⟩, ⟨some 5, (.call (fnv 50) [(.t
    4)]), none⟩, ⟨some 3, (.mv (.t 5)), none⟩]) (.seq (.seq (.ops [⟨some 6, (.mv (.t 3)), none⟩, ⟨some 7, (.lenS (.t 6)), none⟩, ⟨some 8, (.bin .eql 0 (.t 7) (.c (.int .i64 0))),
    none⟩]) (.cond (.t 8) (.seq (.ops [⟨some 2, (.mv (.c (.slice none 0 0))), none⟩]) .ret) .skip)) (.seq (.ops [⟨some 9, (.mv (.t 3)), none⟩, ⟨some 10, (.call (fnv 114) [(.t 9)]),
    none⟩, ⟨some 2, (.mv (.t 10)), none⟩]) .ret)))), 11, [(.t 2)]⟩
theorem t67 : tidyF Try.prog 67 = some c67 := by kernel_rfl
noncomputable def c68 : TFn := ⟨(.seq (.ops [⟨some 2, (.alloc [(.int .i64 0), (.int .i64 0), (.int .i64 0), (.int .i64 0), (.int .i64 0), (.int .i64 0), (.bool false), (.int .i64 0), (.int .i64 0), (.int .i64
    0), (.int .i64 0), (.slice none 0 0), (.int .i64 0), (.int .i64 0), (.slice none 0 0), (.slice none 0 0), (.int .i64 0), (.int .i64 0), (.int .i64 0), (.int .i64 0), (.int .i64
    0), (.slice none 0 0), (.slice none 0 0), (.slice none 0 0)] 24), none⟩, ⟨some 3, (.mv (.c (.bool false))), none⟩]) (.seq (.ops [⟨some 9, (.mv (.t 0)), none⟩, ⟨some 10, (.call
    (fnv 115) [(.t 9)]), none⟩, ⟨some 8, (.mv (.t 10)), none⟩, ⟨some 11, (.ext (.t 8) 0), none⟩, ⟨some 12, (.ext (.t 8) 1), none⟩, ⟨some 4, (.mv (.t 11)), none⟩, ⟨some 5, (.mv (.t
    12)), none⟩]) (.seq (.ops [⟨some 14, (.mv (.t 4)), none⟩, ⟨some 15, (.call (fnv 51) [(.t 14)]), none⟩, ⟨some 13, (.mv (.t 15)), none⟩, ⟨some 16, (.ext (.t 13) 0), none⟩, ⟨some
    17, (.ext (.t 13) 1), none⟩, ⟨some 6, (.alloc [(.int .i64 0), (.int .i64 0), (.int .i64 0), (.int .i64 0), (.int .i64 0), (.int .i64 0), (.bool false), (.int .i64 0), (.int .i64
    0), (.int .i64 0), (.int .i64 0), (.slice none 0 0), (.int .i64 0), (.int .i64 0), (.slice none 0 0), (.slice none 0 0), (.int .i64 0), (.int .i64 0), (.int .i64 0), (.int .i64
    0), (.int .i64 0), (.slice none 0 0), (.slice none 0 0), (.slice none 0 0)] 24), none⟩, ⟨none, (.store 24 (.t 6) (.t 16)), none⟩, ⟨some 7, (.mv (.t 17)), none⟩]) (.seq (.seq
    (.ops [⟨some 18, (.mv (.t 5)), none⟩, ⟨some 19, (.un .not (.t 18)), none⟩, ⟨some 20, (.mv (.t 19)), none⟩, ⟨some 21, (.mv (.t 7)), some (20, false)⟩, ⟨some 22, (.un .not (.t
    21)), some (20, false)⟩, ⟨some 23, (.pick (.t 20) (.c (.bool true)) (.t 22)), none⟩]) (.cond (.t 23) (.seq (.ops [⟨some 24, (.build [(.int .i64 0), (.int .i64 0), (.int .i64 0),
    (.int .i64 0), (.int .i64 0), (.int .i64 0), (.bool false), (.int .i64 0), (.int .i64 0), (.int .i64 0), (.int .i64 0), (.slice none 0 0), (.int .i64 0), (.int .i64 0), (.slice
    none 0 0), (.slice none 0 0), (.int .i64 0), (.int .i64 0), (.int .i64 0), (.int .i64 0), (.int .i64 0), (.slice none 0 0), (.slice none 0 0), (.slice none 0 0)] []), none⟩,
    ⟨none, (.store 24 (.t 2) (.t 24)), none⟩, ⟨some 3, (.mv (.c (.bool false))), none⟩]) .ret) .skip)) (.seq (.ops [⟨some 25, (.load true 24 (.t 6)), none⟩, ⟨none, (.store 24 (.t 2)
    (.t 25)), none⟩, ⟨some 3, (.mv (.c (.bool true))), none⟩]) .ret))))), 26, [(.cell 2 true 24), (.t 3)]⟩
theorem t68 : tidyF Try.prog 68 = some c68 := by kernel_rfl
end Go.Proofs.Ytapmpenkceomdaa
/- Entries as bytes. -/
set_option linter.unusedSimpArgs false
set_option linter.unusedVariables false
set_option maxRecDepth 20000
namespace Go.Proofs.Ytapmpenkceomdaa
open Go.Ab

variable {n d : Nat} {h : AHeap}

structure Entry where
  sess : Int
  seq : Int
  kind : Int
  who : Int
  key : List UInt8
  val : List UInt8
  old : List UInt8
  deriving DecidableEq

/-- an entry's cells -/
def RepE (lo hi : Nat) (h : AHeap) (cs : List Value) (e : Entry) : Prop :=
  ∃ k v o, cs = [.int .i64 e.sess, .int .i64 e.seq, .int .i64 e.kind, .int .i64 e.who, k, v, o] ∧ Bytes lo hi h k e.key ∧ Bytes lo hi h v e.val ∧ Bytes lo hi h o e.old
theorem RepE.ext {lo hi to : Nat} {S : Nat → Prop} {h' : AHeap} {cs : List Value} {e : Entry} (r : RepE lo hi h cs e) (x : Ext S to h h') (hl : hi ≤ to) (hs : ∀ m, lo ≤ m → m < hi → ¬ S m) : RepE lo hi h' cs e := by
  obtain ⟨k, v, o, rfl, h1, h2, h3⟩ := r
  exact ⟨k, v, o, rfl, h1.ext x hl hs, h2.ext x hl hs, h3.ext x hl hs⟩
theorem RepE.keep {lo hi to : Nat} {h' : AHeap} {cs : List Value} {e : Entry} (r : RepE lo hi h cs e) (x : Ext no to h h') (hl : hi ≤ to) : RepE lo hi h' cs e := r.ext x hl fun _ _ _ x => x
def Entry.len (e : Entry) : Nat := e.key.length + e.val.length + e.old.length

def numsB (l : List Int) : List UInt8 := l.flatMap fun a => vnum (heldN a)
def putEntry (e : Entry) : List UInt8 := numsB [e.sess, e.seq, e.kind, e.who] ++ [e.key, e.val, e.old].flatMap vbytes
theorem vnum_held (a : Int) : (vnum (heldN a)).length ≤ 9 := vnum_len10 _ (heldN_le a)
theorem numsB_len : ∀ l : List Int, (numsB l).length ≤ 9 * l.length
  | [] => by simp [numsB]
  | a :: l => by
    have := numsB_len l
    have := vnum_held a
    simp only [numsB, List.flatMap_cons, List.length_append, List.length_cons] at *
    omega
theorem numsB_snoc (l : List Int) (a : Int) : numsB (l ++ [a]) = numsB l ++ vnum (heldN a) := by simp [numsB]

theorem putE_spec (hd : 4 ≤ d) (hn : 20 ≤ n) {v : Value} {l : List UInt8} {cs : List Value} {e : Entry} (hv : Bytes 0 h.next h v l) (he : RepE 0 h.next h cs e) (hl : l.length ≤ 2 ^ 44) (hl' : e.len ≤ 2 ^ 42) :
    ∃ v' h', aCall Try.prog n d 113 [v, .agg ⟨cs⟩] h = some (v', h') ∧ Ext no h.next h h' ∧ OwnB h.next h' v' (l ++ putEntry e) := by
  obtain ⟨d, rfl, hd⟩ := depth hd
  refine call_of t113 (Nat.le_of_ble_eq_true rfl) ?_
  simp only [c113, run, Option.map_some, Nat.reduceEqDiff, Nat.reduceAdd, Nat.zero_add, ↓reduceIte, decide_eq_true_eq, decide_true, decide_false, Bool.not_true, Bool.not_false, Bool.true_eq_false, Bool.false_eq_true, List.getElem?_cons_zero, List.getElem?_cons_succ, List.nil_append, List.cons_append, reduceCtorEq, eq_self, decide_eq_false_iff_not, not_true_eq_false, not_false_eq_true, Nat.add_zero, Nat.succ_ne_self, Nat.one_ne_zero, Nat.zero_ne_one, cells_agg]
  obtain ⟨h0, eh, x0, n0, g0⟩ := boxed h ⟨cs, 7, 0, none⟩
  rw [eh]
  obtain ⟨k, w, o, rfl, hk, hw, ho⟩ := he
  have L := fun i => ld_cell (o := i) g0 (by decide)
  simp only [run, Option.map_some, Nat.reduceEqDiff, Nat.reduceAdd, Nat.zero_add, ↓reduceIte, decide_eq_true_eq, decide_true, decide_false, Bool.not_true, Bool.not_false, Bool.true_eq_false, Bool.false_eq_true, List.getElem?_cons_zero, List.getElem?_cons_succ, List.nil_append, List.cons_append, reduceCtorEq, eq_self, decide_eq_false_iff_not, not_true_eq_false, not_false_eq_true, Nat.add_zero, Nat.succ_ne_self, Nat.one_ne_zero, Nat.zero_ne_one, L]
  refine useE (bslice_4 _ rfl rfl rfl rfl) ?_
  (try simp only [run, Option.map_some, Nat.reduceEqDiff, Nat.reduceAdd, Nat.zero_add, ↓reduceIte, decide_eq_true_eq, decide_true, decide_false, Bool.not_true, Bool.not_false, Bool.true_eq_false, Bool.false_eq_true, List.getElem?_cons_zero, List.getElem?_cons_succ, List.nil_append, List.cons_append, reduceCtorEq, eq_self, decide_eq_false_iff_not, not_true_eq_false, not_false_eq_true, Nat.add_zero, Nat.succ_ne_self, Nat.one_ne_zero, Nat.zero_ne_one])
  obtain ⟨h1, eh1, x1, n1, g1⟩ := boxed h0 ⟨[.int .i64 e.sess, .int .i64 e.seq, .int .i64 e.kind, .int .i64 e.who], 1, 0, none⟩
  rw [eh1]
  have x01 : Ext no h.next h h1 := x0.trans x1 (by omega)
  have s1 : Ints h0.next h1.next h1 (.slice (some ⟨h0.next, 0, none⟩) 4 4) [e.sess, e.seq, e.kind, e.who] := Sl.of_block g1 (by decide) rfl (Nat.le_refl _) (by omega)
  have g01 : h1.get h.next = _ := (x1.get h.next (by omega) (fun x => x)).trans g0
  refine w_loop (fun m E g => ∃ i, i + m = 4 ∧ E 3 = .pointer (some ⟨h.next, 0, none⟩) ∧ E 19 = .slice (some ⟨h0.next, 0, none⟩) 4 4 ∧ E 20 = .int .i64 ((4 : Nat) : Int) ∧ E 21 = .int .i64 (i : Nat) ∧
    Ext no h1.next h1 g ∧ Bytes 0 g.next g (E 0) (l ++ numsB ([e.sess, e.seq, e.kind, e.who].take i))) 4 (by omega) ?_ ?_
  · refine ⟨0, by omega, rfl, rfl, rfl, rfl, Ext.refl _ _ _, ?_⟩
    simp only [run, Option.map_some, Nat.reduceEqDiff, Nat.reduceAdd, Nat.zero_add, ↓reduceIte, decide_eq_true_eq, decide_true, decide_false, Bool.not_true, Bool.not_false, Bool.true_eq_false, Bool.false_eq_true, List.getElem?_cons_zero, List.getElem?_cons_succ, List.nil_append, List.cons_append, reduceCtorEq, eq_self, decide_eq_false_iff_not, not_true_eq_false, not_false_eq_true, Nat.add_zero, Nat.succ_ne_self, Nat.one_ne_zero, Nat.zero_ne_one, List.take_zero, numsB, List.flatMap_nil, List.append_nil]
    exact (hv.keep x01 (Nat.le_refl _)).more (Nat.le_refl _) (by omega)
  rintro m E g ⟨i, hm, e3, e19, e20, e21, xg, hcur⟩
  have hcl : ∀ j, (numsB ([e.sess, e.seq, e.kind, e.who].take j)).length ≤ 36 := fun j => Nat.le_trans (numsB_len _) (by simp; omega)
  have xgn := xg.next
  simp only [run, Option.map_some, Nat.reduceEqDiff, Nat.reduceAdd, Nat.zero_add, ↓reduceIte, decide_eq_true_eq, decide_true, decide_false, Bool.not_true, Bool.not_false, Bool.true_eq_false, Bool.false_eq_true, List.getElem?_cons_zero, List.getElem?_cons_succ, List.nil_append, List.cons_append, reduceCtorEq, eq_self, decide_eq_false_iff_not, not_true_eq_false, not_false_eq_true, Nat.add_zero, Nat.succ_ne_self, Nat.one_ne_zero, Nat.zero_ne_one, e3, e19, e20, e21]
  by_cases hi : i < 4
  · have hi' : ((i : Int) < ((4 : Nat) : Int)) = True := eq_true (by omega)
    obtain ⟨q, p, a1, _, a2⟩ := loadI (k := .i64) (s1.keep xg (Nat.le_refl _)) (i := i) hi
    have a6 : binV .add 0 (.int .i64 i) (.int .i64 1) = some (.int .i64 ((i + 1 : Nat) : Int)) := b_addN 0 (k := .i64) (a := i) (b := 1) (fits_i64 (by omega))
    simp only [run, Option.map_some, Nat.reduceEqDiff, Nat.reduceAdd, Nat.zero_add, ↓reduceIte, decide_eq_true_eq, decide_true, decide_false, Bool.not_true, Bool.not_false, Bool.true_eq_false, Bool.false_eq_true, List.getElem?_cons_zero, List.getElem?_cons_succ, List.nil_append, List.cons_append, reduceCtorEq, eq_self, decide_eq_false_iff_not, not_true_eq_false, not_false_eq_true, Nat.add_zero, Nat.succ_ne_self, Nat.one_ne_zero, Nat.zero_ne_one, hi', e3, e19, e20, e21, a1, a2]
    have := hcl i
    refine use (num_spec (by omega) hn hcur (by simp; omega)) ?_
    rintro v2 h2 ⟨x2, o2⟩
    simp only [run, Option.map_some, Nat.reduceEqDiff, Nat.reduceAdd, Nat.zero_add, ↓reduceIte, decide_eq_true_eq, decide_true, decide_false, Bool.not_true, Bool.not_false, Bool.true_eq_false, Bool.false_eq_true, List.getElem?_cons_zero, List.getElem?_cons_succ, List.nil_append, List.cons_append, reduceCtorEq, eq_self, decide_eq_false_iff_not, not_true_eq_false, not_false_eq_true, Nat.add_zero, Nat.succ_ne_self, Nat.one_ne_zero, Nat.zero_ne_one, e3, e19, e20, e21, a6]
    refine ⟨m - 1, by omega, i + 1, by omega, (by first | rfl | trivial), (by first | rfl | trivial), (by first | rfl | trivial), (by first | rfl | trivial), xg.trans x2 (by omega), ?_⟩
    have e1 : l ++ numsB ([e.sess, e.seq, e.kind, e.who].take (i + 1)) = l ++ numsB ([e.sess, e.seq, e.kind, e.who].take i) ++ vnum (heldN ([e.sess, e.seq, e.kind, e.who][i])) := by
      rw [List.take_succ_eq_append_getElem hi, numsB_snoc, List.append_assoc]
    rw [e1]
    exact o2.sl.more (Nat.zero_le _) (Nat.le_refl _)
  · have hi' : ((i : Int) < ((4 : Nat) : Int)) = False := eq_false (by omega)
    have hi4 : i = 4 := by omega
    subst hi4
    have hcl4 := hcl 4
    rw [List.take_of_length_le (by simp)] at hcur hcl4
    have gg : g.get h.next = _ := (xg.get h.next (by omega) (fun x => x)).trans g01
    have L := fun i => ld_cell (o := i) gg (by decide)
    simp only [run, Option.map_some, Nat.reduceEqDiff, Nat.reduceAdd, Nat.zero_add, ↓reduceIte, decide_eq_true_eq, decide_true, decide_false, Bool.not_true, Bool.not_false, Bool.true_eq_false, Bool.false_eq_true, List.getElem?_cons_zero, List.getElem?_cons_succ, List.nil_append, List.cons_append, reduceCtorEq, eq_self, decide_eq_false_iff_not, not_true_eq_false, not_false_eq_true, Nat.add_zero, Nat.succ_ne_self, Nat.one_ne_zero, Nat.zero_ne_one, hi', e3, e19, e20, e21, L]
    refine useE (bslice_3 _ hk.cell hw.cell ho.cell) ?_
    simp only [run, Option.map_some, Nat.reduceEqDiff, Nat.reduceAdd, Nat.zero_add, ↓reduceIte, decide_eq_true_eq, decide_true, decide_false, Bool.not_true, Bool.not_false, Bool.true_eq_false, Bool.false_eq_true, List.getElem?_cons_zero, List.getElem?_cons_succ, List.nil_append, List.cons_append, reduceCtorEq, eq_self, decide_eq_false_iff_not, not_true_eq_false, not_false_eq_true, Nat.add_zero, Nat.succ_ne_self, Nat.one_ne_zero, Nat.zero_ne_one, e3, e19, e20, e21]
    obtain ⟨h2, eh2, x2, n2, g2⟩ := boxed g ⟨[k, w, o], 1, 0, none⟩
    rw [eh2]
    have s2 : Sl g.next h2.next h2 (.slice (some ⟨g.next, 0, none⟩) 3 3) 1 [k, w, o] := Sl.of_block g2 (by decide) rfl (Nat.le_refl _) (by omega)
    have x02 : Ext no h.next h h2 := (x01.trans xg (by omega)).trans x2 (by omega)
    have hkk : ∀ (i : Nat) (h1 : i < 3), Bytes 0 h.next h ([k, w, o][i]) ([e.key, e.val, e.old][i]) ∧ ([e.key, e.val, e.old][i]).length ≤ e.len := by
      intro i h1
      unfold Entry.len
      match i, h1 with
      | 0, _ => exact ⟨hk, by show e.key.length ≤ _; omega⟩
      | 1, _ => exact ⟨hw, by show e.val.length ≤ _; omega⟩
      | 2, _ => exact ⟨ho, by show e.old.length ≤ _; omega⟩
    have vl : ∀ j, (([e.key, e.val, e.old].take j).flatMap vbytes).length ≤ 3 * (e.len + 9) := by
      intro j
      have q1 := vnum_len10 e.key.length (by unfold Entry.len at hl'; omega)
      have q2 := vnum_len10 e.val.length (by unfold Entry.len at hl'; omega)
      have q3 := vnum_len10 e.old.length (by unfold Entry.len at hl'; omega)
      unfold Entry.len
      match j with
      | 0 => simp
      | 1 => simp [vbytes]; omega
      | 2 => simp [vbytes]; omega
      | j + 3 => simp [vbytes]; omega
    refine w_loop (fun m E f => ∃ i, i + m = 3 ∧ E 38 = .slice (some ⟨g.next, 0, none⟩) 3 3 ∧ E 39 = .int .i64 ((3 : Nat) : Int) ∧ E 40 = .int .i64 (i : Nat) ∧
      Ext no h2.next h2 f ∧ Bytes 0 f.next f (E 0) (l ++ numsB [e.sess, e.seq, e.kind, e.who] ++ ([e.key, e.val, e.old].take i).flatMap vbytes) ∧
      (0 < i → OwnB h.next f (E 0) (l ++ numsB [e.sess, e.seq, e.kind, e.who] ++ ([e.key, e.val, e.old].take i).flatMap vbytes))) 3 (by omega) ?_ ?_
    · refine ⟨0, by omega, rfl, rfl, rfl, Ext.refl _ _ _, ?_, fun h => by omega⟩
      simp only [run, Option.map_some, Nat.reduceEqDiff, Nat.reduceAdd, Nat.zero_add, ↓reduceIte, decide_eq_true_eq, decide_true, decide_false, Bool.not_true, Bool.not_false, Bool.true_eq_false, Bool.false_eq_true, List.getElem?_cons_zero, List.getElem?_cons_succ, List.nil_append, List.cons_append, reduceCtorEq, eq_self, decide_eq_false_iff_not, not_true_eq_false, not_false_eq_true, Nat.add_zero, Nat.succ_ne_self, Nat.one_ne_zero, Nat.zero_ne_one, List.take_zero, List.flatMap_nil, List.append_nil]
      exact (hcur.keep x2 (Nat.le_refl _)).more (Nat.le_refl _) (by omega)
    rintro m E f ⟨i, hm, e38, e39, e40, xf, hcur, hown⟩
    have xfn := xf.next
    simp only [run, Option.map_some, Nat.reduceEqDiff, Nat.reduceAdd, Nat.zero_add, ↓reduceIte, decide_eq_true_eq, decide_true, decide_false, Bool.not_true, Bool.not_false, Bool.true_eq_false, Bool.false_eq_true, List.getElem?_cons_zero, List.getElem?_cons_succ, List.nil_append, List.cons_append, reduceCtorEq, eq_self, decide_eq_false_iff_not, not_true_eq_false, not_false_eq_true, Nat.add_zero, Nat.succ_ne_self, Nat.one_ne_zero, Nat.zero_ne_one, e38, e39, e40]
    by_cases hi : i < 3
    · have hi' : ((i : Int) < ((3 : Nat) : Int)) = True := eq_true (by omega)
      obtain ⟨q, p, a1, _, _, a2, _⟩ := Sl.load (k := .i64) (i := (i : Int)) (n := 3) (s2.keep xf (Nat.le_refl _)) rfl (by omega) (by omega)
      rw [Int.toNat_natCast, List.getElem?_eq_getElem (show i < [k, w, o].length from hi)] at a2
      have a6 : binV .add 0 (.int .i64 i) (.int .i64 1) = some (.int .i64 ((i + 1 : Nat) : Int)) := b_addN 0 (k := .i64) (a := i) (b := 1) (fits_i64 (by omega))
      simp only [run, Option.map_some, Nat.reduceEqDiff, Nat.reduceAdd, Nat.zero_add, ↓reduceIte, decide_eq_true_eq, decide_true, decide_false, Bool.not_true, Bool.not_false, Bool.true_eq_false, Bool.false_eq_true, List.getElem?_cons_zero, List.getElem?_cons_succ, List.nil_append, List.cons_append, reduceCtorEq, eq_self, decide_eq_false_iff_not, not_true_eq_false, not_false_eq_true, Nat.add_zero, Nat.succ_ne_self, Nat.one_ne_zero, Nat.zero_ne_one, hi', e38, e39, e40, a1, a2]
      have := vl i
      have := (hkk i hi).2
      have xhf : Ext no h.next h f := x02.trans xf (by omega)
      refine use (bytes_spec (by omega) hn hcur (((hkk i hi).1.keep xhf (Nat.le_refl _)).more (Nat.le_refl _) (by omega)) (by rw [List.length_append, List.length_append]; omega) (by omega)) ?_
      rintro v3 h3 ⟨x3, o3⟩
      simp only [run, Option.map_some, Nat.reduceEqDiff, Nat.reduceAdd, Nat.zero_add, ↓reduceIte, decide_eq_true_eq, decide_true, decide_false, Bool.not_true, Bool.not_false, Bool.true_eq_false, Bool.false_eq_true, List.getElem?_cons_zero, List.getElem?_cons_succ, List.nil_append, List.cons_append, reduceCtorEq, eq_self, decide_eq_false_iff_not, not_true_eq_false, not_false_eq_true, Nat.add_zero, Nat.succ_ne_self, Nat.one_ne_zero, Nat.zero_ne_one, e38, e39, e40, a6]
      have e1 : l ++ numsB [e.sess, e.seq, e.kind, e.who] ++ ([e.key, e.val, e.old].take (i + 1)).flatMap vbytes =
          l ++ numsB [e.sess, e.seq, e.kind, e.who] ++ ([e.key, e.val, e.old].take i).flatMap vbytes ++ vbytes ([e.key, e.val, e.old][i]) := by
        rw [List.take_succ_eq_append_getElem (show i < [e.key, e.val, e.old].length from hi), List.flatMap_append]
        simp
      refine ⟨m - 1, by omega, i + 1, by omega, (by first | rfl | trivial), (by first | rfl | trivial), (by first | rfl | trivial), xf.trans x3 (by omega), ?_, fun _ => ?_⟩
      · rw [e1]; exact o3.sl.more (Nat.zero_le _) (Nat.le_refl _)
      · rw [e1]; exact o3.less (by omega)
    · have hi' : ((i : Int) < ((3 : Nat) : Int)) = False := eq_false (by omega)
      have hi3 : i = 3 := by omega
      subst hi3
      simp only [run, Option.map_some, Nat.reduceEqDiff, Nat.reduceAdd, Nat.zero_add, ↓reduceIte, decide_eq_true_eq, decide_true, decide_false, Bool.not_true, Bool.not_false, Bool.true_eq_false, Bool.false_eq_true, List.getElem?_cons_zero, List.getElem?_cons_succ, List.nil_append, List.cons_append, reduceCtorEq, eq_self, decide_eq_false_iff_not, not_true_eq_false, not_false_eq_true, Nat.add_zero, Nat.succ_ne_self, Nat.one_ne_zero, Nat.zero_ne_one, hi', e38, e39, e40]
      refine ⟨x02.trans xf (by omega), ?_⟩
      have := hown (by omega)
      rw [List.take_of_length_le (by simp)] at this
      unfold putEntry
      rw [← List.append_assoc]
      exact this

end Go.Proofs.Ytapmpenkceomdaa
/- Entries as bytes: the document's writer. -/
set_option linter.unusedSimpArgs false
set_option linter.unusedVariables false
set_option maxRecDepth 20000
namespace Go.Proofs.Ytapmpenkceomdaa
open Go.Ab

variable {n d : Nat} {h : AHeap}

theorem numsB_cons (a : Int) (l : List Int) : numsB (a :: l) = vnum (heldN a) ++ numsB l := by simp [numsB]
theorem numsB_nil : numsB [] = [] := rfl
theorem putEntry_eq (e : Entry) : putEntry e = vnum (heldN e.sess) ++ (vnum (heldN e.seq) ++ (vnum (heldN e.kind) ++ (vnum (heldN e.who) ++ (vbytes e.key ++ (vbytes e.val ++ vbytes e.old))))) := by
  simp [putEntry, numsB]
theorem vbytes_len (l : List UInt8) (h : l.length ≤ 2 ^ 60) : (vbytes l).length ≤ l.length + 9 := by
  have := vnum_len10 l.length (by omega)
  simp only [vbytes, List.length_append]; omega

theorem rputE_spec (hd : 3 ≤ d) (hn : 20 ≤ n) {v : Value} {l : List UInt8} {cs : List Value} {e : Entry} (hv : Bytes 0 h.next h v l) (he : RepE 0 h.next h cs e) (hl : l.length ≤ 2 ^ 44) (hl' : e.len ≤ 2 ^ 42) :
    ∃ v' h', aCall Try.prog n d 104 [v, .agg ⟨cs⟩] h = some (v', h') ∧ Ext no h.next h h' ∧ OwnB h.next h' v' (l ++ putEntry e) := by
  obtain ⟨d, rfl, hd⟩ := depth hd
  refine call_of t104 (Nat.le_of_ble_eq_true rfl) ?_
  simp only [c104, run, Option.map_some, Nat.reduceEqDiff, Nat.reduceAdd, Nat.zero_add, ↓reduceIte, decide_eq_true_eq, decide_true, decide_false, Bool.not_true, Bool.not_false, Bool.true_eq_false, Bool.false_eq_true, List.getElem?_cons_zero, List.getElem?_cons_succ, List.nil_append, List.cons_append, reduceCtorEq, eq_self, decide_eq_false_iff_not, not_true_eq_false, not_false_eq_true, Nat.add_zero, Nat.succ_ne_self, Nat.one_ne_zero, Nat.zero_ne_one, rund, List.contains_cons, List.contains_nil, Nat.reduceBEq, Bool.and_true, Bool.true_and, Bool.and_false, Bool.false_and, Bool.or_false, Bool.or_true, Bool.false_or, Bool.true_or, true_or, or_true, true_and, and_true, beq_self_eq_true, cells_agg]
  obtain ⟨h0, eh, x0, n0, g0⟩ := boxed h ⟨cs, 7, 0, none⟩
  rw [eh]
  obtain ⟨k, w, o, rfl, hk, hw, ho⟩ := he
  unfold Entry.len at hl'
  have L0 := fun i => ld_cell (o := i) g0 (by decide)
  have lt0 : h.next < h0.next := by omega
  simp only [run, Option.map_some, Nat.reduceEqDiff, Nat.reduceAdd, Nat.zero_add, ↓reduceIte, decide_eq_true_eq, decide_true, decide_false, Bool.not_true, Bool.not_false, Bool.true_eq_false, Bool.false_eq_true, List.getElem?_cons_zero, List.getElem?_cons_succ, List.nil_append, List.cons_append, reduceCtorEq, eq_self, decide_eq_false_iff_not, not_true_eq_false, not_false_eq_true, Nat.add_zero, Nat.succ_ne_self, Nat.one_ne_zero, Nat.zero_ne_one, rund, List.contains_cons, List.contains_nil, Nat.reduceBEq, Bool.and_true, Bool.true_and, Bool.and_false, Bool.false_and, Bool.or_false, Bool.or_true, Bool.false_or, Bool.true_or, true_or, or_true, true_and, and_true, beq_self_eq_true, L0]
  have q1 := vnum_held e.sess
  have q2 := vnum_held e.seq
  have q3 := vnum_held e.kind
  have q4 := vnum_held e.who
  have q5 := vbytes_len e.key (by omega)
  have q6 := vbytes_len e.val (by omega)
  refine use (rnum_spec (by omega) hn ((hv.keep x0 (Nat.le_refl _)).more (Nat.le_refl _) (by omega)) (by omega)) ?_
  rintro v1 h1 ⟨x1, o1⟩
  have n1 := x1.next
  have g1 := (x1.get h.next (by omega) (fun x => x)).trans g0
  have L1 := fun i => ld_cell (o := i) g1 (by decide)
  simp only [run, Option.map_some, Nat.reduceEqDiff, Nat.reduceAdd, Nat.zero_add, ↓reduceIte, decide_eq_true_eq, decide_true, decide_false, Bool.not_true, Bool.not_false, Bool.true_eq_false, Bool.false_eq_true, List.getElem?_cons_zero, List.getElem?_cons_succ, List.nil_append, List.cons_append, reduceCtorEq, eq_self, decide_eq_false_iff_not, not_true_eq_false, not_false_eq_true, Nat.add_zero, Nat.succ_ne_self, Nat.one_ne_zero, Nat.zero_ne_one, rund, List.contains_cons, List.contains_nil, Nat.reduceBEq, Bool.and_true, Bool.true_and, Bool.and_false, Bool.false_and, Bool.or_false, Bool.or_true, Bool.false_or, Bool.true_or, true_or, or_true, true_and, and_true, beq_self_eq_true, L0, L1, lt0]
  refine use (rnum_spec (by omega) hn (o1.sl.more (Nat.zero_le _) (Nat.le_refl _)) (by rw [List.length_append]; omega)) ?_
  rintro v2 h2 ⟨x2, o2⟩
  have n2 := x2.next
  have g2 := (x2.get h.next (by omega) (fun x => x)).trans g1
  have L2 := fun i => ld_cell (o := i) g2 (by decide)
  have lt1 : h.next < h1.next := by omega
  simp only [run, Option.map_some, Nat.reduceEqDiff, Nat.reduceAdd, Nat.zero_add, ↓reduceIte, decide_eq_true_eq, decide_true, decide_false, Bool.not_true, Bool.not_false, Bool.true_eq_false, Bool.false_eq_true, List.getElem?_cons_zero, List.getElem?_cons_succ, List.nil_append, List.cons_append, reduceCtorEq, eq_self, decide_eq_false_iff_not, not_true_eq_false, not_false_eq_true, Nat.add_zero, Nat.succ_ne_self, Nat.one_ne_zero, Nat.zero_ne_one, rund, List.contains_cons, List.contains_nil, Nat.reduceBEq, Bool.and_true, Bool.true_and, Bool.and_false, Bool.false_and, Bool.or_false, Bool.or_true, Bool.false_or, Bool.true_or, true_or, or_true, true_and, and_true, beq_self_eq_true, L0, L1, L2, lt0, lt1]
  refine use (rnum_spec (by omega) hn (o2.sl.more (Nat.zero_le _) (Nat.le_refl _)) (by rw [List.length_append, List.length_append]; omega)) ?_
  rintro v3 h3 ⟨x3, o3⟩
  have n3 := x3.next
  have g3 := (x3.get h.next (by omega) (fun x => x)).trans g2
  have L3 := fun i => ld_cell (o := i) g3 (by decide)
  have lt2 : h.next < h2.next := by omega
  simp only [run, Option.map_some, Nat.reduceEqDiff, Nat.reduceAdd, Nat.zero_add, ↓reduceIte, decide_eq_true_eq, decide_true, decide_false, Bool.not_true, Bool.not_false, Bool.true_eq_false, Bool.false_eq_true, List.getElem?_cons_zero, List.getElem?_cons_succ, List.nil_append, List.cons_append, reduceCtorEq, eq_self, decide_eq_false_iff_not, not_true_eq_false, not_false_eq_true, Nat.add_zero, Nat.succ_ne_self, Nat.one_ne_zero, Nat.zero_ne_one, rund, List.contains_cons, List.contains_nil, Nat.reduceBEq, Bool.and_true, Bool.true_and, Bool.and_false, Bool.false_and, Bool.or_false, Bool.or_true, Bool.false_or, Bool.true_or, true_or, or_true, true_and, and_true, beq_self_eq_true, L0, L1, L2, L3, lt0, lt1, lt2]
  refine use (rnum_spec (by omega) hn (o3.sl.more (Nat.zero_le _) (Nat.le_refl _)) (by rw [List.length_append, List.length_append, List.length_append]; omega)) ?_
  rintro v4 h4 ⟨x4, o4⟩
  have n4 := x4.next
  have g4 := (x4.get h.next (by omega) (fun x => x)).trans g3
  have L4 := fun i => ld_cell (o := i) g4 (by decide)
  have lt4 : h.next < h4.next := by omega
  have x04 : Ext no h.next h h4 := x0.trans (x1.trans (x2.trans (x3.trans x4 (by omega)) (by omega)) (by omega)) (by omega)
  simp only [run, Option.map_some, Nat.reduceEqDiff, Nat.reduceAdd, Nat.zero_add, ↓reduceIte, decide_eq_true_eq, decide_true, decide_false, Bool.not_true, Bool.not_false, Bool.true_eq_false, Bool.false_eq_true, List.getElem?_cons_zero, List.getElem?_cons_succ, List.nil_append, List.cons_append, reduceCtorEq, eq_self, decide_eq_false_iff_not, not_true_eq_false, not_false_eq_true, Nat.add_zero, Nat.succ_ne_self, Nat.one_ne_zero, Nat.zero_ne_one, rund, List.contains_cons, List.contains_nil, Nat.reduceBEq, Bool.and_true, Bool.true_and, Bool.and_false, Bool.false_and, Bool.or_false, Bool.or_true, Bool.false_or, Bool.true_or, true_or, or_true, true_and, and_true, beq_self_eq_true, L4]
  refine use (rbytes_spec (by omega) hn (o4.sl.more (Nat.zero_le _) (Nat.le_refl _)) ((hk.keep x04 (Nat.le_refl _)).more (Nat.le_refl _) (by omega)) (by rw [List.length_append, List.length_append, List.length_append, List.length_append]; omega) (by omega)) ?_
  rintro v5 h5 ⟨x5, o5⟩
  have n5 := x5.next
  have g5 := (x5.get h.next (by omega) (fun x => x)).trans g4
  have L5 := fun i => ld_cell (o := i) g5 (by decide)
  have lt5 : h.next < h5.next := by omega
  have x05 : Ext no h.next h h5 := x04.trans x5 (by omega)
  simp only [run, Option.map_some, Nat.reduceEqDiff, Nat.reduceAdd, Nat.zero_add, ↓reduceIte, decide_eq_true_eq, decide_true, decide_false, Bool.not_true, Bool.not_false, Bool.true_eq_false, Bool.false_eq_true, List.getElem?_cons_zero, List.getElem?_cons_succ, List.nil_append, List.cons_append, reduceCtorEq, eq_self, decide_eq_false_iff_not, not_true_eq_false, not_false_eq_true, Nat.add_zero, Nat.succ_ne_self, Nat.one_ne_zero, Nat.zero_ne_one, rund, List.contains_cons, List.contains_nil, Nat.reduceBEq, Bool.and_true, Bool.true_and, Bool.and_false, Bool.false_and, Bool.or_false, Bool.or_true, Bool.false_or, Bool.true_or, true_or, or_true, true_and, and_true, beq_self_eq_true, L4, L5, lt4, hw.beq]
  refine use (rbytes_spec (by omega) hn (o5.sl.more (Nat.zero_le _) (Nat.le_refl _)) ((hw.keep x05 (Nat.le_refl _)).more (Nat.le_refl _) (by omega)) (by rw [List.length_append, List.length_append, List.length_append, List.length_append, List.length_append]; omega) (by omega)) ?_
  rintro v6 h6 ⟨x6, o6⟩
  have n6 := x6.next
  have g6 := (x6.get h.next (by omega) (fun x => x)).trans g5
  have L6 := fun i => ld_cell (o := i) g6 (by decide)
  have x06 : Ext no h.next h h6 := x05.trans x6 (by omega)
  simp only [run, Option.map_some, Nat.reduceEqDiff, Nat.reduceAdd, Nat.zero_add, ↓reduceIte, decide_eq_true_eq, decide_true, decide_false, Bool.not_true, Bool.not_false, Bool.true_eq_false, Bool.false_eq_true, List.getElem?_cons_zero, List.getElem?_cons_succ, List.nil_append, List.cons_append, reduceCtorEq, eq_self, decide_eq_false_iff_not, not_true_eq_false, not_false_eq_true, Nat.add_zero, Nat.succ_ne_self, Nat.one_ne_zero, Nat.zero_ne_one, rund, List.contains_cons, List.contains_nil, Nat.reduceBEq, Bool.and_true, Bool.true_and, Bool.and_false, Bool.false_and, Bool.or_false, Bool.or_true, Bool.false_or, Bool.true_or, true_or, or_true, true_and, and_true, beq_self_eq_true, L4, L5, L6, lt4, lt5, ho.beq]
  refine use (rbytes_spec (by omega) hn (o6.sl.more (Nat.zero_le _) (Nat.le_refl _)) ((ho.keep x06 (Nat.le_refl _)).more (Nat.le_refl _) (by omega)) (by rw [List.length_append, List.length_append, List.length_append, List.length_append, List.length_append, List.length_append]; omega) (by omega)) ?_
  rintro v7 h7 ⟨x7, o7⟩
  simp only [run, Option.map_some, Nat.reduceEqDiff, Nat.reduceAdd, Nat.zero_add, ↓reduceIte, decide_eq_true_eq, decide_true, decide_false, Bool.not_true, Bool.not_false, Bool.true_eq_false, Bool.false_eq_true, List.getElem?_cons_zero, List.getElem?_cons_succ, List.nil_append, List.cons_append, reduceCtorEq, eq_self, decide_eq_false_iff_not, not_true_eq_false, not_false_eq_true, Nat.add_zero, Nat.succ_ne_self, Nat.one_ne_zero, Nat.zero_ne_one, rund, List.contains_cons, List.contains_nil, Nat.reduceBEq, Bool.and_true, Bool.true_and, Bool.and_false, Bool.false_and, Bool.or_false, Bool.or_true, Bool.false_or, Bool.true_or, true_or, or_true, true_and, and_true, beq_self_eq_true]
  refine ⟨x06.trans x7 (by omega), ?_⟩
  rw [putEntry_eq]
  have := o7.less (lo' := h.next) (by omega)
  simpa only [List.append_assoc] using this

end Go.Proofs.Ytapmpenkceomdaa
/- Entries, read. -/
set_option linter.unusedSimpArgs false
set_option linter.unusedVariables false
set_option maxRecDepth 20000
namespace Go.Proofs.Ytapmpenkceomdaa
open Go.Ab

variable {n d : Nat} {h : AHeap}

def noEntry : Entry := ⟨0, 0, 0, 0, [], [], []⟩
/-- reading an entry -/
def rdEntry (s : Option (List UInt8)) : Entry × Option (List UInt8) :=
  match rdNum 1073741824 s with
  | (a1, s1) => match rdNum 1073741824 s1 with
    | (a2, s2) => match rdNum 1073741824 s2 with
      | (a3, s3) => match rdNum 1073741824 s3 with
        | (a4, s4) => match rdBytes 32 s4 with
          | (k, s5) => match rdBytes 32 s5 with
            | (v, s6) => match rdBytes 32 s6 with
              | (o, s7) => if s7.isSome = true then (⟨a1, a2, a3, a4, k, v, o⟩, s7) else (noEntry, none)

theorem pnum' (hd : 2 ≤ d) (hn : 20 ≤ n) {p a : Nat} {s s' : Option (List UInt8)} {top : Int} (hp : PR h p s) (e : rdNum top s = (a, s')) :
    ∃ v' h', aCall Try.prog n d 154 [.pointer (some ⟨p, 0, none⟩), .int .i64 top] h = some (v', h') ∧ v' = .int .i64 a ∧ h'.next = h.next ∧ Ext (one p) h.next h h' ∧ PR h' p s' := by
  have := pnum_spec hd hn hp (top := top)
  rw [e] at this
  exact this
theorem rrnum' (hd : 1 ≤ d) (hn : 20 ≤ n) {p a : Nat} {s s' : Option (List UInt8)} {top : Int} (hp : RR h p s) (e : rdNum top s = (a, s')) :
    ∃ v' h', aCall Try.prog n d 105 [.pointer (some ⟨p, 0, none⟩), .int .i64 top] h = some (v', h') ∧ v' = .int .i64 a ∧ h'.next = h.next ∧ Ext (one p) h.next h h' ∧ RR h' p s' := by
  have := rrnum_spec hd hn hp (top := top)
  rw [e] at this
  exact this
theorem pbytes' (hd : 3 ≤ d) (hn : 20 ≤ n) {p : Nat} {b : List UInt8} {s s' : Option (List UInt8)} {top : Int} (hp : PR h p s) (e : rdBytes top s = (b, s')) :
    ∃ v' h', aCall Try.prog n d 155 [.pointer (some ⟨p, 0, none⟩), .int .i64 top] h = some (v', h') ∧ OwnB h.next h' v' b ∧ Ext (one p) h.next h h' ∧ PR h' p s' := by
  have := pbytes_spec hd hn hp (top := top)
  rw [e] at this
  exact this
theorem rrbytes' (hd : 2 ≤ d) (hn : 20 ≤ n) {p : Nat} {b : List UInt8} {s s' : Option (List UInt8)} {top : Int} (hp : RR h p s) (e : rdBytes top s = (b, s')) :
    ∃ v' h', aCall Try.prog n d 106 [.pointer (some ⟨p, 0, none⟩), .int .i64 top] h = some (v', h') ∧ OwnB h.next h' v' b ∧ Ext (one p) h.next h h' ∧ RR h' p s' := by
  have := rrbytes_spec hd hn hp (top := top)
  rw [e] at this
  exact this
theorem get157_spec (hd : 4 ≤ d) (hn : 20 ≤ n) {p : Nat} {s : Option (List UInt8)} (hp : PR h p s) :
    ∃ v' h', aCall Try.prog n d 157 [.pointer (some ⟨p, 0, none⟩)] h = some (v', h') ∧ Ext (one p) h.next h h' ∧ PR h' p (rdEntry s).2 ∧ ∃ cs, v' = .agg ⟨cs⟩ ∧ RepE h.next h'.next h' cs (rdEntry s).1 := by
  obtain ⟨d, rfl, hd⟩ := depth hd
  have hlt := hp.lt
  rcases e1 : rdNum 1073741824 s with ⟨a1, s1⟩
  rcases e2 : rdNum 1073741824 s1 with ⟨a2, s2⟩
  rcases e3 : rdNum 1073741824 s2 with ⟨a3, s3⟩
  rcases e4 : rdNum 1073741824 s3 with ⟨a4, s4⟩
  rcases e5 : rdBytes 32 s4 with ⟨b5, s5⟩
  rcases e6 : rdBytes 32 s5 with ⟨b6, s6⟩
  rcases e7 : rdBytes 32 s6 with ⟨b7, s7⟩
  simp only [rdEntry, e1, e2, e3, e4, e5, e6, e7]
  refine call_of t157 (Nat.le_of_ble_eq_true rfl) ?_
  simp only [c157, run, Option.map_some, Nat.reduceEqDiff, Nat.reduceAdd, Nat.zero_add, ↓reduceIte, decide_eq_true_eq, decide_true, decide_false, Bool.not_true, Bool.not_false, Bool.true_eq_false, Bool.false_eq_true, List.getElem?_cons_zero, List.getElem?_cons_succ, List.nil_append, List.cons_append, reduceCtorEq, eq_self, decide_eq_false_iff_not, not_true_eq_false, not_false_eq_true, Nat.add_zero, Nat.succ_ne_self, Nat.one_ne_zero, Nat.zero_ne_one]
  obtain ⟨h0, eh0, x0, n0, gR0⟩ := boxed h ⟨[.int .i64 0, .int .i64 0, .int .i64 0, .int .i64 0, .slice none 0 0, .slice none 0 0, .slice none 0 0], 7, 0, none⟩
  rw [eh0]
  have r0 := hp.ext x0 hlt (fun _ _ x => x)
  refine use (pnum' (by omega) hn r0 e1) ?_
  rintro _ h1 ⟨rfl, n1, x1, r1⟩
  have gR1 := blk x1 gR0 (by omega) (show ¬ h.next = p by omega)
  simp only [run, Option.map_some, Nat.reduceEqDiff, Nat.reduceAdd, Nat.zero_add, ↓reduceIte, decide_eq_true_eq, decide_true, decide_false, Bool.not_true, Bool.not_false, Bool.true_eq_false, Bool.false_eq_true, List.getElem?_cons_zero, List.getElem?_cons_succ, List.nil_append, List.cons_append, reduceCtorEq, eq_self, decide_eq_false_iff_not, not_true_eq_false, not_false_eq_true, Nat.add_zero, Nat.succ_ne_self, Nat.one_ne_zero, Nat.zero_ne_one]
  refine use (pnum' (by omega) hn r1 e2) ?_
  rintro _ h2 ⟨rfl, n2, x2, r2⟩
  have gR2 := blk x2 gR1 (by omega) (show ¬ h.next = p by omega)
  simp only [run, Option.map_some, Nat.reduceEqDiff, Nat.reduceAdd, Nat.zero_add, ↓reduceIte, decide_eq_true_eq, decide_true, decide_false, Bool.not_true, Bool.not_false, Bool.true_eq_false, Bool.false_eq_true, List.getElem?_cons_zero, List.getElem?_cons_succ, List.nil_append, List.cons_append, reduceCtorEq, eq_self, decide_eq_false_iff_not, not_true_eq_false, not_false_eq_true, Nat.add_zero, Nat.succ_ne_self, Nat.one_ne_zero, Nat.zero_ne_one]
  refine use1 (v := [.int .i64 a1, .int .i64 a2, .int .i64 0, .int .i64 0, .slice none 0 0, .slice none 0 0, .slice none 0 0]) rfl ?_
  simp only [run, Option.map_some, Nat.reduceEqDiff, Nat.reduceAdd, Nat.zero_add, ↓reduceIte, decide_eq_true_eq, decide_true, decide_false, Bool.not_true, Bool.not_false, Bool.true_eq_false, Bool.false_eq_true, List.getElem?_cons_zero, List.getElem?_cons_succ, List.nil_append, List.cons_append, reduceCtorEq, eq_self, decide_eq_false_iff_not, not_true_eq_false, not_false_eq_true, Nat.add_zero, Nat.succ_ne_self, Nat.one_ne_zero, Nat.zero_ne_one]
  obtain ⟨h3, eh3, x3, n3, gB3⟩ := boxed h2 ⟨[.int .i64 0, .int .i64 0, .int .i64 0, .int .i64 0, .slice none 0 0, .slice none 0 0, .slice none 0 0], 7, 0, none⟩
  rw [eh3]
  have r3 := r2.ext x3 (by omega) (fun _ _ x => x)
  have gR3 := blk0 x3 gR2 (by omega)
  refine use1 (st_whole gB3 rfl rfl rfl (by simp)) ?_
  obtain ⟨h4, eh4⟩ : ∃ g, h3.upd h2.next ⟨[.int .i64 a1, .int .i64 a2, .int .i64 0, .int .i64 0, .slice none 0 0, .slice none 0 0, .slice none 0 0], 7, 0, none⟩ = g := ⟨_, rfl⟩
  have n4 : h4.next = h3.next := by rw [← eh4]; rfl
  have x4 : Ext (one h2.next) h3.next h3 h4 := by rw [← eh4]; exact Ext.upd0 _ _ _ _
  have gB4 : h4.get h2.next = ⟨[.int .i64 a1, .int .i64 a2, .int .i64 0, .int .i64 0, .slice none 0 0, .slice none 0 0, .slice none 0 0], 7, 0, none⟩ := by rw [← eh4]; exact get_upd_self _ (by omega)
  rw [eh4]
  have r4 := r3.ext x4 (by omega) (fun m hm (e : m = h2.next) => by omega)
  have gR4 := blk x4 gR3 (by omega) (show ¬ h.next = h2.next by omega)
  (try simp only [run, Option.map_some, Nat.reduceEqDiff, Nat.reduceAdd, Nat.zero_add, ↓reduceIte, decide_eq_true_eq, decide_true, decide_false, Bool.not_true, Bool.not_false, Bool.true_eq_false, Bool.false_eq_true, List.getElem?_cons_zero, List.getElem?_cons_succ, List.nil_append, List.cons_append, reduceCtorEq, eq_self, decide_eq_false_iff_not, not_true_eq_false, not_false_eq_true, Nat.add_zero, Nat.succ_ne_self, Nat.one_ne_zero, Nat.zero_ne_one])
  refine use (pnum' (by omega) hn r4 e3) ?_
  rintro _ h5 ⟨rfl, n5, x5, r5⟩
  have gR5 := blk x5 gR4 (by omega) (show ¬ h.next = p by omega)
  have gB5 := blk x5 gB4 (by omega) (show ¬ h2.next = p by omega)
  simp only [run, Option.map_some, Nat.reduceEqDiff, Nat.reduceAdd, Nat.zero_add, ↓reduceIte, decide_eq_true_eq, decide_true, decide_false, Bool.not_true, Bool.not_false, Bool.true_eq_false, Bool.false_eq_true, List.getElem?_cons_zero, List.getElem?_cons_succ, List.nil_append, List.cons_append, reduceCtorEq, eq_self, decide_eq_false_iff_not, not_true_eq_false, not_false_eq_true, Nat.add_zero, Nat.succ_ne_self, Nat.one_ne_zero, Nat.zero_ne_one]
  refine use (pnum' (by omega) hn r5 e4) ?_
  rintro _ h6 ⟨rfl, n6, x6, r6⟩
  have gR6 := blk x6 gR5 (by omega) (show ¬ h.next = p by omega)
  have gB6 := blk x6 gB5 (by omega) (show ¬ h2.next = p by omega)
  simp only [run, Option.map_some, Nat.reduceEqDiff, Nat.reduceAdd, Nat.zero_add, ↓reduceIte, decide_eq_true_eq, decide_true, decide_false, Bool.not_true, Bool.not_false, Bool.true_eq_false, Bool.false_eq_true, List.getElem?_cons_zero, List.getElem?_cons_succ, List.nil_append, List.cons_append, reduceCtorEq, eq_self, decide_eq_false_iff_not, not_true_eq_false, not_false_eq_true, Nat.add_zero, Nat.succ_ne_self, Nat.one_ne_zero, Nat.zero_ne_one]
  refine use1 (st_cell gB6 rfl (by simp)) ?_
  simp only [run, Option.map_some, Nat.reduceEqDiff, Nat.reduceAdd, Nat.zero_add, ↓reduceIte, decide_eq_true_eq, decide_true, decide_false, Bool.not_true, Bool.not_false, Bool.true_eq_false, Bool.false_eq_true, List.getElem?_cons_zero, List.getElem?_cons_succ, List.nil_append, List.cons_append, reduceCtorEq, eq_self, decide_eq_false_iff_not, not_true_eq_false, not_false_eq_true, Nat.add_zero, Nat.succ_ne_self, Nat.one_ne_zero, Nat.zero_ne_one]
  have gB6' := get_upd_self (h := h6) (m := h2.next) ⟨[Value.int .i64 a1, .int .i64 a2, .int .i64 0, .int .i64 0, .slice none 0 0, .slice none 0 0, .slice none 0 0].set 2 (.int .i64 a3), 7, 0, none⟩ (by omega)
  refine use1 (st_cell gB6' rfl (by simp)) ?_
  obtain ⟨h7, eh7⟩ : ∃ g, (h6.upd h2.next ⟨[Value.int .i64 a1, .int .i64 a2, .int .i64 0, .int .i64 0, .slice none 0 0, .slice none 0 0, .slice none 0 0].set 2 (.int .i64 a3), 7, 0, none⟩).upd h2.next ⟨([Value.int .i64 a1, .int .i64 a2, .int .i64 0, .int .i64 0, .slice none 0 0, .slice none 0 0, .slice none 0 0].set 2 (.int .i64 a3)).set 3 (.int .i64 a4), 7, 0, none⟩ = g := ⟨_, rfl⟩
  have n7 : h7.next = h6.next := by rw [← eh7]; rfl
  have x7 : Ext (one h2.next) h6.next h6 h7 := by rw [← eh7]; exact (Ext.upd0 _ _ _ _).upd1 _
  have gB7 : h7.get h2.next = ⟨[.int .i64 a1, .int .i64 a2, .int .i64 a3, .int .i64 a4, .slice none 0 0, .slice none 0 0, .slice none 0 0], 7, 0, none⟩ := by rw [← eh7]; exact get_upd_self _ (by rw [upd_next]; omega)
  rw [eh7]
  have r7 := r6.ext x7 (by omega) (fun m hm (e : m = h2.next) => by omega)
  have gR7 := blk x7 gR6 (by omega) (show ¬ h.next = h2.next by omega)
  (try simp only [run, Option.map_some, Nat.reduceEqDiff, Nat.reduceAdd, Nat.zero_add, ↓reduceIte, decide_eq_true_eq, decide_true, decide_false, Bool.not_true, Bool.not_false, Bool.true_eq_false, Bool.false_eq_true, List.getElem?_cons_zero, List.getElem?_cons_succ, List.nil_append, List.cons_append, reduceCtorEq, eq_self, decide_eq_false_iff_not, not_true_eq_false, not_false_eq_true, Nat.add_zero, Nat.succ_ne_self, Nat.one_ne_zero, Nat.zero_ne_one])
  refine use (pbytes' (by omega) hn r7 e5) ?_
  rintro y5 h8 ⟨o8, x8, r8⟩
  have n8 := x8.next
  have gR8 := blk x8 gR7 (by omega) (show ¬ h.next = p by omega)
  have gB8 := blk x8 gB7 (by omega) (show ¬ h2.next = p by omega)
  simp only [run, Option.map_some, Nat.reduceEqDiff, Nat.reduceAdd, Nat.zero_add, ↓reduceIte, decide_eq_true_eq, decide_true, decide_false, Bool.not_true, Bool.not_false, Bool.true_eq_false, Bool.false_eq_true, List.getElem?_cons_zero, List.getElem?_cons_succ, List.nil_append, List.cons_append, reduceCtorEq, eq_self, decide_eq_false_iff_not, not_true_eq_false, not_false_eq_true, Nat.add_zero, Nat.succ_ne_self, Nat.one_ne_zero, Nat.zero_ne_one]
  refine use (pbytes' (by omega) hn r8 e6) ?_
  rintro y6 h9 ⟨o9, x9, r9⟩
  have n9 := x9.next
  have gR9 := blk x9 gR8 (by omega) (show ¬ h.next = p by omega)
  have gB9 := blk x9 gB8 (by omega) (show ¬ h2.next = p by omega)
  have o89 := o8.ext x9 (Nat.le_refl _) (fun m hm _ (e : m = p) => by omega)
  simp only [run, Option.map_some, Nat.reduceEqDiff, Nat.reduceAdd, Nat.zero_add, ↓reduceIte, decide_eq_true_eq, decide_true, decide_false, Bool.not_true, Bool.not_false, Bool.true_eq_false, Bool.false_eq_true, List.getElem?_cons_zero, List.getElem?_cons_succ, List.nil_append, List.cons_append, reduceCtorEq, eq_self, decide_eq_false_iff_not, not_true_eq_false, not_false_eq_true, Nat.add_zero, Nat.succ_ne_self, Nat.one_ne_zero, Nat.zero_ne_one]
  refine use (pbytes' (by omega) hn r9 e7) ?_
  rintro y7 h10 ⟨o10, x10, r10⟩
  have n10 := x10.next
  have gR10 := blk x10 gR9 (by omega) (show ¬ h.next = p by omega)
  have gB10 := blk x10 gB9 (by omega) (show ¬ h2.next = p by omega)
  have o810 := o89.ext x10 (Nat.le_refl _) (fun m hm _ (e : m = p) => by omega)
  have o910 := o9.ext x10 (Nat.le_refl _) (fun m hm _ (e : m = p) => by omega)
  simp only [run, Option.map_some, Nat.reduceEqDiff, Nat.reduceAdd, Nat.zero_add, ↓reduceIte, decide_eq_true_eq, decide_true, decide_false, Bool.not_true, Bool.not_false, Bool.true_eq_false, Bool.false_eq_true, List.getElem?_cons_zero, List.getElem?_cons_succ, List.nil_append, List.cons_append, reduceCtorEq, eq_self, decide_eq_false_iff_not, not_true_eq_false, not_false_eq_true, Nat.add_zero, Nat.succ_ne_self, Nat.one_ne_zero, Nat.zero_ne_one]
  refine use1 (st_cell gB10 o810.sl.cell (by simp)) ?_
  simp only [run, Option.map_some, Nat.reduceEqDiff, Nat.reduceAdd, Nat.zero_add, ↓reduceIte, decide_eq_true_eq, decide_true, decide_false, Bool.not_true, Bool.not_false, Bool.true_eq_false, Bool.false_eq_true, List.getElem?_cons_zero, List.getElem?_cons_succ, List.nil_append, List.cons_append, reduceCtorEq, eq_self, decide_eq_false_iff_not, not_true_eq_false, not_false_eq_true, Nat.add_zero, Nat.succ_ne_self, Nat.one_ne_zero, Nat.zero_ne_one]
  have gB10' := get_upd_self (h := h10) (m := h2.next) ⟨[Value.int .i64 a1, .int .i64 a2, .int .i64 a3, .int .i64 a4, .slice none 0 0, .slice none 0 0, .slice none 0 0].set 4 y5, 7, 0, none⟩ (by omega)
  refine use1 (st_cell gB10' o910.sl.cell (by simp)) ?_
  simp only [run, Option.map_some, Nat.reduceEqDiff, Nat.reduceAdd, Nat.zero_add, ↓reduceIte, decide_eq_true_eq, decide_true, decide_false, Bool.not_true, Bool.not_false, Bool.true_eq_false, Bool.false_eq_true, List.getElem?_cons_zero, List.getElem?_cons_succ, List.nil_append, List.cons_append, reduceCtorEq, eq_self, decide_eq_false_iff_not, not_true_eq_false, not_false_eq_true, Nat.add_zero, Nat.succ_ne_self, Nat.one_ne_zero, Nat.zero_ne_one]
  have gB10'' := get_upd_self (h := h10.upd h2.next ⟨[Value.int .i64 a1, .int .i64 a2, .int .i64 a3, .int .i64 a4, .slice none 0 0, .slice none 0 0, .slice none 0 0].set 4 y5, 7, 0, none⟩) (m := h2.next) ⟨([Value.int .i64 a1, .int .i64 a2, .int .i64 a3, .int .i64 a4, .slice none 0 0, .slice none 0 0, .slice none 0 0].set 4 y5).set 5 y6, 7, 0, none⟩ (by rw [upd_next]; omega)
  refine use1 (st_cell gB10'' o10.sl.cell (by simp)) ?_
  obtain ⟨h11, eh11⟩ : ∃ g, ((h10.upd h2.next ⟨[Value.int .i64 a1, .int .i64 a2, .int .i64 a3, .int .i64 a4, .slice none 0 0, .slice none 0 0, .slice none 0 0].set 4 y5, 7, 0, none⟩).upd h2.next ⟨([Value.int .i64 a1, .int .i64 a2, .int .i64 a3, .int .i64 a4, .slice none 0 0, .slice none 0 0, .slice none 0 0].set 4 y5).set 5 y6, 7, 0, none⟩).upd h2.next ⟨(([Value.int .i64 a1, .int .i64 a2, .int .i64 a3, .int .i64 a4, .slice none 0 0, .slice none 0 0, .slice none 0 0].set 4 y5).set 5 y6).set 6 y7, 7, 0, none⟩ = g := ⟨_, rfl⟩
  have n11 : h11.next = h10.next := by rw [← eh11]; rfl
  have x11 : Ext (one h2.next) h10.next h10 h11 := by rw [← eh11]; exact ((Ext.upd0 _ _ _ _).upd1 _).upd1 _
  have gB11 : h11.get h2.next = ⟨[.int .i64 a1, .int .i64 a2, .int .i64 a3, .int .i64 a4, y5, y6, y7], 7, 0, none⟩ := by rw [← eh11]; exact get_upd_self _ (by rw [upd_next, upd_next]; omega)
  rw [eh11]
  have r11 := r10.ext x11 (by omega) (fun m hm (e : m = h2.next) => by omega)
  have gR11 := blk x11 gR10 (by omega) (show ¬ h.next = h2.next by omega)
  have p5 := o810.ext x11 (Nat.le_refl _) (fun m hm _ (e : m = h2.next) => by omega)
  have p6 := o910.ext x11 (Nat.le_refl _) (fun m hm _ (e : m = h2.next) => by omega)
  have p7 := o10.ext x11 (Nat.le_refl _) (fun m hm _ (e : m = h2.next) => by omega)
  have xb : Ext (one p) h.next h h11 :=
    ⟨by omega, fun m hm hmp => by
      rw [x11.get m (by omega) (show ¬ m = h2.next by omega), x10.get m (by omega) hmp, x9.get m (by omega) hmp, x8.get m (by omega) hmp, x7.get m (by omega) (show ¬ m = h2.next by omega),
        x6.get m (by omega) hmp, x5.get m (by omega) hmp, x4.get m (by omega) (show ¬ m = h2.next by omega), x3.get m (by omega) (fun x => x), x2.get m (by omega) hmp, x1.get m (by omega) hmp, x0.get m (by omega) (fun x => x)]⟩
  simp only [run, Option.map_some, Nat.reduceEqDiff, Nat.reduceAdd, Nat.zero_add, ↓reduceIte, decide_eq_true_eq, decide_true, decide_false, Bool.not_true, Bool.not_false, Bool.true_eq_false, Bool.false_eq_true, List.getElem?_cons_zero, List.getElem?_cons_succ, List.nil_append, List.cons_append, reduceCtorEq, eq_self, decide_eq_false_iff_not, not_true_eq_false, not_false_eq_true, Nat.add_zero, Nat.succ_ne_self, Nat.one_ne_zero, Nat.zero_ne_one]
  refine useE (ok_spec (by omega) r11) ?_
  cases s7 with
  | none =>
    simp only [run, Option.map_some, Nat.reduceEqDiff, Nat.reduceAdd, Nat.zero_add, ↓reduceIte, decide_eq_true_eq, decide_true, decide_false, Bool.not_true, Bool.not_false, Bool.true_eq_false, Bool.false_eq_true, List.getElem?_cons_zero, List.getElem?_cons_succ, List.nil_append, List.cons_append, reduceCtorEq, eq_self, decide_eq_false_iff_not, not_true_eq_false, not_false_eq_true, Nat.add_zero, Nat.succ_ne_self, Nat.one_ne_zero, Nat.zero_ne_one, Option.isSome_none]
    refine use1 (v := [.int .i64 0, .int .i64 0, .int .i64 0, .int .i64 0, .slice none 0 0, .slice none 0 0, .slice none 0 0]) rfl ?_
    (try simp only [run, Option.map_some, Nat.reduceEqDiff, Nat.reduceAdd, Nat.zero_add, ↓reduceIte, decide_eq_true_eq, decide_true, decide_false, Bool.not_true, Bool.not_false, Bool.true_eq_false, Bool.false_eq_true, List.getElem?_cons_zero, List.getElem?_cons_succ, List.nil_append, List.cons_append, reduceCtorEq, eq_self, decide_eq_false_iff_not, not_true_eq_false, not_false_eq_true, Nat.add_zero, Nat.succ_ne_self, Nat.one_ne_zero, Nat.zero_ne_one])
    refine use1 (st_whole gR11 rfl rfl rfl (by simp)) ?_
    have g12 := get_upd_self (h := h11) (m := h.next) ⟨[Value.int .i64 0, .int .i64 0, .int .i64 0, .int .i64 0, .slice none 0 0, .slice none 0 0, .slice none 0 0], 7, 0, none⟩ (by omega)
    have x12 : Ext no h.next h11 (h11.upd h.next ⟨[Value.int .i64 0, .int .i64 0, .int .i64 0, .int .i64 0, .slice none 0 0, .slice none 0 0, .slice none 0 0], 7, 0, none⟩) := (Ext.refl _ _ _).upd (.inl (Nat.le_refl _)) _
    simp only [run, Option.map_some, Nat.reduceEqDiff, Nat.reduceAdd, Nat.zero_add, ↓reduceIte, decide_eq_true_eq, decide_true, decide_false, Bool.not_true, Bool.not_false, Bool.true_eq_false, Bool.false_eq_true, List.getElem?_cons_zero, List.getElem?_cons_succ, List.nil_append, List.cons_append, reduceCtorEq, eq_self, decide_eq_false_iff_not, not_true_eq_false, not_false_eq_true, Nat.add_zero, Nat.succ_ne_self, Nat.one_ne_zero, Nat.zero_ne_one, ld_whole (k := 7) g12 (by decide) rfl]
    exact ⟨xb.trans x12.none (Nat.le_refl _), r11.ext x12 hlt (fun _ _ x => x), _, rfl, _, _, _, rfl, Sl.nil, Sl.nil, Sl.nil⟩
  | some z =>
    simp only [run, Option.map_some, Nat.reduceEqDiff, Nat.reduceAdd, Nat.zero_add, ↓reduceIte, decide_eq_true_eq, decide_true, decide_false, Bool.not_true, Bool.not_false, Bool.true_eq_false, Bool.false_eq_true, List.getElem?_cons_zero, List.getElem?_cons_succ, List.nil_append, List.cons_append, reduceCtorEq, eq_self, decide_eq_false_iff_not, not_true_eq_false, not_false_eq_true, Nat.add_zero, Nat.succ_ne_self, Nat.one_ne_zero, Nat.zero_ne_one, Option.isSome_some, ld_whole (k := 7) gB11 (by decide) rfl]
    refine use1 (st_whole gR11 rfl rfl (by simp only [List.all_cons, List.all_nil, isCell_int, isCell_bool, isCell_slice, isCell_string, isCell_pointer, Bool.and_true, Bool.true_and, Bool.and_self, p5.sl.cell, p6.sl.cell, p7.sl.cell]) (by simp)) ?_
    have g12 := get_upd_self (h := h11) (m := h.next) ⟨[Value.int .i64 a1, .int .i64 a2, .int .i64 a3, .int .i64 a4, y5, y6, y7], 7, 0, none⟩ (by omega)
    have x12 : Ext (one h.next) h11.next h11 (h11.upd h.next ⟨[Value.int .i64 a1, .int .i64 a2, .int .i64 a3, .int .i64 a4, y5, y6, y7], 7, 0, none⟩) := Ext.upd0 _ _ _ _
    simp only [run, Option.map_some, Nat.reduceEqDiff, Nat.reduceAdd, Nat.zero_add, ↓reduceIte, decide_eq_true_eq, decide_true, decide_false, Bool.not_true, Bool.not_false, Bool.true_eq_false, Bool.false_eq_true, List.getElem?_cons_zero, List.getElem?_cons_succ, List.nil_append, List.cons_append, reduceCtorEq, eq_self, decide_eq_false_iff_not, not_true_eq_false, not_false_eq_true, Nat.add_zero, Nat.succ_ne_self, Nat.one_ne_zero, Nat.zero_ne_one, ld_whole (k := 7) g12 (by decide) rfl]
    have q5 := (p5.ext x12 (Nat.le_refl _) (fun m hm _ (e : m = h.next) => by omega)).sl
    have q6 := (p6.ext x12 (Nat.le_refl _) (fun m hm _ (e : m = h.next) => by omega)).sl
    have q7 := (p7.ext x12 (Nat.le_refl _) (fun m hm _ (e : m = h.next) => by omega)).sl
    exact ⟨xb.then x12 (by omega) (fun m hm (e : m = h.next) => by omega), r11.ext x12 (by omega) (fun m hm (e : m = h.next) => by omega), _, rfl, _, _, _, rfl, q5.more (by omega) (Nat.le_refl _), q6.more (by omega) (Nat.le_refl _), q7.more (by omega) (Nat.le_refl _)⟩

theorem get108_spec (hd : 3 ≤ d) (hn : 20 ≤ n) {p : Nat} {s : Option (List UInt8)} (hp : RR h p s) :
    ∃ v' h', aCall Try.prog n d 108 [.pointer (some ⟨p, 0, none⟩)] h = some (v', h') ∧ Ext (one p) h.next h h' ∧ RR h' p (rdEntry s).2 ∧ ∃ cs, v' = .agg ⟨cs⟩ ∧ RepE h.next h'.next h' cs (rdEntry s).1 := by
  obtain ⟨d, rfl, hd⟩ := depth hd
  have hlt := hp.lt
  rcases e1 : rdNum 1073741824 s with ⟨a1, s1⟩
  rcases e2 : rdNum 1073741824 s1 with ⟨a2, s2⟩
  rcases e3 : rdNum 1073741824 s2 with ⟨a3, s3⟩
  rcases e4 : rdNum 1073741824 s3 with ⟨a4, s4⟩
  rcases e5 : rdBytes 32 s4 with ⟨b5, s5⟩
  rcases e6 : rdBytes 32 s5 with ⟨b6, s6⟩
  rcases e7 : rdBytes 32 s6 with ⟨b7, s7⟩
  simp only [rdEntry, e1, e2, e3, e4, e5, e6, e7]
  refine call_of t108 (Nat.le_of_ble_eq_true rfl) ?_
  simp only [c108, run, Option.map_some, Nat.reduceEqDiff, Nat.reduceAdd, Nat.zero_add, ↓reduceIte, decide_eq_true_eq, decide_true, decide_false, Bool.not_true, Bool.not_false, Bool.true_eq_false, Bool.false_eq_true, List.getElem?_cons_zero, List.getElem?_cons_succ, List.nil_append, List.cons_append, reduceCtorEq, eq_self, decide_eq_false_iff_not, not_true_eq_false, not_false_eq_true, Nat.add_zero, Nat.succ_ne_self, Nat.one_ne_zero, Nat.zero_ne_one]
  obtain ⟨h0, eh0, x0, n0, gR0⟩ := boxed h ⟨[.int .i64 0, .int .i64 0, .int .i64 0, .int .i64 0, .slice none 0 0, .slice none 0 0, .slice none 0 0], 7, 0, none⟩
  rw [eh0]
  have r0 := hp.ext x0 hlt (fun _ _ x => x)
  refine use (rrnum' (by omega) hn r0 e1) ?_
  rintro _ h1 ⟨rfl, n1, x1, r1⟩
  have gR1 := blk x1 gR0 (by omega) (show ¬ h.next = p by omega)
  simp only [run, Option.map_some, Nat.reduceEqDiff, Nat.reduceAdd, Nat.zero_add, ↓reduceIte, decide_eq_true_eq, decide_true, decide_false, Bool.not_true, Bool.not_false, Bool.true_eq_false, Bool.false_eq_true, List.getElem?_cons_zero, List.getElem?_cons_succ, List.nil_append, List.cons_append, reduceCtorEq, eq_self, decide_eq_false_iff_not, not_true_eq_false, not_false_eq_true, Nat.add_zero, Nat.succ_ne_self, Nat.one_ne_zero, Nat.zero_ne_one]
  refine use (rrnum' (by omega) hn r1 e2) ?_
  rintro _ h2 ⟨rfl, n2, x2, r2⟩
  have gR2 := blk x2 gR1 (by omega) (show ¬ h.next = p by omega)
  simp only [run, Option.map_some, Nat.reduceEqDiff, Nat.reduceAdd, Nat.zero_add, ↓reduceIte, decide_eq_true_eq, decide_true, decide_false, Bool.not_true, Bool.not_false, Bool.true_eq_false, Bool.false_eq_true, List.getElem?_cons_zero, List.getElem?_cons_succ, List.nil_append, List.cons_append, reduceCtorEq, eq_self, decide_eq_false_iff_not, not_true_eq_false, not_false_eq_true, Nat.add_zero, Nat.succ_ne_self, Nat.one_ne_zero, Nat.zero_ne_one]
  refine use1 (v := [.int .i64 a1, .int .i64 a2, .int .i64 0, .int .i64 0, .slice none 0 0, .slice none 0 0, .slice none 0 0]) rfl ?_
  simp only [run, Option.map_some, Nat.reduceEqDiff, Nat.reduceAdd, Nat.zero_add, ↓reduceIte, decide_eq_true_eq, decide_true, decide_false, Bool.not_true, Bool.not_false, Bool.true_eq_false, Bool.false_eq_true, List.getElem?_cons_zero, List.getElem?_cons_succ, List.nil_append, List.cons_append, reduceCtorEq, eq_self, decide_eq_false_iff_not, not_true_eq_false, not_false_eq_true, Nat.add_zero, Nat.succ_ne_self, Nat.one_ne_zero, Nat.zero_ne_one]
  obtain ⟨h3, eh3, x3, n3, gB3⟩ := boxed h2 ⟨[.int .i64 0, .int .i64 0, .int .i64 0, .int .i64 0, .slice none 0 0, .slice none 0 0, .slice none 0 0], 7, 0, none⟩
  rw [eh3]
  have r3 := r2.ext x3 (by omega) (fun _ _ x => x)
  have gR3 := blk0 x3 gR2 (by omega)
  refine use1 (st_whole gB3 rfl rfl rfl (by simp)) ?_
  obtain ⟨h4, eh4⟩ : ∃ g, h3.upd h2.next ⟨[.int .i64 a1, .int .i64 a2, .int .i64 0, .int .i64 0, .slice none 0 0, .slice none 0 0, .slice none 0 0], 7, 0, none⟩ = g := ⟨_, rfl⟩
  have n4 : h4.next = h3.next := by rw [← eh4]; rfl
  have x4 : Ext (one h2.next) h3.next h3 h4 := by rw [← eh4]; exact Ext.upd0 _ _ _ _
  have gB4 : h4.get h2.next = ⟨[.int .i64 a1, .int .i64 a2, .int .i64 0, .int .i64 0, .slice none 0 0, .slice none 0 0, .slice none 0 0], 7, 0, none⟩ := by rw [← eh4]; exact get_upd_self _ (by omega)
  rw [eh4]
  have r4 := r3.ext x4 (by omega) (fun m hm (e : m = h2.next) => by omega)
  have gR4 := blk x4 gR3 (by omega) (show ¬ h.next = h2.next by omega)
  (try simp only [run, Option.map_some, Nat.reduceEqDiff, Nat.reduceAdd, Nat.zero_add, ↓reduceIte, decide_eq_true_eq, decide_true, decide_false, Bool.not_true, Bool.not_false, Bool.true_eq_false, Bool.false_eq_true, List.getElem?_cons_zero, List.getElem?_cons_succ, List.nil_append, List.cons_append, reduceCtorEq, eq_self, decide_eq_false_iff_not, not_true_eq_false, not_false_eq_true, Nat.add_zero, Nat.succ_ne_self, Nat.one_ne_zero, Nat.zero_ne_one])
  refine use (rrnum' (by omega) hn r4 e3) ?_
  rintro _ h5 ⟨rfl, n5, x5, r5⟩
  have gR5 := blk x5 gR4 (by omega) (show ¬ h.next = p by omega)
  have gB5 := blk x5 gB4 (by omega) (show ¬ h2.next = p by omega)
  simp only [run, Option.map_some, Nat.reduceEqDiff, Nat.reduceAdd, Nat.zero_add, ↓reduceIte, decide_eq_true_eq, decide_true, decide_false, Bool.not_true, Bool.not_false, Bool.true_eq_false, Bool.false_eq_true, List.getElem?_cons_zero, List.getElem?_cons_succ, List.nil_append, List.cons_append, reduceCtorEq, eq_self, decide_eq_false_iff_not, not_true_eq_false, not_false_eq_true, Nat.add_zero, Nat.succ_ne_self, Nat.one_ne_zero, Nat.zero_ne_one]
  refine use (rrnum' (by omega) hn r5 e4) ?_
  rintro _ h6 ⟨rfl, n6, x6, r6⟩
  have gR6 := blk x6 gR5 (by omega) (show ¬ h.next = p by omega)
  have gB6 := blk x6 gB5 (by omega) (show ¬ h2.next = p by omega)
  simp only [run, Option.map_some, Nat.reduceEqDiff, Nat.reduceAdd, Nat.zero_add, ↓reduceIte, decide_eq_true_eq, decide_true, decide_false, Bool.not_true, Bool.not_false, Bool.true_eq_false, Bool.false_eq_true, List.getElem?_cons_zero, List.getElem?_cons_succ, List.nil_append, List.cons_append, reduceCtorEq, eq_self, decide_eq_false_iff_not, not_true_eq_false, not_false_eq_true, Nat.add_zero, Nat.succ_ne_self, Nat.one_ne_zero, Nat.zero_ne_one]
  refine use1 (st_cell gB6 rfl (by simp)) ?_
  simp only [run, Option.map_some, Nat.reduceEqDiff, Nat.reduceAdd, Nat.zero_add, ↓reduceIte, decide_eq_true_eq, decide_true, decide_false, Bool.not_true, Bool.not_false, Bool.true_eq_false, Bool.false_eq_true, List.getElem?_cons_zero, List.getElem?_cons_succ, List.nil_append, List.cons_append, reduceCtorEq, eq_self, decide_eq_false_iff_not, not_true_eq_false, not_false_eq_true, Nat.add_zero, Nat.succ_ne_self, Nat.one_ne_zero, Nat.zero_ne_one]
  have gB6' := get_upd_self (h := h6) (m := h2.next) ⟨[Value.int .i64 a1, .int .i64 a2, .int .i64 0, .int .i64 0, .slice none 0 0, .slice none 0 0, .slice none 0 0].set 2 (.int .i64 a3), 7, 0, none⟩ (by omega)
  refine use1 (st_cell gB6' rfl (by simp)) ?_
  obtain ⟨h7, eh7⟩ : ∃ g, (h6.upd h2.next ⟨[Value.int .i64 a1, .int .i64 a2, .int .i64 0, .int .i64 0, .slice none 0 0, .slice none 0 0, .slice none 0 0].set 2 (.int .i64 a3), 7, 0, none⟩).upd h2.next ⟨([Value.int .i64 a1, .int .i64 a2, .int .i64 0, .int .i64 0, .slice none 0 0, .slice none 0 0, .slice none 0 0].set 2 (.int .i64 a3)).set 3 (.int .i64 a4), 7, 0, none⟩ = g := ⟨_, rfl⟩
  have n7 : h7.next = h6.next := by rw [← eh7]; rfl
  have x7 : Ext (one h2.next) h6.next h6 h7 := by rw [← eh7]; exact (Ext.upd0 _ _ _ _).upd1 _
  have gB7 : h7.get h2.next = ⟨[.int .i64 a1, .int .i64 a2, .int .i64 a3, .int .i64 a4, .slice none 0 0, .slice none 0 0, .slice none 0 0], 7, 0, none⟩ := by rw [← eh7]; exact get_upd_self _ (by rw [upd_next]; omega)
  rw [eh7]
  have r7 := r6.ext x7 (by omega) (fun m hm (e : m = h2.next) => by omega)
  have gR7 := blk x7 gR6 (by omega) (show ¬ h.next = h2.next by omega)
  (try simp only [run, Option.map_some, Nat.reduceEqDiff, Nat.reduceAdd, Nat.zero_add, ↓reduceIte, decide_eq_true_eq, decide_true, decide_false, Bool.not_true, Bool.not_false, Bool.true_eq_false, Bool.false_eq_true, List.getElem?_cons_zero, List.getElem?_cons_succ, List.nil_append, List.cons_append, reduceCtorEq, eq_self, decide_eq_false_iff_not, not_true_eq_false, not_false_eq_true, Nat.add_zero, Nat.succ_ne_self, Nat.one_ne_zero, Nat.zero_ne_one])
  refine use (rrbytes' (by omega) hn r7 e5) ?_
  rintro y5 h8 ⟨o8, x8, r8⟩
  have n8 := x8.next
  have gR8 := blk x8 gR7 (by omega) (show ¬ h.next = p by omega)
  have gB8 := blk x8 gB7 (by omega) (show ¬ h2.next = p by omega)
  simp only [run, Option.map_some, Nat.reduceEqDiff, Nat.reduceAdd, Nat.zero_add, ↓reduceIte, decide_eq_true_eq, decide_true, decide_false, Bool.not_true, Bool.not_false, Bool.true_eq_false, Bool.false_eq_true, List.getElem?_cons_zero, List.getElem?_cons_succ, List.nil_append, List.cons_append, reduceCtorEq, eq_self, decide_eq_false_iff_not, not_true_eq_false, not_false_eq_true, Nat.add_zero, Nat.succ_ne_self, Nat.one_ne_zero, Nat.zero_ne_one]
  refine use (rrbytes' (by omega) hn r8 e6) ?_
  rintro y6 h9 ⟨o9, x9, r9⟩
  have n9 := x9.next
  have gR9 := blk x9 gR8 (by omega) (show ¬ h.next = p by omega)
  have gB9 := blk x9 gB8 (by omega) (show ¬ h2.next = p by omega)
  have o89 := o8.ext x9 (Nat.le_refl _) (fun m hm _ (e : m = p) => by omega)
  simp only [run, Option.map_some, Nat.reduceEqDiff, Nat.reduceAdd, Nat.zero_add, ↓reduceIte, decide_eq_true_eq, decide_true, decide_false, Bool.not_true, Bool.not_false, Bool.true_eq_false, Bool.false_eq_true, List.getElem?_cons_zero, List.getElem?_cons_succ, List.nil_append, List.cons_append, reduceCtorEq, eq_self, decide_eq_false_iff_not, not_true_eq_false, not_false_eq_true, Nat.add_zero, Nat.succ_ne_self, Nat.one_ne_zero, Nat.zero_ne_one]
  refine use (rrbytes' (by omega) hn r9 e7) ?_
  rintro y7 h10 ⟨o10, x10, r10⟩
  have n10 := x10.next
  have gR10 := blk x10 gR9 (by omega) (show ¬ h.next = p by omega)
  have gB10 := blk x10 gB9 (by omega) (show ¬ h2.next = p by omega)
  have o810 := o89.ext x10 (Nat.le_refl _) (fun m hm _ (e : m = p) => by omega)
  have o910 := o9.ext x10 (Nat.le_refl _) (fun m hm _ (e : m = p) => by omega)
  simp only [run, Option.map_some, Nat.reduceEqDiff, Nat.reduceAdd, Nat.zero_add, ↓reduceIte, decide_eq_true_eq, decide_true, decide_false, Bool.not_true, Bool.not_false, Bool.true_eq_false, Bool.false_eq_true, List.getElem?_cons_zero, List.getElem?_cons_succ, List.nil_append, List.cons_append, reduceCtorEq, eq_self, decide_eq_false_iff_not, not_true_eq_false, not_false_eq_true, Nat.add_zero, Nat.succ_ne_self, Nat.one_ne_zero, Nat.zero_ne_one]
  refine use1 (st_cell gB10 o810.sl.cell (by simp)) ?_
  simp only [run, Option.map_some, Nat.reduceEqDiff, Nat.reduceAdd, Nat.zero_add, ↓reduceIte, decide_eq_true_eq, decide_true, decide_false, Bool.not_true, Bool.not_false, Bool.true_eq_false, Bool.false_eq_true, List.getElem?_cons_zero, List.getElem?_cons_succ, List.nil_append, List.cons_append, reduceCtorEq, eq_self, decide_eq_false_iff_not, not_true_eq_false, not_false_eq_true, Nat.add_zero, Nat.succ_ne_self, Nat.one_ne_zero, Nat.zero_ne_one]
  have gB10' := get_upd_self (h := h10) (m := h2.next) ⟨[Value.int .i64 a1, .int .i64 a2, .int .i64 a3, .int .i64 a4, .slice none 0 0, .slice none 0 0, .slice none 0 0].set 4 y5, 7, 0, none⟩ (by omega)
  refine use1 (st_cell gB10' o910.sl.cell (by simp)) ?_
  simp only [run, Option.map_some, Nat.reduceEqDiff, Nat.reduceAdd, Nat.zero_add, ↓reduceIte, decide_eq_true_eq, decide_true, decide_false, Bool.not_true, Bool.not_false, Bool.true_eq_false, Bool.false_eq_true, List.getElem?_cons_zero, List.getElem?_cons_succ, List.nil_append, List.cons_append, reduceCtorEq, eq_self, decide_eq_false_iff_not, not_true_eq_false, not_false_eq_true, Nat.add_zero, Nat.succ_ne_self, Nat.one_ne_zero, Nat.zero_ne_one]
  have gB10'' := get_upd_self (h := h10.upd h2.next ⟨[Value.int .i64 a1, .int .i64 a2, .int .i64 a3, .int .i64 a4, .slice none 0 0, .slice none 0 0, .slice none 0 0].set 4 y5, 7, 0, none⟩) (m := h2.next) ⟨([Value.int .i64 a1, .int .i64 a2, .int .i64 a3, .int .i64 a4, .slice none 0 0, .slice none 0 0, .slice none 0 0].set 4 y5).set 5 y6, 7, 0, none⟩ (by rw [upd_next]; omega)
  refine use1 (st_cell gB10'' o10.sl.cell (by simp)) ?_
  obtain ⟨h11, eh11⟩ : ∃ g, ((h10.upd h2.next ⟨[Value.int .i64 a1, .int .i64 a2, .int .i64 a3, .int .i64 a4, .slice none 0 0, .slice none 0 0, .slice none 0 0].set 4 y5, 7, 0, none⟩).upd h2.next ⟨([Value.int .i64 a1, .int .i64 a2, .int .i64 a3, .int .i64 a4, .slice none 0 0, .slice none 0 0, .slice none 0 0].set 4 y5).set 5 y6, 7, 0, none⟩).upd h2.next ⟨(([Value.int .i64 a1, .int .i64 a2, .int .i64 a3, .int .i64 a4, .slice none 0 0, .slice none 0 0, .slice none 0 0].set 4 y5).set 5 y6).set 6 y7, 7, 0, none⟩ = g := ⟨_, rfl⟩
  have n11 : h11.next = h10.next := by rw [← eh11]; rfl
  have x11 : Ext (one h2.next) h10.next h10 h11 := by rw [← eh11]; exact ((Ext.upd0 _ _ _ _).upd1 _).upd1 _
  have gB11 : h11.get h2.next = ⟨[.int .i64 a1, .int .i64 a2, .int .i64 a3, .int .i64 a4, y5, y6, y7], 7, 0, none⟩ := by rw [← eh11]; exact get_upd_self _ (by rw [upd_next, upd_next]; omega)
  rw [eh11]
  have r11 := r10.ext x11 (by omega) (fun m hm (e : m = h2.next) => by omega)
  have gR11 := blk x11 gR10 (by omega) (show ¬ h.next = h2.next by omega)
  have p5 := o810.ext x11 (Nat.le_refl _) (fun m hm _ (e : m = h2.next) => by omega)
  have p6 := o910.ext x11 (Nat.le_refl _) (fun m hm _ (e : m = h2.next) => by omega)
  have p7 := o10.ext x11 (Nat.le_refl _) (fun m hm _ (e : m = h2.next) => by omega)
  have xb : Ext (one p) h.next h h11 :=
    ⟨by omega, fun m hm hmp => by
      rw [x11.get m (by omega) (show ¬ m = h2.next by omega), x10.get m (by omega) hmp, x9.get m (by omega) hmp, x8.get m (by omega) hmp, x7.get m (by omega) (show ¬ m = h2.next by omega),
        x6.get m (by omega) hmp, x5.get m (by omega) hmp, x4.get m (by omega) (show ¬ m = h2.next by omega), x3.get m (by omega) (fun x => x), x2.get m (by omega) hmp, x1.get m (by omega) hmp, x0.get m (by omega) (fun x => x)]⟩
  obtain ⟨vv, bad, ll, hb, _, _, _, hs⟩ := id r11
  have L1 : h11.load1 p 1 = some (.bool bad) := by rw [ld_cell hb (by decide)]; rfl
  have hbad : bad = !s7.isSome := by
    cases bad with
    | true => have : s7 = none := hs; rw [this]; rfl
    | false => have : s7 = some ll := hs; rw [this]; rfl
  rw [hbad] at L1
  simp only [run, Option.map_some, Nat.reduceEqDiff, Nat.reduceAdd, Nat.zero_add, ↓reduceIte, decide_eq_true_eq, decide_true, decide_false, Bool.not_true, Bool.not_false, Bool.true_eq_false, Bool.false_eq_true, List.getElem?_cons_zero, List.getElem?_cons_succ, List.nil_append, List.cons_append, reduceCtorEq, eq_self, decide_eq_false_iff_not, not_true_eq_false, not_false_eq_true, Nat.add_zero, Nat.succ_ne_self, Nat.one_ne_zero, Nat.zero_ne_one, L1]
  cases s7 with
  | none =>
    simp only [run, Option.map_some, Nat.reduceEqDiff, Nat.reduceAdd, Nat.zero_add, ↓reduceIte, decide_eq_true_eq, decide_true, decide_false, Bool.not_true, Bool.not_false, Bool.true_eq_false, Bool.false_eq_true, List.getElem?_cons_zero, List.getElem?_cons_succ, List.nil_append, List.cons_append, reduceCtorEq, eq_self, decide_eq_false_iff_not, not_true_eq_false, not_false_eq_true, Nat.add_zero, Nat.succ_ne_self, Nat.one_ne_zero, Nat.zero_ne_one, Option.isSome_none]
    refine use1 (v := [.int .i64 0, .int .i64 0, .int .i64 0, .int .i64 0, .slice none 0 0, .slice none 0 0, .slice none 0 0]) rfl ?_
    (try simp only [run, Option.map_some, Nat.reduceEqDiff, Nat.reduceAdd, Nat.zero_add, ↓reduceIte, decide_eq_true_eq, decide_true, decide_false, Bool.not_true, Bool.not_false, Bool.true_eq_false, Bool.false_eq_true, List.getElem?_cons_zero, List.getElem?_cons_succ, List.nil_append, List.cons_append, reduceCtorEq, eq_self, decide_eq_false_iff_not, not_true_eq_false, not_false_eq_true, Nat.add_zero, Nat.succ_ne_self, Nat.one_ne_zero, Nat.zero_ne_one])
    refine use1 (st_whole gR11 rfl rfl rfl (by simp)) ?_
    have g12 := get_upd_self (h := h11) (m := h.next) ⟨[Value.int .i64 0, .int .i64 0, .int .i64 0, .int .i64 0, .slice none 0 0, .slice none 0 0, .slice none 0 0], 7, 0, none⟩ (by omega)
    have x12 : Ext no h.next h11 (h11.upd h.next ⟨[Value.int .i64 0, .int .i64 0, .int .i64 0, .int .i64 0, .slice none 0 0, .slice none 0 0, .slice none 0 0], 7, 0, none⟩) := (Ext.refl _ _ _).upd (.inl (Nat.le_refl _)) _
    simp only [run, Option.map_some, Nat.reduceEqDiff, Nat.reduceAdd, Nat.zero_add, ↓reduceIte, decide_eq_true_eq, decide_true, decide_false, Bool.not_true, Bool.not_false, Bool.true_eq_false, Bool.false_eq_true, List.getElem?_cons_zero, List.getElem?_cons_succ, List.nil_append, List.cons_append, reduceCtorEq, eq_self, decide_eq_false_iff_not, not_true_eq_false, not_false_eq_true, Nat.add_zero, Nat.succ_ne_self, Nat.one_ne_zero, Nat.zero_ne_one, ld_whole (k := 7) g12 (by decide) rfl]
    exact ⟨xb.trans x12.none (Nat.le_refl _), r11.ext x12 hlt (fun _ _ x => x), _, rfl, _, _, _, rfl, Sl.nil, Sl.nil, Sl.nil⟩
  | some z =>
    simp only [run, Option.map_some, Nat.reduceEqDiff, Nat.reduceAdd, Nat.zero_add, ↓reduceIte, decide_eq_true_eq, decide_true, decide_false, Bool.not_true, Bool.not_false, Bool.true_eq_false, Bool.false_eq_true, List.getElem?_cons_zero, List.getElem?_cons_succ, List.nil_append, List.cons_append, reduceCtorEq, eq_self, decide_eq_false_iff_not, not_true_eq_false, not_false_eq_true, Nat.add_zero, Nat.succ_ne_self, Nat.one_ne_zero, Nat.zero_ne_one, Option.isSome_some, ld_whole (k := 7) gB11 (by decide) rfl]
    refine use1 (st_whole gR11 rfl rfl (by simp only [List.all_cons, List.all_nil, isCell_int, isCell_bool, isCell_slice, isCell_string, isCell_pointer, Bool.and_true, Bool.true_and, Bool.and_self, p5.sl.cell, p6.sl.cell, p7.sl.cell]) (by simp)) ?_
    have g12 := get_upd_self (h := h11) (m := h.next) ⟨[Value.int .i64 a1, .int .i64 a2, .int .i64 a3, .int .i64 a4, y5, y6, y7], 7, 0, none⟩ (by omega)
    have x12 : Ext (one h.next) h11.next h11 (h11.upd h.next ⟨[Value.int .i64 a1, .int .i64 a2, .int .i64 a3, .int .i64 a4, y5, y6, y7], 7, 0, none⟩) := Ext.upd0 _ _ _ _
    simp only [run, Option.map_some, Nat.reduceEqDiff, Nat.reduceAdd, Nat.zero_add, ↓reduceIte, decide_eq_true_eq, decide_true, decide_false, Bool.not_true, Bool.not_false, Bool.true_eq_false, Bool.false_eq_true, List.getElem?_cons_zero, List.getElem?_cons_succ, List.nil_append, List.cons_append, reduceCtorEq, eq_self, decide_eq_false_iff_not, not_true_eq_false, not_false_eq_true, Nat.add_zero, Nat.succ_ne_self, Nat.one_ne_zero, Nat.zero_ne_one, ld_whole (k := 7) g12 (by decide) rfl]
    have q5 := (p5.ext x12 (Nat.le_refl _) (fun m hm _ (e : m = h.next) => by omega)).sl
    have q6 := (p6.ext x12 (Nat.le_refl _) (fun m hm _ (e : m = h.next) => by omega)).sl
    have q7 := (p7.ext x12 (Nat.le_refl _) (fun m hm _ (e : m = h.next) => by omega)).sl
    exact ⟨xb.then x12 (by omega) (fun m hm (e : m = h.next) => by omega), r11.ext x12 (by omega) (fun m hm (e : m = h.next) => by omega), _, rfl, _, _, _, rfl, q5.more (by omega) (Nat.le_refl _), q6.more (by omega) (Nat.le_refl _), q7.more (by omega) (Nat.le_refl _)⟩

end Go.Proofs.Ytapmpenkceomdaa
/- Entries that are the same; an entry of one's own. -/
set_option linter.unusedSimpArgs false
set_option linter.unusedVariables false
set_option maxRecDepth 20000
namespace Go.Proofs.Ytapmpenkceomdaa
open Go.Ab

variable {n d : Nat} {h : AHeap}

theorem sameE28_spec (hd : 2 ≤ d) {cs ct : List Value} {e f : Entry} (he : RepE 0 h.next h cs e) (hf : RepE 0 h.next h ct f) :
    ∃ v' h', aCall Try.prog n d 28 [.agg ⟨cs⟩, .agg ⟨ct⟩] h = some (v', h') ∧ v' = .bool (decide (e = f)) ∧ Ext no h.next h h' := by
  obtain ⟨d, rfl, hd⟩ := depth hd
  refine call_of t28 (Nat.le_of_ble_eq_true rfl) ?_
  simp only [c28, run, Option.map_some, Nat.reduceEqDiff, Nat.reduceAdd, Nat.zero_add, ↓reduceIte, decide_eq_true_eq, decide_true, decide_false, Bool.not_true, Bool.not_false, Bool.true_eq_false, Bool.false_eq_true, List.getElem?_cons_zero, List.getElem?_cons_succ, List.nil_append, List.cons_append, reduceCtorEq, eq_self, decide_eq_false_iff_not, not_true_eq_false, not_false_eq_true, Nat.add_zero, Nat.succ_ne_self, Nat.one_ne_zero, Nat.zero_ne_one, cells_agg]
  obtain ⟨h0, eh0, x0, n0, g0⟩ := boxed h ⟨cs, 7, 0, none⟩
  rw [eh0]
  obtain ⟨h1, eh1, x1, n1, g1⟩ := boxed h0 ⟨ct, 7, 0, none⟩
  rw [eh1]
  have g01 := blk0 x1 g0 (by omega)
  have xb : Ext no h.next h h1 := x0.trans x1 (by omega)
  obtain ⟨k, w, o, rfl, hk, hw, ho⟩ := he.keep xb (Nat.le_refl _)
  obtain ⟨k', w', o', rfl, hk', hw', ho'⟩ := hf.keep xb (Nat.le_refl _)
  have La := fun i => ld_cell (o := i) g01 (by decide)
  have Lb := fun i => ld_cell (o := i) g1 (by decide)
  obtain ⟨es, eq, ek, ew, e5, e6, e7⟩ := e
  obtain ⟨fs, fq, fk, fw, f5, f6, f7⟩ := f
  simp only at hk hw ho hk' hw' ho'
  simp only [run, Option.map_some, Nat.reduceEqDiff, Nat.reduceAdd, Nat.zero_add, ↓reduceIte, decide_eq_true_eq, decide_true, decide_false, Bool.not_true, Bool.not_false, Bool.true_eq_false, Bool.false_eq_true, List.getElem?_cons_zero, List.getElem?_cons_succ, List.nil_append, List.cons_append, reduceCtorEq, eq_self, decide_eq_false_iff_not, not_true_eq_false, not_false_eq_true, Nat.add_zero, Nat.succ_ne_self, Nat.one_ne_zero, Nat.zero_ne_one, La, Lb, b2tB hk, b2tB hw, b2tB ho, b2tB hk', b2tB hw', b2tB ho', str_eq]
  by_cases c1 : es = fs
  rotate_left
  · simp only [run, Option.map_some, Nat.reduceEqDiff, Nat.reduceAdd, Nat.zero_add, ↓reduceIte, decide_eq_true_eq, decide_true, decide_false, Bool.not_true, Bool.not_false, Bool.true_eq_false, Bool.false_eq_true, List.getElem?_cons_zero, List.getElem?_cons_succ, List.nil_append, List.cons_append, reduceCtorEq, eq_self, decide_eq_false_iff_not, not_true_eq_false, not_false_eq_true, Nat.add_zero, Nat.succ_ne_self, Nat.one_ne_zero, Nat.zero_ne_one, c1, La, Lb, b2tB hk, b2tB hw, b2tB ho, b2tB hk', b2tB hw', b2tB ho', str_eq]
    exact ⟨by rw [decide_eq_false]; intro x; cases x; exact c1 rfl, xb⟩
  simp only [run, Option.map_some, Nat.reduceEqDiff, Nat.reduceAdd, Nat.zero_add, ↓reduceIte, decide_eq_true_eq, decide_true, decide_false, Bool.not_true, Bool.not_false, Bool.true_eq_false, Bool.false_eq_true, List.getElem?_cons_zero, List.getElem?_cons_succ, List.nil_append, List.cons_append, reduceCtorEq, eq_self, decide_eq_false_iff_not, not_true_eq_false, not_false_eq_true, Nat.add_zero, Nat.succ_ne_self, Nat.one_ne_zero, Nat.zero_ne_one, c1, La, Lb, b2tB hk, b2tB hw, b2tB ho, b2tB hk', b2tB hw', b2tB ho', str_eq]
  by_cases c2 : eq = fq
  rotate_left
  · simp only [run, Option.map_some, Nat.reduceEqDiff, Nat.reduceAdd, Nat.zero_add, ↓reduceIte, decide_eq_true_eq, decide_true, decide_false, Bool.not_true, Bool.not_false, Bool.true_eq_false, Bool.false_eq_true, List.getElem?_cons_zero, List.getElem?_cons_succ, List.nil_append, List.cons_append, reduceCtorEq, eq_self, decide_eq_false_iff_not, not_true_eq_false, not_false_eq_true, Nat.add_zero, Nat.succ_ne_self, Nat.one_ne_zero, Nat.zero_ne_one, c2, La, Lb, b2tB hk, b2tB hw, b2tB ho, b2tB hk', b2tB hw', b2tB ho', str_eq]
    exact ⟨by rw [decide_eq_false]; intro x; cases x; exact c2 rfl, xb⟩
  simp only [run, Option.map_some, Nat.reduceEqDiff, Nat.reduceAdd, Nat.zero_add, ↓reduceIte, decide_eq_true_eq, decide_true, decide_false, Bool.not_true, Bool.not_false, Bool.true_eq_false, Bool.false_eq_true, List.getElem?_cons_zero, List.getElem?_cons_succ, List.nil_append, List.cons_append, reduceCtorEq, eq_self, decide_eq_false_iff_not, not_true_eq_false, not_false_eq_true, Nat.add_zero, Nat.succ_ne_self, Nat.one_ne_zero, Nat.zero_ne_one, c2, La, Lb, b2tB hk, b2tB hw, b2tB ho, b2tB hk', b2tB hw', b2tB ho', str_eq]
  by_cases c3 : ek = fk
  rotate_left
  · simp only [run, Option.map_some, Nat.reduceEqDiff, Nat.reduceAdd, Nat.zero_add, ↓reduceIte, decide_eq_true_eq, decide_true, decide_false, Bool.not_true, Bool.not_false, Bool.true_eq_false, Bool.false_eq_true, List.getElem?_cons_zero, List.getElem?_cons_succ, List.nil_append, List.cons_append, reduceCtorEq, eq_self, decide_eq_false_iff_not, not_true_eq_false, not_false_eq_true, Nat.add_zero, Nat.succ_ne_self, Nat.one_ne_zero, Nat.zero_ne_one, c3, La, Lb, b2tB hk, b2tB hw, b2tB ho, b2tB hk', b2tB hw', b2tB ho', str_eq]
    exact ⟨by rw [decide_eq_false]; intro x; cases x; exact c3 rfl, xb⟩
  simp only [run, Option.map_some, Nat.reduceEqDiff, Nat.reduceAdd, Nat.zero_add, ↓reduceIte, decide_eq_true_eq, decide_true, decide_false, Bool.not_true, Bool.not_false, Bool.true_eq_false, Bool.false_eq_true, List.getElem?_cons_zero, List.getElem?_cons_succ, List.nil_append, List.cons_append, reduceCtorEq, eq_self, decide_eq_false_iff_not, not_true_eq_false, not_false_eq_true, Nat.add_zero, Nat.succ_ne_self, Nat.one_ne_zero, Nat.zero_ne_one, c3, La, Lb, b2tB hk, b2tB hw, b2tB ho, b2tB hk', b2tB hw', b2tB ho', str_eq]
  by_cases c4 : ew = fw
  rotate_left
  · simp only [run, Option.map_some, Nat.reduceEqDiff, Nat.reduceAdd, Nat.zero_add, ↓reduceIte, decide_eq_true_eq, decide_true, decide_false, Bool.not_true, Bool.not_false, Bool.true_eq_false, Bool.false_eq_true, List.getElem?_cons_zero, List.getElem?_cons_succ, List.nil_append, List.cons_append, reduceCtorEq, eq_self, decide_eq_false_iff_not, not_true_eq_false, not_false_eq_true, Nat.add_zero, Nat.succ_ne_self, Nat.one_ne_zero, Nat.zero_ne_one, c4, La, Lb, b2tB hk, b2tB hw, b2tB ho, b2tB hk', b2tB hw', b2tB ho', str_eq]
    exact ⟨by rw [decide_eq_false]; intro x; cases x; exact c4 rfl, xb⟩
  simp only [run, Option.map_some, Nat.reduceEqDiff, Nat.reduceAdd, Nat.zero_add, ↓reduceIte, decide_eq_true_eq, decide_true, decide_false, Bool.not_true, Bool.not_false, Bool.true_eq_false, Bool.false_eq_true, List.getElem?_cons_zero, List.getElem?_cons_succ, List.nil_append, List.cons_append, reduceCtorEq, eq_self, decide_eq_false_iff_not, not_true_eq_false, not_false_eq_true, Nat.add_zero, Nat.succ_ne_self, Nat.one_ne_zero, Nat.zero_ne_one, c4, La, Lb, b2tB hk, b2tB hw, b2tB ho, b2tB hk', b2tB hw', b2tB ho', str_eq]
  by_cases c5 : e5 = f5
  rotate_left
  · simp only [run, Option.map_some, Nat.reduceEqDiff, Nat.reduceAdd, Nat.zero_add, ↓reduceIte, decide_eq_true_eq, decide_true, decide_false, Bool.not_true, Bool.not_false, Bool.true_eq_false, Bool.false_eq_true, List.getElem?_cons_zero, List.getElem?_cons_succ, List.nil_append, List.cons_append, reduceCtorEq, eq_self, decide_eq_false_iff_not, not_true_eq_false, not_false_eq_true, Nat.add_zero, Nat.succ_ne_self, Nat.one_ne_zero, Nat.zero_ne_one, c5, La, Lb, b2tB hk, b2tB hw, b2tB ho, b2tB hk', b2tB hw', b2tB ho', str_eq]
    exact ⟨by rw [decide_eq_false]; intro x; cases x; exact c5 rfl, xb⟩
  simp only [run, Option.map_some, Nat.reduceEqDiff, Nat.reduceAdd, Nat.zero_add, ↓reduceIte, decide_eq_true_eq, decide_true, decide_false, Bool.not_true, Bool.not_false, Bool.true_eq_false, Bool.false_eq_true, List.getElem?_cons_zero, List.getElem?_cons_succ, List.nil_append, List.cons_append, reduceCtorEq, eq_self, decide_eq_false_iff_not, not_true_eq_false, not_false_eq_true, Nat.add_zero, Nat.succ_ne_self, Nat.one_ne_zero, Nat.zero_ne_one, c5, La, Lb, b2tB hk, b2tB hw, b2tB ho, b2tB hk', b2tB hw', b2tB ho', str_eq]
  by_cases c6 : e6 = f6
  rotate_left
  · simp only [run, Option.map_some, Nat.reduceEqDiff, Nat.reduceAdd, Nat.zero_add, ↓reduceIte, decide_eq_true_eq, decide_true, decide_false, Bool.not_true, Bool.not_false, Bool.true_eq_false, Bool.false_eq_true, List.getElem?_cons_zero, List.getElem?_cons_succ, List.nil_append, List.cons_append, reduceCtorEq, eq_self, decide_eq_false_iff_not, not_true_eq_false, not_false_eq_true, Nat.add_zero, Nat.succ_ne_self, Nat.one_ne_zero, Nat.zero_ne_one, c6, La, Lb, b2tB hk, b2tB hw, b2tB ho, b2tB hk', b2tB hw', b2tB ho', str_eq]
    exact ⟨by rw [decide_eq_false]; intro x; cases x; exact c6 rfl, xb⟩
  simp only [run, Option.map_some, Nat.reduceEqDiff, Nat.reduceAdd, Nat.zero_add, ↓reduceIte, decide_eq_true_eq, decide_true, decide_false, Bool.not_true, Bool.not_false, Bool.true_eq_false, Bool.false_eq_true, List.getElem?_cons_zero, List.getElem?_cons_succ, List.nil_append, List.cons_append, reduceCtorEq, eq_self, decide_eq_false_iff_not, not_true_eq_false, not_false_eq_true, Nat.add_zero, Nat.succ_ne_self, Nat.one_ne_zero, Nat.zero_ne_one, c6, La, Lb, b2tB hk, b2tB hw, b2tB ho, b2tB hk', b2tB hw', b2tB ho', str_eq]
  by_cases c7 : e7 = f7
  rotate_left
  · simp only [run, Option.map_some, Nat.reduceEqDiff, Nat.reduceAdd, Nat.zero_add, ↓reduceIte, decide_eq_true_eq, decide_true, decide_false, Bool.not_true, Bool.not_false, Bool.true_eq_false, Bool.false_eq_true, List.getElem?_cons_zero, List.getElem?_cons_succ, List.nil_append, List.cons_append, reduceCtorEq, eq_self, decide_eq_false_iff_not, not_true_eq_false, not_false_eq_true, Nat.add_zero, Nat.succ_ne_self, Nat.one_ne_zero, Nat.zero_ne_one, c7, La, Lb, b2tB hk, b2tB hw, b2tB ho, b2tB hk', b2tB hw', b2tB ho', str_eq]
    exact ⟨by rw [decide_eq_false]; intro x; cases x; exact c7 rfl, xb⟩
  simp only [run, Option.map_some, Nat.reduceEqDiff, Nat.reduceAdd, Nat.zero_add, ↓reduceIte, decide_eq_true_eq, decide_true, decide_false, Bool.not_true, Bool.not_false, Bool.true_eq_false, Bool.false_eq_true, List.getElem?_cons_zero, List.getElem?_cons_succ, List.nil_append, List.cons_append, reduceCtorEq, eq_self, decide_eq_false_iff_not, not_true_eq_false, not_false_eq_true, Nat.add_zero, Nat.succ_ne_self, Nat.one_ne_zero, Nat.zero_ne_one, c7, La, Lb, b2tB hk, b2tB hw, b2tB ho, b2tB hk', b2tB hw', b2tB ho', str_eq]
  exact ⟨by rw [decide_eq_true]; subst_vars; rfl, xb⟩

end Go.Proofs.Ytapmpenkceomdaa
/- Entries that are the same; an entry of one's own. -/
set_option linter.unusedSimpArgs false
set_option linter.unusedVariables false
set_option maxRecDepth 20000
namespace Go.Proofs.Ytapmpenkceomdaa
open Go.Ab

variable {n d : Nat} {h : AHeap}

theorem sameE177_spec (hd : 2 ≤ d) {cs ct : List Value} {e f : Entry} (he : RepE 0 h.next h cs e) (hf : RepE 0 h.next h ct f) :
    ∃ v' h', aCall Try.prog n d 177 [.agg ⟨cs⟩, .agg ⟨ct⟩] h = some (v', h') ∧ v' = .bool (decide (e = f)) ∧ Ext no h.next h h' := by
  obtain ⟨d, rfl, hd⟩ := depth hd
  obtain ⟨es, eq, ek, ew, e5, e6, e7⟩ := e
  obtain ⟨fs, fq, fk, fw, f5, f6, f7⟩ := f
  refine call_of t177 (Nat.le_of_ble_eq_true rfl) ?_
  simp only [c177, run, Option.map_some, Nat.reduceEqDiff, Nat.reduceAdd, Nat.zero_add, ↓reduceIte, decide_eq_true_eq, decide_true, decide_false, Bool.not_true, Bool.not_false, Bool.true_eq_false, Bool.false_eq_true, List.getElem?_cons_zero, List.getElem?_cons_succ, List.nil_append, List.cons_append, reduceCtorEq, eq_self, decide_eq_false_iff_not, not_true_eq_false, not_false_eq_true, Nat.add_zero, Nat.succ_ne_self, Nat.one_ne_zero, Nat.zero_ne_one, rund, List.contains_cons, List.contains_nil, Nat.reduceBEq, Bool.and_true, Bool.true_and, Bool.and_false, Bool.false_and, Bool.or_false, Bool.or_true, Bool.false_or, Bool.true_or, true_or, or_true, true_and, and_true, beq_self_eq_true, cells_agg]
  obtain ⟨h0, eh0, x0, n0, g0⟩ := boxed h ⟨cs, 7, 0, none⟩
  rw [eh0]
  obtain ⟨h1, eh1, x1, n1, g1⟩ := boxed h0 ⟨ct, 7, 0, none⟩
  rw [eh1]
  have g01 := blk0 x1 g0 (by omega)
  have xb : Ext no h.next h h1 := x0.trans x1 (by omega)
  obtain ⟨k, w, o, rfl, hk, hw, ho⟩ := he.keep xb (Nat.le_refl _)
  obtain ⟨k', w', o', rfl, hk', hw', ho'⟩ := hf.keep xb (Nat.le_refl _)
  simp only at g0 g1 g01 hk hw ho hk' hw' ho'
  have La := fun i => ld_cell (o := i) g01 (by decide)
  have Lb := fun i => ld_cell (o := i) g1 (by decide)
  have A1 : h1.loadN h.next 2 5 = some [.int .i64 ek, .int .i64 ew, k, w, o] := ld_part (o := 2) (k := 5) g01 (by decide) (Nat.le_of_ble_eq_true rfl)
  have A2 : h1.loadN h0.next 2 5 = some [.int .i64 fk, .int .i64 fw, k', w', o'] := ld_part (o := 2) (k := 5) g1 (by decide) (Nat.le_of_ble_eq_true rfl)
  simp only [run, Option.map_some, Nat.reduceEqDiff, Nat.reduceAdd, Nat.zero_add, ↓reduceIte, decide_eq_true_eq, decide_true, decide_false, Bool.not_true, Bool.not_false, Bool.true_eq_false, Bool.false_eq_true, List.getElem?_cons_zero, List.getElem?_cons_succ, List.nil_append, List.cons_append, reduceCtorEq, eq_self, decide_eq_false_iff_not, not_true_eq_false, not_false_eq_true, Nat.add_zero, Nat.succ_ne_self, Nat.one_ne_zero, Nat.zero_ne_one, rund, List.contains_cons, List.contains_nil, Nat.reduceBEq, Bool.and_true, Bool.true_and, Bool.and_false, Bool.false_and, Bool.or_false, Bool.or_true, Bool.false_or, Bool.true_or, true_or, or_true, true_and, and_true, beq_self_eq_true, A1, A2]
  obtain ⟨h2, eh2, x2, n2, g2⟩ := boxed h1 ⟨[.int .i64 0, .int .i64 0, .slice none 0 0, .slice none 0 0, .slice none 0 0], 5, 0, none⟩
  rw [eh2]
  obtain ⟨h3, eh3, x3, n3, g3⟩ := boxed h2 ⟨[.int .i64 0, .int .i64 0, .slice none 0 0, .slice none 0 0, .slice none 0 0], 5, 0, none⟩
  rw [eh3]
  have g23 := blk0 x3 g2 (by omega)
  refine useM (st_whole g23 rfl rfl (by simp only [List.all_cons, List.all_nil, isCell_int, isCell_bool, isCell_slice, isCell_string, isCell_pointer, Bool.and_true, Bool.true_and, Bool.and_self, hk.cell, hw.cell, ho.cell]) (by simp)) ?_
  obtain ⟨h4, eh4⟩ : ∃ g, h3.upd h1.next ⟨[.int .i64 ek, .int .i64 ew, k, w, o], 5, 0, none⟩ = g := ⟨_, rfl⟩
  have n4 : h4.next = h3.next := by rw [← eh4]; rfl
  have x4 : Ext (one h1.next) h3.next h3 h4 := by rw [← eh4]; exact Ext.upd0 _ _ _ _
  have g24 : h4.get h1.next = ⟨[.int .i64 ek, .int .i64 ew, k, w, o], 5, 0, none⟩ := by rw [← eh4]; exact get_upd_self _ (by omega)
  rw [eh4]
  have g34 := blk x4 g3 (by omega) (show ¬ h2.next = h1.next by omega)
  have x14 : Ext no h1.next h1 h4 := (x2.trans x3 (by omega)).then x4 (by omega) (fun m hm (e : m = h1.next) => by omega)
  have gb4 := blk0 x14 g1 (by omega)
  have A3 : h4.loadN h0.next 2 5 = some [.int .i64 fk, .int .i64 fw, k', w', o'] := ld_part (o := 2) (k := 5) gb4 (by decide) (Nat.le_of_ble_eq_true rfl)
  have bq : beqV (.agg ⟨[.int .i64 fk, .int .i64 fw, k', w', o']⟩) (.agg ⟨[.int .i64 fk, .int .i64 fw, k', w', o']⟩) = true := by
    refine beq_agg ?_
    simp only [List.mem_cons, List.not_mem_nil, or_false, forall_eq_or_imp, forall_eq, beq_int, hk'.beq, hw'.beq, ho'.beq, and_self]
  simp only [run, Option.map_some, Nat.reduceEqDiff, Nat.reduceAdd, Nat.zero_add, ↓reduceIte, decide_eq_true_eq, decide_true, decide_false, Bool.not_true, Bool.not_false, Bool.true_eq_false, Bool.false_eq_true, List.getElem?_cons_zero, List.getElem?_cons_succ, List.nil_append, List.cons_append, reduceCtorEq, eq_self, decide_eq_false_iff_not, not_true_eq_false, not_false_eq_true, Nat.add_zero, Nat.succ_ne_self, Nat.one_ne_zero, Nat.zero_ne_one, rund, List.contains_cons, List.contains_nil, Nat.reduceBEq, Bool.and_true, Bool.true_and, Bool.and_false, Bool.false_and, Bool.or_false, Bool.or_true, Bool.false_or, Bool.true_or, true_or, or_true, true_and, and_true, beq_self_eq_true, A3, bq]
  refine useM (st_whole g34 rfl rfl (by simp only [List.all_cons, List.all_nil, isCell_int, isCell_bool, isCell_slice, isCell_string, isCell_pointer, Bool.and_true, Bool.true_and, Bool.and_self, hk'.cell, hw'.cell, ho'.cell]) (by simp)) ?_
  obtain ⟨h5, eh5⟩ : ∃ g, h4.upd h2.next ⟨[.int .i64 fk, .int .i64 fw, k', w', o'], 5, 0, none⟩ = g := ⟨_, rfl⟩
  have n5 : h5.next = h4.next := by rw [← eh5]; rfl
  have x5 : Ext (one h2.next) h4.next h4 h5 := by rw [← eh5]; exact Ext.upd0 _ _ _ _
  have g35 : h5.get h2.next = ⟨[.int .i64 fk, .int .i64 fw, k', w', o'], 5, 0, none⟩ := by rw [← eh5]; exact get_upd_self _ (by omega)
  rw [eh5]
  have x15 : Ext no h1.next h1 h5 := x14.then x5 (by omega) (fun m hm (e : m = h2.next) => by omega)
  have g25 := blk x5 g24 (by omega) (show ¬ h1.next = h2.next by omega)
  have xz : Ext no h.next h h5 := xb.trans x15 (by omega)
  have Pa := fun i => ld_cell (o := i) (blk0 x15 g01 (by omega)) (by decide)
  have Pb := fun i => ld_cell (o := i) (blk0 x15 g1 (by omega)) (by decide)
  have Qa := fun i => ld_cell (o := i) g25 (by decide)
  have Qb := fun i => ld_cell (o := i) g35 (by decide)
  have kk := hk.keep x15 (by omega)
  have ww := hw.keep x15 (by omega)
  have oo := ho.keep x15 (by omega)
  have kk' := hk'.keep x15 (by omega)
  have ww' := hw'.keep x15 (by omega)
  have oo' := ho'.keep x15 (by omega)
  simp only [run, Option.map_some, Nat.reduceEqDiff, Nat.reduceAdd, Nat.zero_add, ↓reduceIte, decide_eq_true_eq, decide_true, decide_false, Bool.not_true, Bool.not_false, Bool.true_eq_false, Bool.false_eq_true, List.getElem?_cons_zero, List.getElem?_cons_succ, List.nil_append, List.cons_append, reduceCtorEq, eq_self, decide_eq_false_iff_not, not_true_eq_false, not_false_eq_true, Nat.add_zero, Nat.succ_ne_self, Nat.one_ne_zero, Nat.zero_ne_one, rund, List.contains_cons, List.contains_nil, Nat.reduceBEq, Bool.and_true, Bool.true_and, Bool.and_false, Bool.false_and, Bool.or_false, Bool.or_true, Bool.false_or, Bool.true_or, true_or, or_true, true_and, and_true, beq_self_eq_true, Pa, Pb, Qa, Qb]
  by_cases c1 : es = fs
  rotate_left
  · simp only [run, Option.map_some, Nat.reduceEqDiff, Nat.reduceAdd, Nat.zero_add, ↓reduceIte, decide_eq_true_eq, decide_true, decide_false, Bool.not_true, Bool.not_false, Bool.true_eq_false, Bool.false_eq_true, List.getElem?_cons_zero, List.getElem?_cons_succ, List.nil_append, List.cons_append, reduceCtorEq, eq_self, decide_eq_false_iff_not, not_true_eq_false, not_false_eq_true, Nat.add_zero, Nat.succ_ne_self, Nat.one_ne_zero, Nat.zero_ne_one, c1, Pa, Pb, Qa, Qb]
    exact ⟨by rw [decide_eq_false]; intro x; cases x; exact c1 rfl, xz⟩
  simp only [run, Option.map_some, Nat.reduceEqDiff, Nat.reduceAdd, Nat.zero_add, ↓reduceIte, decide_eq_true_eq, decide_true, decide_false, Bool.not_true, Bool.not_false, Bool.true_eq_false, Bool.false_eq_true, List.getElem?_cons_zero, List.getElem?_cons_succ, List.nil_append, List.cons_append, reduceCtorEq, eq_self, decide_eq_false_iff_not, not_true_eq_false, not_false_eq_true, Nat.add_zero, Nat.succ_ne_self, Nat.one_ne_zero, Nat.zero_ne_one, c1, Pa, Pb, Qa, Qb]
  by_cases c2 : eq = fq
  rotate_left
  · simp only [run, Option.map_some, Nat.reduceEqDiff, Nat.reduceAdd, Nat.zero_add, ↓reduceIte, decide_eq_true_eq, decide_true, decide_false, Bool.not_true, Bool.not_false, Bool.true_eq_false, Bool.false_eq_true, List.getElem?_cons_zero, List.getElem?_cons_succ, List.nil_append, List.cons_append, reduceCtorEq, eq_self, decide_eq_false_iff_not, not_true_eq_false, not_false_eq_true, Nat.add_zero, Nat.succ_ne_self, Nat.one_ne_zero, Nat.zero_ne_one, c2, Pa, Pb, Qa, Qb]
    exact ⟨by rw [decide_eq_false]; intro x; cases x; exact c2 rfl, xz⟩
  simp only [run, Option.map_some, Nat.reduceEqDiff, Nat.reduceAdd, Nat.zero_add, ↓reduceIte, decide_eq_true_eq, decide_true, decide_false, Bool.not_true, Bool.not_false, Bool.true_eq_false, Bool.false_eq_true, List.getElem?_cons_zero, List.getElem?_cons_succ, List.nil_append, List.cons_append, reduceCtorEq, eq_self, decide_eq_false_iff_not, not_true_eq_false, not_false_eq_true, Nat.add_zero, Nat.succ_ne_self, Nat.one_ne_zero, Nat.zero_ne_one, c2, Pa, Pb, Qa, Qb]
  by_cases c3 : ek = fk
  rotate_left
  · simp only [run, Option.map_some, Nat.reduceEqDiff, Nat.reduceAdd, Nat.zero_add, ↓reduceIte, decide_eq_true_eq, decide_true, decide_false, Bool.not_true, Bool.not_false, Bool.true_eq_false, Bool.false_eq_true, List.getElem?_cons_zero, List.getElem?_cons_succ, List.nil_append, List.cons_append, reduceCtorEq, eq_self, decide_eq_false_iff_not, not_true_eq_false, not_false_eq_true, Nat.add_zero, Nat.succ_ne_self, Nat.one_ne_zero, Nat.zero_ne_one, c3, Pa, Pb, Qa, Qb]
    exact ⟨by rw [decide_eq_false]; intro x; cases x; exact c3 rfl, xz⟩
  simp only [run, Option.map_some, Nat.reduceEqDiff, Nat.reduceAdd, Nat.zero_add, ↓reduceIte, decide_eq_true_eq, decide_true, decide_false, Bool.not_true, Bool.not_false, Bool.true_eq_false, Bool.false_eq_true, List.getElem?_cons_zero, List.getElem?_cons_succ, List.nil_append, List.cons_append, reduceCtorEq, eq_self, decide_eq_false_iff_not, not_true_eq_false, not_false_eq_true, Nat.add_zero, Nat.succ_ne_self, Nat.one_ne_zero, Nat.zero_ne_one, c3, Pa, Pb, Qa, Qb]
  by_cases c4 : ew = fw
  rotate_left
  · simp only [run, Option.map_some, Nat.reduceEqDiff, Nat.reduceAdd, Nat.zero_add, ↓reduceIte, decide_eq_true_eq, decide_true, decide_false, Bool.not_true, Bool.not_false, Bool.true_eq_false, Bool.false_eq_true, List.getElem?_cons_zero, List.getElem?_cons_succ, List.nil_append, List.cons_append, reduceCtorEq, eq_self, decide_eq_false_iff_not, not_true_eq_false, not_false_eq_true, Nat.add_zero, Nat.succ_ne_self, Nat.one_ne_zero, Nat.zero_ne_one, c4, Pa, Pb, Qa, Qb]
    exact ⟨by rw [decide_eq_false]; intro x; cases x; exact c4 rfl, xz⟩
  simp only [run, Option.map_some, Nat.reduceEqDiff, Nat.reduceAdd, Nat.zero_add, ↓reduceIte, decide_eq_true_eq, decide_true, decide_false, Bool.not_true, Bool.not_false, Bool.true_eq_false, Bool.false_eq_true, List.getElem?_cons_zero, List.getElem?_cons_succ, List.nil_append, List.cons_append, reduceCtorEq, eq_self, decide_eq_false_iff_not, not_true_eq_false, not_false_eq_true, Nat.add_zero, Nat.succ_ne_self, Nat.one_ne_zero, Nat.zero_ne_one, c4, Pa, Pb, Qa, Qb]
  refine useE (equal_spec (by omega) kk kk') ?_
  (try simp only [run, Option.map_some, Nat.reduceEqDiff, Nat.reduceAdd, Nat.zero_add, ↓reduceIte, decide_eq_true_eq, decide_true, decide_false, Bool.not_true, Bool.not_false, Bool.true_eq_false, Bool.false_eq_true, List.getElem?_cons_zero, List.getElem?_cons_succ, List.nil_append, List.cons_append, reduceCtorEq, eq_self, decide_eq_false_iff_not, not_true_eq_false, not_false_eq_true, Nat.add_zero, Nat.succ_ne_self, Nat.one_ne_zero, Nat.zero_ne_one, Pa, Pb, Qa, Qb])
  by_cases c5 : e5 = f5
  rotate_left
  · simp only [run, Option.map_some, Nat.reduceEqDiff, Nat.reduceAdd, Nat.zero_add, ↓reduceIte, decide_eq_true_eq, decide_true, decide_false, Bool.not_true, Bool.not_false, Bool.true_eq_false, Bool.false_eq_true, List.getElem?_cons_zero, List.getElem?_cons_succ, List.nil_append, List.cons_append, reduceCtorEq, eq_self, decide_eq_false_iff_not, not_true_eq_false, not_false_eq_true, Nat.add_zero, Nat.succ_ne_self, Nat.one_ne_zero, Nat.zero_ne_one, c5, Pa, Pb, Qa, Qb]
    exact ⟨by rw [decide_eq_false]; intro x; cases x; exact c5 rfl, xz⟩
  simp only [run, Option.map_some, Nat.reduceEqDiff, Nat.reduceAdd, Nat.zero_add, ↓reduceIte, decide_eq_true_eq, decide_true, decide_false, Bool.not_true, Bool.not_false, Bool.true_eq_false, Bool.false_eq_true, List.getElem?_cons_zero, List.getElem?_cons_succ, List.nil_append, List.cons_append, reduceCtorEq, eq_self, decide_eq_false_iff_not, not_true_eq_false, not_false_eq_true, Nat.add_zero, Nat.succ_ne_self, Nat.one_ne_zero, Nat.zero_ne_one, c5, Pa, Pb, Qa, Qb]
  refine useE (equal_spec (by omega) ww ww') ?_
  (try simp only [run, Option.map_some, Nat.reduceEqDiff, Nat.reduceAdd, Nat.zero_add, ↓reduceIte, decide_eq_true_eq, decide_true, decide_false, Bool.not_true, Bool.not_false, Bool.true_eq_false, Bool.false_eq_true, List.getElem?_cons_zero, List.getElem?_cons_succ, List.nil_append, List.cons_append, reduceCtorEq, eq_self, decide_eq_false_iff_not, not_true_eq_false, not_false_eq_true, Nat.add_zero, Nat.succ_ne_self, Nat.one_ne_zero, Nat.zero_ne_one, Pa, Pb, Qa, Qb])
  by_cases c6 : e6 = f6
  rotate_left
  · simp only [run, Option.map_some, Nat.reduceEqDiff, Nat.reduceAdd, Nat.zero_add, ↓reduceIte, decide_eq_true_eq, decide_true, decide_false, Bool.not_true, Bool.not_false, Bool.true_eq_false, Bool.false_eq_true, List.getElem?_cons_zero, List.getElem?_cons_succ, List.nil_append, List.cons_append, reduceCtorEq, eq_self, decide_eq_false_iff_not, not_true_eq_false, not_false_eq_true, Nat.add_zero, Nat.succ_ne_self, Nat.one_ne_zero, Nat.zero_ne_one, c6, Pa, Pb, Qa, Qb]
    exact ⟨by rw [decide_eq_false]; intro x; cases x; exact c6 rfl, xz⟩
  simp only [run, Option.map_some, Nat.reduceEqDiff, Nat.reduceAdd, Nat.zero_add, ↓reduceIte, decide_eq_true_eq, decide_true, decide_false, Bool.not_true, Bool.not_false, Bool.true_eq_false, Bool.false_eq_true, List.getElem?_cons_zero, List.getElem?_cons_succ, List.nil_append, List.cons_append, reduceCtorEq, eq_self, decide_eq_false_iff_not, not_true_eq_false, not_false_eq_true, Nat.add_zero, Nat.succ_ne_self, Nat.one_ne_zero, Nat.zero_ne_one, c6, Pa, Pb, Qa, Qb]
  refine useE (equal_spec (by omega) oo oo') ?_
  (try simp only [run, Option.map_some, Nat.reduceEqDiff, Nat.reduceAdd, Nat.zero_add, ↓reduceIte, decide_eq_true_eq, decide_true, decide_false, Bool.not_true, Bool.not_false, Bool.true_eq_false, Bool.false_eq_true, List.getElem?_cons_zero, List.getElem?_cons_succ, List.nil_append, List.cons_append, reduceCtorEq, eq_self, decide_eq_false_iff_not, not_true_eq_false, not_false_eq_true, Nat.add_zero, Nat.succ_ne_self, Nat.one_ne_zero, Nat.zero_ne_one, Pa, Pb, Qa, Qb])
  by_cases c7 : e7 = f7
  rotate_left
  · simp only [run, Option.map_some, Nat.reduceEqDiff, Nat.reduceAdd, Nat.zero_add, ↓reduceIte, decide_eq_true_eq, decide_true, decide_false, Bool.not_true, Bool.not_false, Bool.true_eq_false, Bool.false_eq_true, List.getElem?_cons_zero, List.getElem?_cons_succ, List.nil_append, List.cons_append, reduceCtorEq, eq_self, decide_eq_false_iff_not, not_true_eq_false, not_false_eq_true, Nat.add_zero, Nat.succ_ne_self, Nat.one_ne_zero, Nat.zero_ne_one, c7, Pa, Pb, Qa, Qb]
    exact ⟨by rw [decide_eq_false]; intro x; cases x; exact c7 rfl, xz⟩
  simp only [run, Option.map_some, Nat.reduceEqDiff, Nat.reduceAdd, Nat.zero_add, ↓reduceIte, decide_eq_true_eq, decide_true, decide_false, Bool.not_true, Bool.not_false, Bool.true_eq_false, Bool.false_eq_true, List.getElem?_cons_zero, List.getElem?_cons_succ, List.nil_append, List.cons_append, reduceCtorEq, eq_self, decide_eq_false_iff_not, not_true_eq_false, not_false_eq_true, Nat.add_zero, Nat.succ_ne_self, Nat.one_ne_zero, Nat.zero_ne_one, c7, Pa, Pb, Qa, Qb]
  exact ⟨by rw [decide_eq_true]; subst_vars; rfl, xz⟩

/-- an entry of one's own: 88 -/
theorem still_spec (hd : 2 ≤ d) {cs : List Value} {e : Entry} (he : RepE 0 h.next h cs e) (hl : e.len ≤ 2 ^ 42) :
    ∃ v' h', aCall Try.prog n d 88 [.agg ⟨cs⟩] h = some (v', h') ∧ Ext no h.next h h' ∧ ∃ ct, v' = .agg ⟨ct⟩ ∧ RepE h.next h'.next h' ct e := by
  obtain ⟨d, rfl, hd⟩ := depth hd
  obtain ⟨es, eq, ek, ew, e5, e6, e7⟩ := e
  unfold Entry.len at hl
  simp only at hl
  refine call_of t88 (Nat.le_of_ble_eq_true rfl) ?_
  simp only [c88, run, Option.map_some, Nat.reduceEqDiff, Nat.reduceAdd, Nat.zero_add, ↓reduceIte, decide_eq_true_eq, decide_true, decide_false, Bool.not_true, Bool.not_false, Bool.true_eq_false, Bool.false_eq_true, List.getElem?_cons_zero, List.getElem?_cons_succ, List.nil_append, List.cons_append, reduceCtorEq, eq_self, decide_eq_false_iff_not, not_true_eq_false, not_false_eq_true, Nat.add_zero, Nat.succ_ne_self, Nat.one_ne_zero, Nat.zero_ne_one, cells_agg]
  obtain ⟨h0, eh0, x0, n0, g0⟩ := boxed h ⟨cs, 7, 0, none⟩
  rw [eh0]
  obtain ⟨h1, eh1, x1, n1, g1⟩ := boxed h0 ⟨[.int .i64 0, .int .i64 0, .int .i64 0, .int .i64 0, .slice none 0 0, .slice none 0 0, .slice none 0 0], 7, 0, none⟩
  rw [eh1]
  have xb : Ext no h.next h h1 := x0.trans x1 (by omega)
  obtain ⟨k, w, o, rfl, hk, hw, ho⟩ := he.keep xb (Nat.le_refl _)
  have g01 := blk0 x1 g0 (by omega)
  simp only at g01 hk hw ho
  have L1 := fun i => ld_cell (o := i) g01 (by decide)
  simp only [run, Option.map_some, Nat.reduceEqDiff, Nat.reduceAdd, Nat.zero_add, ↓reduceIte, decide_eq_true_eq, decide_true, decide_false, Bool.not_true, Bool.not_false, Bool.true_eq_false, Bool.false_eq_true, List.getElem?_cons_zero, List.getElem?_cons_succ, List.nil_append, List.cons_append, reduceCtorEq, eq_self, decide_eq_false_iff_not, not_true_eq_false, not_false_eq_true, Nat.add_zero, Nat.succ_ne_self, Nat.one_ne_zero, Nat.zero_ne_one, rund, List.contains_cons, List.contains_nil, Nat.reduceBEq, Bool.and_true, Bool.true_and, Bool.and_false, Bool.false_and, Bool.or_false, Bool.or_true, Bool.false_or, Bool.true_or, true_or, or_true, true_and, and_true, beq_self_eq_true, L1]
  refine use (clone_spec (by omega) (hk.more (Nat.le_refl _) (by omega)) (by omega)) ?_
  rintro y1 h2 ⟨x2, o2⟩
  have n2 := x2.next
  have g02 := blk0 x2 g01 (by omega)
  have L2 := fun i => ld_cell (o := i) g02 (by decide)
  have lt1 : h.next < h1.next := by omega
  simp only [run, Option.map_some, Nat.reduceEqDiff, Nat.reduceAdd, Nat.zero_add, ↓reduceIte, decide_eq_true_eq, decide_true, decide_false, Bool.not_true, Bool.not_false, Bool.true_eq_false, Bool.false_eq_true, List.getElem?_cons_zero, List.getElem?_cons_succ, List.nil_append, List.cons_append, reduceCtorEq, eq_self, decide_eq_false_iff_not, not_true_eq_false, not_false_eq_true, Nat.add_zero, Nat.succ_ne_self, Nat.one_ne_zero, Nat.zero_ne_one, rund, List.contains_cons, List.contains_nil, Nat.reduceBEq, Bool.and_true, Bool.true_and, Bool.and_false, Bool.false_and, Bool.or_false, Bool.or_true, Bool.false_or, Bool.true_or, true_or, or_true, true_and, and_true, beq_self_eq_true, L1, L2, lt1, hw.beq]
  refine use (clone_spec (by omega) ((hw.keep x2 (by omega)).more (Nat.le_refl _) (by omega)) (by omega)) ?_
  rintro y2 h3 ⟨x3, o3⟩
  have n3 := x3.next
  have g03 := blk0 x3 g02 (by omega)
  have L3 := fun i => ld_cell (o := i) g03 (by decide)
  have lt2 : h.next < h2.next := by omega
  simp only [run, Option.map_some, Nat.reduceEqDiff, Nat.reduceAdd, Nat.zero_add, ↓reduceIte, decide_eq_true_eq, decide_true, decide_false, Bool.not_true, Bool.not_false, Bool.true_eq_false, Bool.false_eq_true, List.getElem?_cons_zero, List.getElem?_cons_succ, List.nil_append, List.cons_append, reduceCtorEq, eq_self, decide_eq_false_iff_not, not_true_eq_false, not_false_eq_true, Nat.add_zero, Nat.succ_ne_self, Nat.one_ne_zero, Nat.zero_ne_one, rund, List.contains_cons, List.contains_nil, Nat.reduceBEq, Bool.and_true, Bool.true_and, Bool.and_false, Bool.false_and, Bool.or_false, Bool.or_true, Bool.false_or, Bool.true_or, true_or, or_true, true_and, and_true, beq_self_eq_true, L1, L2, L3, lt1, lt2, ho.beq]
  refine use (clone_spec (by omega) (((ho.keep x2 (by omega)).keep x3 (by omega)).more (Nat.le_refl _) (by omega)) (by omega)) ?_
  rintro y3 h4 ⟨x4, o4⟩
  have n4 := x4.next
  have g04 := blk0 x4 g03 (by omega)
  have o24 := (o2.keep x3 (Nat.le_refl _)).keep x4 (Nat.le_refl _)
  have o34 := o3.keep x4 (Nat.le_refl _)
  simp only [run, Option.map_some, Nat.reduceEqDiff, Nat.reduceAdd, Nat.zero_add, ↓reduceIte, decide_eq_true_eq, decide_true, decide_false, Bool.not_true, Bool.not_false, Bool.true_eq_false, Bool.false_eq_true, List.getElem?_cons_zero, List.getElem?_cons_succ, List.nil_append, List.cons_append, reduceCtorEq, eq_self, decide_eq_false_iff_not, not_true_eq_false, not_false_eq_true, Nat.add_zero, Nat.succ_ne_self, Nat.one_ne_zero, Nat.zero_ne_one, rund, List.contains_cons, List.contains_nil, Nat.reduceBEq, Bool.and_true, Bool.true_and, Bool.and_false, Bool.false_and, Bool.or_false, Bool.or_true, Bool.false_or, Bool.true_or, true_or, or_true, true_and, and_true, beq_self_eq_true]
  refine useM (st_cell g04 o24.sl.cell (by simp)) ?_
  simp only [run, Option.map_some, Nat.reduceEqDiff, Nat.reduceAdd, Nat.zero_add, ↓reduceIte, decide_eq_true_eq, decide_true, decide_false, Bool.not_true, Bool.not_false, Bool.true_eq_false, Bool.false_eq_true, List.getElem?_cons_zero, List.getElem?_cons_succ, List.nil_append, List.cons_append, reduceCtorEq, eq_self, decide_eq_false_iff_not, not_true_eq_false, not_false_eq_true, Nat.add_zero, Nat.succ_ne_self, Nat.one_ne_zero, Nat.zero_ne_one, rund, List.contains_cons, List.contains_nil, Nat.reduceBEq, Bool.and_true, Bool.true_and, Bool.and_false, Bool.false_and, Bool.or_false, Bool.or_true, Bool.false_or, Bool.true_or, true_or, or_true, true_and, and_true, beq_self_eq_true]
  have g4a := get_upd_self (h := h4) (m := h.next) ⟨[Value.int .i64 es, .int .i64 eq, .int .i64 ek, .int .i64 ew, k, w, o].set 4 y1, 7, 0, none⟩ (by omega)
  refine useM (st_cell g4a o34.sl.cell (by simp)) ?_
  simp only [run, Option.map_some, Nat.reduceEqDiff, Nat.reduceAdd, Nat.zero_add, ↓reduceIte, decide_eq_true_eq, decide_true, decide_false, Bool.not_true, Bool.not_false, Bool.true_eq_false, Bool.false_eq_true, List.getElem?_cons_zero, List.getElem?_cons_succ, List.nil_append, List.cons_append, reduceCtorEq, eq_self, decide_eq_false_iff_not, not_true_eq_false, not_false_eq_true, Nat.add_zero, Nat.succ_ne_self, Nat.one_ne_zero, Nat.zero_ne_one, rund, List.contains_cons, List.contains_nil, Nat.reduceBEq, Bool.and_true, Bool.true_and, Bool.and_false, Bool.false_and, Bool.or_false, Bool.or_true, Bool.false_or, Bool.true_or, true_or, or_true, true_and, and_true, beq_self_eq_true]
  have g4b := get_upd_self (h := h4.upd h.next ⟨[Value.int .i64 es, .int .i64 eq, .int .i64 ek, .int .i64 ew, k, w, o].set 4 y1, 7, 0, none⟩) (m := h.next) ⟨([Value.int .i64 es, .int .i64 eq, .int .i64 ek, .int .i64 ew, k, w, o].set 4 y1).set 5 y2, 7, 0, none⟩ (by rw [upd_next]; omega)
  refine useM (st_cell g4b o4.sl.cell (by simp)) ?_
  obtain ⟨h5, eh5⟩ : ∃ g, ((h4.upd h.next ⟨[Value.int .i64 es, .int .i64 eq, .int .i64 ek, .int .i64 ew, k, w, o].set 4 y1, 7, 0, none⟩).upd h.next ⟨([Value.int .i64 es, .int .i64 eq, .int .i64 ek, .int .i64 ew, k, w, o].set 4 y1).set 5 y2, 7, 0, none⟩).upd h.next ⟨(([Value.int .i64 es, .int .i64 eq, .int .i64 ek, .int .i64 ew, k, w, o].set 4 y1).set 5 y2).set 6 y3, 7, 0, none⟩ = g := ⟨_, rfl⟩
  have n5 : h5.next = h4.next := by rw [← eh5]; rfl
  have x5 : Ext (one h.next) h4.next h4 h5 := by rw [← eh5]; exact ((Ext.upd0 _ _ _ _).upd1 _).upd1 _
  have g05 : h5.get h.next = ⟨[.int .i64 es, .int .i64 eq, .int .i64 ek, .int .i64 ew, y1, y2, y3], 7, 0, none⟩ := by rw [← eh5]; exact get_upd_self _ (by rw [upd_next, upd_next]; omega)
  rw [eh5]
  have x14 : Ext no h1.next h1 h4 := x2.trans (x3.trans x4 (by omega)) (by omega)
  have g15 := blk x5 (blk0 x14 g1 (by omega)) (by omega) (show ¬ h0.next = h.next by omega)
  have p1 := o24.ext x5 (Nat.le_refl _) (fun m hm _ (e : m = h.next) => by omega)
  have p2 := o34.ext x5 (Nat.le_refl _) (fun m hm _ (e : m = h.next) => by omega)
  have p3 := o4.ext x5 (Nat.le_refl _) (fun m hm _ (e : m = h.next) => by omega)
  simp only [run, Option.map_some, Nat.reduceEqDiff, Nat.reduceAdd, Nat.zero_add, ↓reduceIte, decide_eq_true_eq, decide_true, decide_false, Bool.not_true, Bool.not_false, Bool.true_eq_false, Bool.false_eq_true, List.getElem?_cons_zero, List.getElem?_cons_succ, List.nil_append, List.cons_append, reduceCtorEq, eq_self, decide_eq_false_iff_not, not_true_eq_false, not_false_eq_true, Nat.add_zero, Nat.succ_ne_self, Nat.one_ne_zero, Nat.zero_ne_one, rund, List.contains_cons, List.contains_nil, Nat.reduceBEq, Bool.and_true, Bool.true_and, Bool.and_false, Bool.false_and, Bool.or_false, Bool.or_true, Bool.false_or, Bool.true_or, true_or, or_true, true_and, and_true, beq_self_eq_true, ld_whole (k := 7) g05 (by decide) rfl]
  refine use1 (st_whole g15 rfl rfl (by simp only [List.all_cons, List.all_nil, isCell_int, isCell_bool, isCell_slice, isCell_string, isCell_pointer, Bool.and_true, Bool.true_and, Bool.and_self, p1.sl.cell, p2.sl.cell, p3.sl.cell]) (by simp)) ?_
  have x6 : Ext (one h0.next) h5.next h5 (h5.upd h0.next ⟨[.int .i64 es, .int .i64 eq, .int .i64 ek, .int .i64 ew, y1, y2, y3], 7, 0, none⟩) := Ext.upd0 _ _ _ _
  have g16 := get_upd_self (h := h5) (m := h0.next) ⟨[Value.int .i64 es, .int .i64 eq, .int .i64 ek, .int .i64 ew, y1, y2, y3], 7, 0, none⟩ (by omega)
  simp only [run, Option.map_some, Nat.reduceEqDiff, Nat.reduceAdd, Nat.zero_add, ↓reduceIte, decide_eq_true_eq, decide_true, decide_false, Bool.not_true, Bool.not_false, Bool.true_eq_false, Bool.false_eq_true, List.getElem?_cons_zero, List.getElem?_cons_succ, List.nil_append, List.cons_append, reduceCtorEq, eq_self, decide_eq_false_iff_not, not_true_eq_false, not_false_eq_true, Nat.add_zero, Nat.succ_ne_self, Nat.one_ne_zero, Nat.zero_ne_one, ld_whole (k := 7) g16 (by decide) rfl]
  have q1 := (p1.ext x6 (Nat.le_refl _) (fun m hm _ (e : m = h0.next) => by omega)).sl
  have q2 := (p2.ext x6 (Nat.le_refl _) (fun m hm _ (e : m = h0.next) => by omega)).sl
  have q3 := (p3.ext x6 (Nat.le_refl _) (fun m hm _ (e : m = h0.next) => by omega)).sl
  refine ⟨(((xb.trans x14 (by omega)).then x5 (by omega) (fun m hm (e : m = h.next) => by omega)).then x6 (by omega) (fun m hm (e : m = h0.next) => by omega)), _, rfl, _, _, _, rfl, ?_, ?_, ?_⟩
  · exact q1.more (by omega) (Nat.le_refl _)
  · exact q2.more (by omega) (Nat.le_refl _)
  · exact q3.more (by omega) (Nat.le_refl _)

end Go.Proofs.Ytapmpenkceomdaa
