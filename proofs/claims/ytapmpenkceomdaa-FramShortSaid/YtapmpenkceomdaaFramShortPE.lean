/- The clean code of the laws of messages and frames. -/
import Derived.Test.YtapmpenkceomdaaAb23
import Derived.KernelRfl
import Derived.Test.YtapmpenkceomdaaProg
import Derived.Test.YtapmpenkceomdaaFramShortPD
set_option linter.unusedSimpArgs false
set_option linter.unusedVariables false
set_option maxRecDepth 20000
namespace Go.Proofs.Ytapmpenkceomdaa
open Go.Ab
set_option maxRecDepth 100000
noncomputable def c52 : TFn := ⟨(.seq (.ops [⟨some 0, (.mv (.c (.bool false))), none⟩]) (.seq (.ops [⟨some 7, (.bslice [(.int .i64 0)] 1 2 [(0, (.c (.int .i64 5))), (1, (.c (.int .i64 4)))]), none⟩, ⟨some 8,
    (.bslice [(.int .i64 0)] 1 1 [(0, (.c (.int .i64 5)))]), none⟩, ⟨some 9, (.build [(.int .i64 0), (.int .i64 0), (.int .i64 0), (.int .i64 0), (.int .i64 0), (.int .i64 0), (.bool
    false), (.int .i64 0), (.int .i64 0), (.int .i64 0), (.int .i64 0), (.slice none 0 0), (.int .i64 0), (.int .i64 0), (.slice none 0 0), (.slice none 0 0), (.int .i64 0), (.int
    .i64 0), (.int .i64 0), (.int .i64 0), (.int .i64 0), (.slice none 0 0), (.slice none 0 0), (.slice none 0 0)] [(0, (1, (.c (.int .i64 7)))), (1, (1, (.c (.int .i64 1)))), (2,
    (1, (.c (.int .i64 2)))), (3, (1, (.c (.int .i64 300)))), (12, (1, (.c (.int .i64 4)))), (13, (1, (.c (.int .i64 5)))), (14, (1, (.t 7))), (15, (1, (.t 8)))]), none⟩, ⟨some 1,
    (.alloc [(.int .i64 0), (.int .i64 0), (.int .i64 0), (.int .i64 0), (.int .i64 0), (.int .i64 0), (.bool false), (.int .i64 0), (.int .i64 0), (.int .i64 0), (.int .i64 0),
    (.slice none 0 0), (.int .i64 0), (.int .i64 0), (.slice none 0 0), (.slice none 0 0), (.int .i64 0), (.int .i64 0), (.int .i64 0), (.int .i64 0), (.int .i64 0), (.slice none 0
    0), (.slice none 0 0), (.slice none 0 0)] 24), none⟩, ⟨none, (.store 24 (.t 1) (.t 9)), none⟩]) (.seq (.ops [⟨some 10, (.load true 24 (.t 1)), none⟩, ⟨some 11, (.call (fnv 50)
    [(.t 10)]), none⟩, ⟨some 2, (.mv (.t 11)), none⟩]) (.seq (.ops [⟨some 13, (.mv (.t 2)), none⟩, ⟨some 14, (.call (fnv 51) [(.t 13)]), none⟩, ⟨some 12, (.mv (.t 14)), none⟩, ⟨some
    15, (.ext (.t 12) 0), none⟩, ⟨some 16, (.ext (.t 12) 1), none⟩, ⟨some 3, (.alloc [(.int .i64 0), (.int .i64 0), (.int .i64 0), (.int .i64 0), (.int .i64 0), (.int .i64 0), (.bool
    false), (.int .i64 0), (.int .i64 0), (.int .i64 0), (.int .i64 0), (.slice none 0 0), (.int .i64 0), (.int .i64 0), (.slice none 0 0), (.slice none 0 0), (.int .i64 0), (.int
    .i64 0), (.int .i64 0), (.int .i64 0), (.int .i64 0), (.slice none 0 0), (.slice none 0 0), (.slice none 0 0)] 24), none⟩, ⟨none, (.store 24 (.t 3) (.t 15)), none⟩, ⟨some 4, (.mv
    (.t 16)), none⟩]) (.seq (.ops [⟨some 18, (.mv (.t 2)), none⟩, ⟨some 19, (.bslice [(.int .u8 0)] 1 1 [(0, (.c (.int .u8 0)))]), none⟩, ⟨some 20, (.append 1 1 (.t 18) (.t 19)),
    none⟩, ⟨some 21, (.call (fnv 51) [(.t 20)]), none⟩, ⟨some 17, (.mv (.t 21)), none⟩, ⟨some 22, (.ext (.t 17) 0), none⟩, ⟨some 23, (.ext (.t 17) 1), none⟩, ⟨some 5, (.alloc [(.int
    .i64 0), (.int .i64 0), (.int .i64 0), (.int .i64 0), (.int .i64 0), (.int .i64 0), (.bool false), (.int .i64 0), (.int .i64 0), (.int .i64 0), (.int .i64 0), (.slice none 0 0),
    (.int .i64 0), (.int .i64 0), (.slice none 0 0), (.slice none 0 0), (.int .i64 0), (.int .i64 0), (.int .i64 0), (.int .i64 0), (.int .i64 0), (.slice none 0 0), (.slice none 0
    0), (.slice none 0 0)] 24), none⟩, ⟨none, (.store 24 (.t 5) (.t 22)), none⟩, ⟨some 6, (.mv (.t 23)), none⟩]) (.seq (.ops [⟨some 24, (.mv (.t 2)), none⟩, ⟨some 25, (.b2t (.t 24)),
    none⟩, ⟨some 26, (.bin .eql 0 (.t 25) (.c (.string ⟨⟨[7, 1, 2, 172, 2, 4, 5, 2, 5, 4, 1, 5]⟩⟩))), none⟩, ⟨some 27, (.mv (.t 26)), none⟩, ⟨some 28, (.mv (.t 4)), some (27, true)⟩,
    ⟨some 29, (.pick (.t 27) (.t 28) (.c (.bool false))), none⟩, ⟨some 30, (.mv (.t 29)), none⟩, ⟨some 31, (.load true 24 (.t 3)), some (30, true)⟩, ⟨some 32, (.load true 24 (.t 1)),
    some (30, true)⟩, ⟨some 33, (.call (fnv 54) [(.t 31), (.t 32)]), some (30, true)⟩, ⟨some 34, (.pick (.t 30) (.t 33) (.c (.bool false))), none⟩, ⟨some 35, (.mv (.t 34)), none⟩,
    ⟨some 36, (.mv (.t 6)), some (35, true)⟩, ⟨some 37, (.un .not (.t 36)), some (35, true)⟩, ⟨some 38, (.pick (.t 35) (.t 37) (.c (.bool false))), none⟩, ⟨some 39, (.mv (.t 38)),
    none⟩, ⟨some 40, (.build [(.int .i64 0), (.int .i64 0), (.int .i64 0), (.int .i64 0), (.int .i64 0), (.int .i64 0), (.bool false), (.int .i64 0), (.int .i64 0), (.int .i64 0),
    (.int .i64 0), (.slice none 0 0), (.int .i64 0), (.int .i64 0), (.slice none 0 0), (.slice none 0 0), (.int .i64 0), (.int .i64 0), (.int .i64 0), (.int .i64 0), (.int .i64 0),
    (.slice none 0 0), (.slice none 0 0), (.slice none 0 0)] []), some (39, true)⟩, ⟨some 41, (.call (fnv 50) [(.t 40)]), some (39, true)⟩, ⟨some 42, (.lenS (.t 41)), some (39,
    true)⟩, ⟨some 43, (.bin .eql 0 (.t 42) (.c (.int .i64 0))), some (39, true)⟩, ⟨some 44, (.pick (.t 39) (.t 43) (.c (.bool false))), none⟩, ⟨some 45, (.mv (.t 44)), none⟩, ⟨some
    46, (.build [(.int .i64 0), (.int .i64 0), (.int .i64 0), (.int .i64 0), (.int .i64 0), (.int .i64 0), (.bool false), (.int .i64 0), (.int .i64 0), (.int .i64 0), (.int .i64 0),
    (.slice none 0 0), (.int .i64 0), (.int .i64 0), (.slice none 0 0), (.slice none 0 0), (.int .i64 0), (.int .i64 0), (.int .i64 0), (.int .i64 0), (.int .i64 0), (.slice none 0
    0), (.slice none 0 0), (.slice none 0 0)] [(0, (1, (.c (.int .i64 1)))), (1, (1, (.c (.int .i64 7))))]), some (45, true)⟩, ⟨some 47, (.call (fnv 50) [(.t 46)]), some (45, true)⟩,
    ⟨some 48, (.lenS (.t 47)), some (45, true)⟩, ⟨some 49, (.bin .eql 0 (.t 48) (.c (.int .i64 0))), some (45, true)⟩, ⟨some 50, (.pick (.t 45) (.t 49) (.c (.bool false))), none⟩,
    ⟨some 51, (.mv (.t 50)), none⟩, ⟨some 52, (.load true 24 (.t 1)), some (51, true)⟩, ⟨some 53, (.build [(.int .i64 0), (.int .i64 0), (.int .i64 0), (.int .i64 0), (.int .i64 0),
    (.int .i64 0), (.bool false), (.int .i64 0), (.int .i64 0), (.int .i64 0), (.int .i64 0), (.slice none 0 0), (.int .i64 0), (.int .i64 0), (.slice none 0 0), (.slice none 0 0),
    (.int .i64 0), (.int .i64 0), (.int .i64 0), (.int .i64 0), (.int .i64 0), (.slice none 0 0), (.slice none 0 0), (.slice none 0 0)] []), some (51, true)⟩, ⟨some 54, (.call (fnv
    54) [(.t 52), (.t 53)]), some (51, true)⟩, ⟨some 55, (.un .not (.t 54)), some (51, true)⟩, ⟨some 56, (.pick (.t 51) (.t 55) (.c (.bool false))), none⟩, ⟨some 0, (.mv (.t 56)),
    none⟩]) .ret)))))), 57, [(.t 0)]⟩
theorem t52 : tidyF Try.prog 52 = some c52 := by kernel_rfl
noncomputable def c69 : TFn := ⟨(.seq (.ops [⟨some 0, (.mv (.c (.bool false))), none⟩]) (.seq (.ops [⟨some 7, (.build [(.int .i64 0), (.int .i64 0), (.int .i64 0), (.int .i64 0), (.int .i64 0), (.int .i64 0),
    (.bool false), (.int .i64 0), (.int .i64 0), (.int .i64 0), (.int .i64 0), (.slice none 0 0), (.int .i64 0), (.int .i64 0), (.slice none 0 0), (.slice none 0 0), (.int .i64 0),
    (.int .i64 0), (.int .i64 0), (.int .i64 0), (.int .i64 0), (.slice none 0 0), (.slice none 0 0), (.slice none 0 0)] [(0, (1, (.c (.int .i64 1)))), (1, (1, (.c (.int .i64 1)))),
    (2, (1, (.c (.int .i64 2)))), (3, (1, (.c (.int .i64 9))))]), none⟩, ⟨some 1, (.alloc [(.int .i64 0), (.int .i64 0), (.int .i64 0), (.int .i64 0), (.int .i64 0), (.int .i64 0),
    (.bool false), (.int .i64 0), (.int .i64 0), (.int .i64 0), (.int .i64 0), (.slice none 0 0), (.int .i64 0), (.int .i64 0), (.slice none 0 0), (.slice none 0 0), (.int .i64 0),
    (.int .i64 0), (.int .i64 0), (.int .i64 0), (.int .i64 0), (.slice none 0 0), (.slice none 0 0), (.slice none 0 0)] 24), none⟩, ⟨none, (.store 24 (.t 1) (.t 7)), none⟩]) (.seq
    (.ops [⟨some 8, (.load true 24 (.t 1)), none⟩, ⟨some 9, (.call (fnv 67) [(.t 8)]), none⟩, ⟨some 2, (.mv (.t 9)), none⟩]) (.seq (.ops [⟨some 11, (.mv (.t 2)), none⟩, ⟨some 12,
    (.call (fnv 68) [(.t 11)]), none⟩, ⟨some 10, (.mv (.t 12)), none⟩, ⟨some 13, (.ext (.t 10) 0), none⟩, ⟨some 14, (.ext (.t 10) 1), none⟩, ⟨some 3, (.alloc [(.int .i64 0), (.int
    .i64 0), (.int .i64 0), (.int .i64 0), (.int .i64 0), (.int .i64 0), (.bool false), (.int .i64 0), (.int .i64 0), (.int .i64 0), (.int .i64 0), (.slice none 0 0), (.int .i64 0),
    (.int .i64 0), (.slice none 0 0), (.slice none 0 0), (.int .i64 0), (.int .i64 0), (.int .i64 0), (.int .i64 0), (.int .i64 0), (.slice none 0 0), (.slice none 0 0), (.slice none
    0 0)] 24), none⟩, ⟨none, (.store 24 (.t 3) (.t 13)), none⟩, ⟨some 4, (.mv (.t 14)), none⟩]) (.seq (.ops [⟨some 16, (.mv (.t 2)), none⟩, ⟨some 17, (.mv (.t 2)), none⟩, ⟨some 18,
    (.lenS (.t 17)), none⟩, ⟨some 19, (.bin .quo 0 (.t 18) (.c (.int .i64 2))), none⟩, ⟨some 20, (.sliceS 1 (.t 16) none (some (.t 19)) none), none⟩, ⟨some 21, (.call (fnv 68) [(.t
    20)]), none⟩, ⟨some 15, (.mv (.t 21)), none⟩, ⟨some 22, (.ext (.t 15) 0), none⟩, ⟨some 23, (.ext (.t 15) 1), none⟩, ⟨some 5, (.alloc [(.int .i64 0), (.int .i64 0), (.int .i64 0),
    (.int .i64 0), (.int .i64 0), (.int .i64 0), (.bool false), (.int .i64 0), (.int .i64 0), (.int .i64 0), (.int .i64 0), (.slice none 0 0), (.int .i64 0), (.int .i64 0), (.slice
    none 0 0), (.slice none 0 0), (.int .i64 0), (.int .i64 0), (.int .i64 0), (.int .i64 0), (.int .i64 0), (.slice none 0 0), (.slice none 0 0), (.slice none 0 0)] 24), none⟩,
    ⟨none, (.store 24 (.t 5) (.t 22)), none⟩, ⟨some 6, (.mv (.t 23)), none⟩]) (.seq (.ops [⟨some 24, (.mv (.t 2)), none⟩, ⟨some 25, (.lenS (.t 24)), none⟩, ⟨some 26, (.bin .eql 0 (.t
    25) (.c (.int .i64 8))), none⟩, ⟨some 27, (.mv (.t 26)), none⟩, ⟨some 28, (.mv (.t 4)), some (27, true)⟩, ⟨some 29, (.pick (.t 27) (.t 28) (.c (.bool false))), none⟩, ⟨some 30,
    (.mv (.t 29)), none⟩, ⟨some 31, (.load true 24 (.t 3)), some (30, true)⟩, ⟨some 32, (.load true 24 (.t 1)), some (30, true)⟩, ⟨some 33, (.call (fnv 38) [(.t 31), (.t 32)]), some
    (30, true)⟩, ⟨some 34, (.pick (.t 30) (.t 33) (.c (.bool false))), none⟩, ⟨some 35, (.mv (.t 34)), none⟩, ⟨some 36, (.mv (.t 6)), some (35, true)⟩, ⟨some 37, (.un .not (.t 36)),
    some (35, true)⟩, ⟨some 38, (.pick (.t 35) (.t 37) (.c (.bool false))), none⟩, ⟨some 39, (.mv (.t 38)), none⟩, ⟨some 40, (.build [(.int .i64 0), (.int .i64 0), (.int .i64 0),
    (.int .i64 0), (.int .i64 0), (.int .i64 0), (.bool false), (.int .i64 0), (.int .i64 0), (.int .i64 0), (.int .i64 0), (.slice none 0 0), (.int .i64 0), (.int .i64 0), (.slice
    none 0 0), (.slice none 0 0), (.int .i64 0), (.int .i64 0), (.int .i64 0), (.int .i64 0), (.int .i64 0), (.slice none 0 0), (.slice none 0 0), (.slice none 0 0)] []), some (39,
    true)⟩, ⟨some 41, (.call (fnv 67) [(.t 40)]), some (39, true)⟩, ⟨some 42, (.lenS (.t 41)), some (39, true)⟩, ⟨some 43, (.bin .eql 0 (.t 42) (.c (.int .i64 0))), some (39, true)⟩,
    ⟨some 44, (.pick (.t 39) (.t 43) (.c (.bool false))), none⟩, ⟨some 0, (.mv (.t 44)), none⟩]) .ret)))))), 45, [(.t 0)]⟩
theorem t69 : tidyF Try.prog 69 = some c69 := by kernel_rfl
noncomputable def c6 : TFn := ⟨(.seq (.ops [⟨some 4, (.mv (.c (.bool false))), none⟩]) (.seq (.ops [⟨some 15, (.mv (.t 0)), none⟩, ⟨some 16, (.mv (.t 1)), none⟩, ⟨some 17, (.call (fnv 33) [(.t 15), (.t 16)]),
    none⟩, ⟨some 18, (.mv (.t 0)), none⟩, ⟨some 19, (.mv (.t 1)), none⟩, ⟨some 20, (.call (fnv 33) [(.t 18), (.t 19)]), none⟩, ⟨some 5, (.alloc [(.int .i64 0), (.int .i64 0), (.int
    .i64 0), (.int .i64 0), (.int .i64 0), (.int .i64 0), (.bool false), (.int .i64 0), (.int .i64 0), (.int .i64 0), (.int .i64 0), (.slice none 0 0), (.int .i64 0), (.int .i64 0),
    (.slice none 0 0), (.slice none 0 0), (.int .i64 0), (.int .i64 0), (.int .i64 0), (.int .i64 0), (.int .i64 0), (.slice none 0 0), (.slice none 0 0), (.slice none 0 0)] 24),
    none⟩, ⟨some 6, (.alloc [(.int .i64 0), (.int .i64 0), (.int .i64 0), (.int .i64 0), (.int .i64 0), (.int .i64 0), (.bool false), (.int .i64 0), (.int .i64 0), (.int .i64 0),
    (.int .i64 0), (.slice none 0 0), (.int .i64 0), (.int .i64 0), (.slice none 0 0), (.slice none 0 0), (.int .i64 0), (.int .i64 0), (.int .i64 0), (.int .i64 0), (.int .i64 0),
    (.slice none 0 0), (.slice none 0 0), (.slice none 0 0)] 24), none⟩, ⟨none, (.store 24 (.t 5) (.t 17)), none⟩, ⟨none, (.store 24 (.t 6) (.t 20)), none⟩]) (.seq (.ops [⟨some 21,
    (.load true 24 (.t 5)), none⟩, ⟨some 22, (.call (fnv 50) [(.t 21)]), none⟩, ⟨some 7, (.mv (.t 22)), none⟩]) (.seq (.ops [⟨some 23, (.mv (.t 7)), none⟩, ⟨some 24, (.b2t (.t 23)),
    none⟩, ⟨some 8, (.mv (.t 24)), none⟩]) (.seq (.ops [⟨some 26, (.mv (.t 7)), none⟩, ⟨some 27, (.call (fnv 51) [(.t 26)]), none⟩, ⟨some 25, (.mv (.t 27)), none⟩, ⟨some 28, (.ext
    (.t 25) 0), none⟩, ⟨some 29, (.ext (.t 25) 1), none⟩, ⟨some 9, (.alloc [(.int .i64 0), (.int .i64 0), (.int .i64 0), (.int .i64 0), (.int .i64 0), (.int .i64 0), (.bool false),
    (.int .i64 0), (.int .i64 0), (.int .i64 0), (.int .i64 0), (.slice none 0 0), (.int .i64 0), (.int .i64 0), (.slice none 0 0), (.slice none 0 0), (.int .i64 0), (.int .i64 0),
    (.int .i64 0), (.int .i64 0), (.int .i64 0), (.slice none 0 0), (.slice none 0 0), (.slice none 0 0)] 24), none⟩, ⟨none, (.store 24 (.t 9) (.t 28)), none⟩, ⟨some 10, (.mv (.t
    29)), none⟩]) (.seq (.seq (.ops [⟨some 30, (.mv (.t 7)), none⟩, ⟨some 31, (.lenS (.t 30)), none⟩, ⟨some 32, (.mv (.c (.int .i64 0))), none⟩]) (.block 0 (.loop (.seq (.ops [⟨some
    33, (.bin .lss 0 (.t 32) (.t 31)), none⟩]) (.seq (.cond (.t 33) .skip (.exit 0)) (.seq (.block 1 (.seq (.ops [⟨some 34, (.mv (.t 32)), none⟩, ⟨some 11, (.mv (.t 34)), none⟩])
    (.ops [⟨some 35, (.mv (.t 7)), none⟩, ⟨some 36, (.mv (.t 11)), none⟩, ⟨some 37, (.iaddrS 1 (.t 35) (.t 36)), none⟩, ⟨none, (.store 1 (.t 37) (.c (.int .u8 255))), none⟩]))) (.ops
    [⟨some 38, (.bin .add 0 (.t 32) (.c (.int .i64 1))), none⟩, ⟨some 32, (.mv (.t 38)), none⟩]))))))) (.seq (.seq (.ops [⟨some 39, (.mv (.t 10)), none⟩, ⟨some 40, (.un .not (.t
    39)), none⟩, ⟨some 41, (.mv (.t 40)), none⟩, ⟨some 42, (.load true 24 (.t 9)), some (41, false)⟩, ⟨some 43, (.call (fnv 50) [(.t 42)]), some (41, false)⟩, ⟨some 44, (.b2t (.t
    43)), some (41, false)⟩, ⟨some 45, (.mv (.t 8)), some (41, false)⟩, ⟨some 46, (.bin .neq 0 (.t 44) (.t 45)), some (41, false)⟩, ⟨some 47, (.pick (.t 41) (.c (.bool true)) (.t
    46)), none⟩]) (.cond (.t 47) (.seq (.ops [⟨some 4, (.mv (.c (.bool false))), none⟩]) .ret) .skip)) (.seq (.seq (.ops [⟨some 48, (.faddr 14 (.t 9)), none⟩, ⟨some 49, (.load false
    1 (.t 48)), none⟩, ⟨some 50, (.lenS (.t 49)), none⟩, ⟨some 51, (.mv (.c (.int .i64 0))), none⟩]) (.block 2 (.loop (.seq (.ops [⟨some 52, (.bin .lss 0 (.t 51) (.t 50)), none⟩])
    (.seq (.cond (.t 52) .skip (.exit 2)) (.seq (.block 3 (.seq (.ops [⟨some 53, (.mv (.t 51)), none⟩, ⟨some 12, (.mv (.t 53)), none⟩]) (.ops [⟨some 54, (.faddr 14 (.t 9)), none⟩,
    ⟨some 55, (.load false 1 (.t 54)), none⟩, ⟨some 56, (.mv (.t 12)), none⟩, ⟨some 57, (.iaddrS 1 (.t 55) (.t 56)), none⟩, ⟨none, (.store 1 (.t 57) (.c (.int .i64 77))), none⟩])))
    (.ops [⟨some 58, (.bin .add 0 (.t 51) (.c (.int .i64 1))), none⟩, ⟨some 51, (.mv (.t 58)), none⟩]))))))) (.seq (.seq (.ops [⟨some 59, (.faddr 15 (.t 9)), none⟩, ⟨some 60, (.load
    false 1 (.t 59)), none⟩, ⟨some 61, (.lenS (.t 60)), none⟩, ⟨some 62, (.mv (.c (.int .i64 0))), none⟩]) (.block 4 (.loop (.seq (.ops [⟨some 63, (.bin .lss 0 (.t 62) (.t 61)),
    none⟩]) (.seq (.cond (.t 63) .skip (.exit 4)) (.seq (.block 5 (.seq (.ops [⟨some 64, (.mv (.t 62)), none⟩, ⟨some 13, (.mv (.t 64)), none⟩]) (.ops [⟨some 65, (.faddr 15 (.t 9)),
    none⟩, ⟨some 66, (.load false 1 (.t 65)), none⟩, ⟨some 67, (.mv (.t 13)), none⟩, ⟨some 68, (.iaddrS 1 (.t 66) (.t 67)), none⟩, ⟨none, (.store 1 (.t 68) (.c (.int .i64 77))),
    none⟩]))) (.ops [⟨some 69, (.bin .add 0 (.t 62) (.c (.int .i64 1))), none⟩, ⟨some 62, (.mv (.t 69)), none⟩]))))))) (.seq (.seq (.ops [⟨some 70, (.faddr 11 (.t 9)), none⟩, ⟨some
    71, (.load false 1 (.t 70)), none⟩, ⟨some 72, (.lenS (.t 71)), none⟩, ⟨some 73, (.mv (.c (.int .i64 0))), none⟩]) (.block 6 (.loop (.seq (.ops [⟨some 74, (.bin .lss 0 (.t 73) (.t
    72)), none⟩]) (.seq (.cond (.t 74) .skip (.exit 6)) (.seq (.block 7 (.seq (.ops [⟨some 75, (.mv (.t 73)), none⟩, ⟨some 14, (.mv (.t 75)), none⟩]) (.ops [⟨some 76, (.faddr 11 (.t
    9)), none⟩, ⟨some 77, (.load false 1 (.t 76)), none⟩, ⟨some 78, (.mv (.t 14)), none⟩, ⟨some 79, (.iaddrS 1 (.t 77) (.t 78)), none⟩, ⟨some 80, (.load false 1 (.t 79)), none⟩,
    ⟨some 81, (.bin .add 0 (.t 80) (.c (.int .u8 1))), none⟩, ⟨some 82, (.iaddrS 1 (.t 77) (.t 78)), none⟩, ⟨none, (.store 1 (.t 82) (.t 81)), none⟩]))) (.ops [⟨some 83, (.bin .add 0
    (.t 73) (.c (.int .i64 1))), none⟩, ⟨some 73, (.mv (.t 83)), none⟩]))))))) (.seq (.ops [⟨some 84, (.load true 24 (.t 5)), none⟩, ⟨some 85, (.load true 24 (.t 6)), none⟩, ⟨some
    86, (.call (fnv 38) [(.t 84), (.t 85)]), none⟩, ⟨some 87, (.mv (.t 86)), none⟩, ⟨some 88, (.load true 24 (.t 5)), some (87, true)⟩, ⟨some 89, (.call (fnv 50) [(.t 88)]), some
    (87, true)⟩, ⟨some 90, (.b2t (.t 89)), some (87, true)⟩, ⟨some 91, (.mv (.t 8)), some (87, true)⟩, ⟨some 92, (.bin .eql 0 (.t 90) (.t 91)), some (87, true)⟩, ⟨some 93, (.pick (.t
    87) (.t 92) (.c (.bool false))), none⟩, ⟨some 94, (.mv (.t 93)), none⟩, ⟨some 95, (.call (fnv 52) []), some (94, true)⟩, ⟨some 96, (.pick (.t 94) (.t 95) (.c (.bool false))),
    none⟩, ⟨some 4, (.mv (.t 96)), none⟩]) .ret))))))))))), 97, [(.t 4)]⟩
theorem t6 : tidyF Try.prog 6 = some c6 := by kernel_rfl
noncomputable def c13 : TFn := ⟨(.seq (.ops [⟨some 12, (.mv (.c (.bool false))), none⟩]) (.seq (.ops [⟨some 26, (.mv (.t 0)), none⟩, ⟨some 27, (.mv (.t 1)), none⟩, ⟨some 28, (.call (fnv 33) [(.t 26), (.t 27)]),
    none⟩, ⟨some 29, (.mv (.t 2)), none⟩, ⟨some 30, (.mv (.t 3)), none⟩, ⟨some 31, (.call (fnv 33) [(.t 29), (.t 30)]), none⟩, ⟨some 13, (.alloc [(.int .i64 0), (.int .i64 0), (.int
    .i64 0), (.int .i64 0), (.int .i64 0), (.int .i64 0), (.bool false), (.int .i64 0), (.int .i64 0), (.int .i64 0), (.int .i64 0), (.slice none 0 0), (.int .i64 0), (.int .i64 0),
    (.slice none 0 0), (.slice none 0 0), (.int .i64 0), (.int .i64 0), (.int .i64 0), (.int .i64 0), (.int .i64 0), (.slice none 0 0), (.slice none 0 0), (.slice none 0 0)] 24),
    none⟩, ⟨some 14, (.alloc [(.int .i64 0), (.int .i64 0), (.int .i64 0), (.int .i64 0), (.int .i64 0), (.int .i64 0), (.bool false), (.int .i64 0), (.int .i64 0), (.int .i64 0),
    (.int .i64 0), (.slice none 0 0), (.int .i64 0), (.int .i64 0), (.slice none 0 0), (.slice none 0 0), (.int .i64 0), (.int .i64 0), (.int .i64 0), (.int .i64 0), (.int .i64 0),
    (.slice none 0 0), (.slice none 0 0), (.slice none 0 0)] 24), none⟩, ⟨none, (.store 24 (.t 13) (.t 28)), none⟩, ⟨none, (.store 24 (.t 14) (.t 31)), none⟩]) (.seq (.draw [(⟨some
    32, (.load true 24 (.t 13)), none⟩, []), (⟨some 33, (.call (fnv 67) [(.t 32)]), none⟩, []), (⟨some 34, (.load true 24 (.t 14)), none⟩, [1]), (⟨some 35, (.call (fnv 67) [(.t
    34)]), none⟩, []), (⟨some 15, (.mv (.t 33)), none⟩, []), (⟨some 16, (.mv (.t 35)), none⟩, [])]) (.seq (.seq (.ops [⟨some 36, (.mv (.t 15)), none⟩, ⟨some 37, (.lenS (.t 36)),
    none⟩, ⟨some 38, (.bin .lss 0 (.t 37) (.c (.int .i64 5))), none⟩, ⟨some 39, (.mv (.t 38)), none⟩, ⟨some 40, (.mv (.t 16)), some (39, false)⟩, ⟨some 41, (.lenS (.t 40)), some (39,
    false)⟩, ⟨some 42, (.bin .lss 0 (.t 41) (.c (.int .i64 5))), some (39, false)⟩, ⟨some 43, (.pick (.t 39) (.c (.bool true)) (.t 42)), none⟩]) (.cond (.t 43) (.seq (.ops [⟨some 12,
    (.mv (.c (.bool false))), none⟩]) .ret) .skip)) (.seq (.ops [⟨some 45, (.mv (.t 15)), none⟩, ⟨some 46, (.call (fnv 68) [(.t 45)]), none⟩, ⟨some 44, (.mv (.t 46)), none⟩, ⟨some
    47, (.ext (.t 44) 0), none⟩, ⟨some 48, (.ext (.t 44) 1), none⟩, ⟨some 17, (.alloc [(.int .i64 0), (.int .i64 0), (.int .i64 0), (.int .i64 0), (.int .i64 0), (.int .i64 0),
    (.bool false), (.int .i64 0), (.int .i64 0), (.int .i64 0), (.int .i64 0), (.slice none 0 0), (.int .i64 0), (.int .i64 0), (.slice none 0 0), (.slice none 0 0), (.int .i64 0),
    (.int .i64 0), (.int .i64 0), (.int .i64 0), (.int .i64 0), (.slice none 0 0), (.slice none 0 0), (.slice none 0 0)] 24), none⟩, ⟨none, (.store 24 (.t 17) (.t 47)), none⟩, ⟨some
    18, (.mv (.t 48)), none⟩]) (.seq (.ops [⟨some 50, (.mv (.t 16)), none⟩, ⟨some 51, (.call (fnv 68) [(.t 50)]), none⟩, ⟨some 49, (.mv (.t 51)), none⟩, ⟨some 52, (.ext (.t 49) 0),
    none⟩, ⟨some 53, (.ext (.t 49) 1), none⟩, ⟨some 19, (.alloc [(.int .i64 0), (.int .i64 0), (.int .i64 0), (.int .i64 0), (.int .i64 0), (.int .i64 0), (.bool false), (.int .i64
    0), (.int .i64 0), (.int .i64 0), (.int .i64 0), (.slice none 0 0), (.int .i64 0), (.int .i64 0), (.slice none 0 0), (.slice none 0 0), (.int .i64 0), (.int .i64 0), (.int .i64
    0), (.int .i64 0), (.int .i64 0), (.slice none 0 0), (.slice none 0 0), (.slice none 0 0)] 24), none⟩, ⟨none, (.store 24 (.t 19) (.t 52)), none⟩, ⟨some 20, (.mv (.t 53)), none⟩])
    (.seq (.ops [⟨some 55, (.bslice [(.int .u8 0)] 1 0 []), none⟩, ⟨some 56, (.mv (.t 15)), none⟩, ⟨some 57, (.append 1 1 (.t 55) (.t 56)), none⟩, ⟨some 58, (.mv (.t 15)), none⟩,
    ⟨some 59, (.append 1 1 (.t 57) (.t 58)), none⟩, ⟨some 60, (.call (fnv 68) [(.t 59)]), none⟩, ⟨some 54, (.mv (.t 60)), none⟩, ⟨some 61, (.ext (.t 54) 0), none⟩, ⟨some 62, (.ext
    (.t 54) 1), none⟩, ⟨some 21, (.alloc [(.int .i64 0), (.int .i64 0), (.int .i64 0), (.int .i64 0), (.int .i64 0), (.int .i64 0), (.bool false), (.int .i64 0), (.int .i64 0), (.int
    .i64 0), (.int .i64 0), (.slice none 0 0), (.int .i64 0), (.int .i64 0), (.slice none 0 0), (.slice none 0 0), (.int .i64 0), (.int .i64 0), (.int .i64 0), (.int .i64 0), (.int
    .i64 0), (.slice none 0 0), (.slice none 0 0), (.slice none 0 0)] 24), none⟩, ⟨none, (.store 24 (.t 21) (.t 61)), none⟩, ⟨some 22, (.mv (.t 62)), none⟩]) (.seq (.seq (.draw
    [(⟨some 63, (.mv (.t 18)), none⟩, []), (⟨some 64, (.un .not (.t 63)), none⟩, []), (⟨some 65, (.mv (.t 64)), none⟩, []), (⟨some 66, (.mv (.t 20)), some (65, false)⟩, []), (⟨some
    67, (.un .not (.t 66)), some (65, false)⟩, []), (⟨some 68, (.pick (.t 65) (.c (.bool true)) (.t 67)), none⟩, []), (⟨some 69, (.mv (.t 68)), none⟩, []), (⟨some 70, (.mv (.t 22)),
    some (69, false)⟩, []), (⟨some 71, (.pick (.t 69) (.c (.bool true)) (.t 70)), none⟩, []), (⟨some 72, (.mv (.t 71)), none⟩, []), (⟨some 73, (.mv (.t 15)), some (72, false)⟩, []),
    (⟨some 74, (.b2t (.t 73)), some (72, false)⟩, []), (⟨some 75, (.mv (.t 16)), some (72, false)⟩, []), (⟨some 76, (.b2t (.t 75)), some (72, false)⟩, []), (⟨some 77, (.bin .eql 0
    (.t 74) (.t 76)), some (72, false)⟩, []), (⟨some 78, (.load true 24 (.t 17)), some (72, false)⟩, []), (⟨some 79, (.load true 24 (.t 19)), some (72, false)⟩, []), (⟨some 80,
    (.call (fnv 38) [(.t 78), (.t 79)]), some (72, false)⟩, [13, 11]), (⟨some 81, (.bin .neq 1 (.t 77) (.t 80)), some (72, false)⟩, []), (⟨some 82, (.pick (.t 72) (.c (.bool true))
    (.t 81)), none⟩, [])]) (.cond (.t 82) (.seq (.ops [⟨some 12, (.mv (.c (.bool false))), none⟩]) .ret) .skip)) (.seq (.ops [⟨some 83, (.mv (.t 4)), none⟩, ⟨some 84, (.bin .and 0
    (.t 83) (.c (.int .i64 65535))), none⟩, ⟨some 85, (.bin .rem 0 (.t 84) (.c (.int .i64 4))), none⟩, ⟨some 23, (.mv (.t 85)), none⟩]) (.seq (.ops [⟨some 87, (.mv (.t 15)), none⟩,
    ⟨some 88, (.mv (.t 23)), none⟩, ⟨some 89, (.sliceS 1 (.t 87) none (some (.t 88)) none), none⟩, ⟨some 90, (.call (fnv 68) [(.t 89)]), none⟩, ⟨some 86, (.mv (.t 90)), none⟩, ⟨some
    91, (.ext (.t 86) 0), none⟩, ⟨some 92, (.ext (.t 86) 1), none⟩, ⟨some 24, (.alloc [(.int .i64 0), (.int .i64 0), (.int .i64 0), (.int .i64 0), (.int .i64 0), (.int .i64 0),
    (.bool false), (.int .i64 0), (.int .i64 0), (.int .i64 0), (.int .i64 0), (.slice none 0 0), (.int .i64 0), (.int .i64 0), (.slice none 0 0), (.slice none 0 0), (.int .i64 0),
    (.int .i64 0), (.int .i64 0), (.int .i64 0), (.int .i64 0), (.slice none 0 0), (.slice none 0 0), (.slice none 0 0)] 24), none⟩, ⟨none, (.store 24 (.t 24) (.t 91)), none⟩, ⟨some
    25, (.mv (.t 92)), none⟩]) (.seq (.ops [⟨some 93, (.mv (.t 25)), none⟩, ⟨some 94, (.un .not (.t 93)), none⟩, ⟨some 95, (.mv (.t 94)), none⟩, ⟨some 96, (.call (fnv 69) []), some
    (95, true)⟩, ⟨some 97, (.pick (.t 95) (.t 96) (.c (.bool false))), none⟩, ⟨some 12, (.mv (.t 97)), none⟩]) .ret))))))))))), 98, [(.t 12)]⟩
theorem t13 : tidyF Try.prog 13 = some c13 := by kernel_rfl
noncomputable def c14 : TFn := ⟨(.seq (.ops [⟨some 8, (.mv (.c (.bool false))), none⟩]) (.seq (.ops [⟨some 17, (.mv (.t 0)), none⟩, ⟨some 18, (.mv (.t 1)), none⟩, ⟨some 19, (.call (fnv 33) [(.t 17), (.t 18)]),
    none⟩, ⟨some 20, (.call (fnv 67) [(.t 19)]), none⟩, ⟨some 9, (.mv (.t 20)), none⟩]) (.seq (.seq (.ops [⟨some 21, (.mv (.t 9)), none⟩, ⟨some 22, (.lenS (.t 21)), none⟩, ⟨some 23,
    (.bin .lss 0 (.t 22) (.c (.int .i64 8))), none⟩]) (.cond (.t 23) (.seq (.ops [⟨some 8, (.mv (.c (.bool false))), none⟩]) .ret) .skip)) (.seq (.ops [⟨some 24, (.mv (.t 2)), none⟩,
    ⟨some 25, (.bin .and 0 (.t 24) (.c (.int .i64 65535))), none⟩, ⟨some 26, (.mv (.t 9)), none⟩, ⟨some 27, (.lenS (.t 26)), none⟩, ⟨some 28, (.bin .sub 0 (.t 27) (.c (.int .i64
    3))), none⟩, ⟨some 29, (.bin .rem 0 (.t 25) (.t 28)), none⟩, ⟨some 10, (.mv (.t 29)), none⟩]) (.seq (.seq (.ops [⟨some 30, (.mv (.t 10)), none⟩, ⟨some 31, (.bin .gtr 0 (.t 30)
    (.c (.int .i64 0))), none⟩, ⟨some 32, (.mv (.t 31)), none⟩, ⟨some 33, (.mv (.t 10)), some (32, true)⟩, ⟨some 34, (.bin .lss 0 (.t 33) (.c (.int .i64 4))), some (32, true)⟩, ⟨some
    35, (.pick (.t 32) (.t 34) (.c (.bool false))), none⟩]) (.cond (.t 35) (.ops [⟨some 10, (.mv (.c (.int .i64 4))), none⟩]) .skip)) (.seq (.ops [⟨some 36, (.bslice [(.int .u8 0)] 1
    0 []), none⟩, ⟨some 37, (.mv (.t 9)), none⟩, ⟨some 38, (.append 1 1 (.t 36) (.t 37)), none⟩, ⟨some 11, (.mv (.t 38)), none⟩]) (.seq (.ops [⟨some 12, (.mv (.c (.bool false))),
    none⟩]) (.seq (.seq (.ops [⟨some 13, (.mv (.c (.int .i64 0))), none⟩]) (.block 0 (.loop (.seq (.seq (.ops [⟨some 39, (.mv (.t 13)), none⟩, ⟨some 40, (.bin .lss 0 (.t 39) (.c
    (.int .i64 4))), none⟩]) (.cond (.t 40) .skip (.exit 0))) (.seq (.block 1 (.seq (.ops [⟨some 43, (.mv (.t 3)), none⟩, ⟨some 44, (.mv (.t 13)), none⟩, ⟨some 45, (.bin .mul 0 (.c
    (.int .i64 8)) (.t 44)), none⟩, ⟨some 46, (.conv .u64 (.t 45)), none⟩, ⟨some 47, (.bin .shr 0 (.t 43) (.t 46)), none⟩, ⟨some 48, (.conv .u8 (.t 47)), none⟩, ⟨some 14, (.mv (.t
    48)), none⟩]) (.seq (.ops [⟨some 49, (.mv (.t 11)), none⟩, ⟨some 50, (.mv (.t 10)), none⟩, ⟨some 51, (.mv (.t 13)), none⟩, ⟨some 52, (.bin .add 0 (.t 50) (.t 51)), none⟩, ⟨some
    53, (.mv (.t 11)), none⟩, ⟨some 54, (.mv (.t 10)), none⟩, ⟨some 55, (.mv (.t 13)), none⟩, ⟨some 56, (.bin .add 0 (.t 54) (.t 55)), none⟩, ⟨some 57, (.iaddrS 1 (.t 53) (.t 56)),
    none⟩, ⟨some 58, (.load false 1 (.t 57)), none⟩, ⟨some 59, (.mv (.t 14)), none⟩, ⟨some 60, (.bin .xor 0 (.t 58) (.t 59)), none⟩, ⟨some 61, (.iaddrS 1 (.t 49) (.t 52)), none⟩,
    ⟨none, (.store 1 (.t 61) (.t 60)), none⟩]) (.ops [⟨some 62, (.mv (.t 12)), none⟩, ⟨some 63, (.mv (.t 62)), none⟩, ⟨some 64, (.mv (.t 14)), some (63, false)⟩, ⟨some 65, (.bin .neq
    0 (.t 64) (.c (.int .u8 0))), some (63, false)⟩, ⟨some 66, (.pick (.t 63) (.c (.bool true)) (.t 65)), none⟩, ⟨some 12, (.mv (.t 66)), none⟩])))) (.ops [⟨some 41, (.mv (.t 13)),
    none⟩, ⟨some 42, (.bin .add 0 (.t 41) (.c (.int .i64 1))), none⟩, ⟨some 13, (.mv (.t 42)), none⟩])))))) (.seq (.ops [⟨some 68, (.mv (.t 11)), none⟩, ⟨some 69, (.call (fnv 68)
    [(.t 68)]), none⟩, ⟨some 67, (.mv (.t 69)), none⟩, ⟨some 70, (.ext (.t 67) 0), none⟩, ⟨some 71, (.ext (.t 67) 1), none⟩, ⟨some 15, (.alloc [(.int .i64 0), (.int .i64 0), (.int
    .i64 0), (.int .i64 0), (.int .i64 0), (.int .i64 0), (.bool false), (.int .i64 0), (.int .i64 0), (.int .i64 0), (.int .i64 0), (.slice none 0 0), (.int .i64 0), (.int .i64 0),
    (.slice none 0 0), (.slice none 0 0), (.int .i64 0), (.int .i64 0), (.int .i64 0), (.int .i64 0), (.int .i64 0), (.slice none 0 0), (.slice none 0 0), (.slice none 0 0)] 24),
    none⟩, ⟨none, (.store 24 (.t 15) (.t 70)), none⟩, ⟨some 16, (.mv (.t 71)), none⟩]) (.seq (.ops [⟨some 72, (.mv (.t 16)), none⟩, ⟨some 73, (.mv (.t 12)), none⟩, ⟨some 74, (.un
    .not (.t 73)), none⟩, ⟨some 75, (.bin .eql 1 (.t 72) (.t 74)), none⟩, ⟨some 76, (.mv (.t 75)), none⟩, ⟨some 77, (.call (fnv 69) []), some (76, true)⟩, ⟨some 78, (.pick (.t 76)
    (.t 77) (.c (.bool false))), none⟩, ⟨some 8, (.mv (.t 78)), none⟩]) .ret)))))))))), 79, [(.t 8)]⟩
theorem t14 : tidyF Try.prog 14 = some c14 := by kernel_rfl
noncomputable def c16 : TFn := ⟨(.seq (.ops [⟨some 4, (.mv (.c (.bool false))), none⟩]) (.seq (.ops [⟨some 13, (.mv (.t 0)), none⟩, ⟨some 14, (.mv (.t 1)), none⟩, ⟨some 15, (.call (fnv 33) [(.t 13), (.t 14)]),
    none⟩, ⟨some 5, (.alloc [(.int .i64 0), (.int .i64 0), (.int .i64 0), (.int .i64 0), (.int .i64 0), (.int .i64 0), (.bool false), (.int .i64 0), (.int .i64 0), (.int .i64 0),
    (.int .i64 0), (.slice none 0 0), (.int .i64 0), (.int .i64 0), (.slice none 0 0), (.slice none 0 0), (.int .i64 0), (.int .i64 0), (.int .i64 0), (.int .i64 0), (.int .i64 0),
    (.slice none 0 0), (.slice none 0 0), (.slice none 0 0)] 24), none⟩, ⟨none, (.store 24 (.t 5) (.t 15)), none⟩]) (.seq (.ops [⟨some 16, (.load true 24 (.t 5)), none⟩, ⟨some 17,
    (.call (fnv 67) [(.t 16)]), none⟩, ⟨some 6, (.mv (.t 17)), none⟩]) (.seq (.ops [⟨some 19, (.mv (.t 6)), none⟩, ⟨some 20, (.call (fnv 68) [(.t 19)]), none⟩, ⟨some 18, (.mv (.t
    20)), none⟩, ⟨some 21, (.ext (.t 18) 0), none⟩, ⟨some 22, (.ext (.t 18) 1), none⟩, ⟨some 7, (.alloc [(.int .i64 0), (.int .i64 0), (.int .i64 0), (.int .i64 0), (.int .i64 0),
    (.int .i64 0), (.bool false), (.int .i64 0), (.int .i64 0), (.int .i64 0), (.int .i64 0), (.slice none 0 0), (.int .i64 0), (.int .i64 0), (.slice none 0 0), (.slice none 0 0),
    (.int .i64 0), (.int .i64 0), (.int .i64 0), (.int .i64 0), (.int .i64 0), (.slice none 0 0), (.slice none 0 0), (.slice none 0 0)] 24), none⟩, ⟨none, (.store 24 (.t 7) (.t 21)),
    none⟩, ⟨some 8, (.mv (.t 22)), none⟩]) (.seq (.seq (.ops [⟨some 23, (.mv (.t 8)), none⟩, ⟨some 24, (.un .not (.t 23)), none⟩, ⟨some 25, (.mv (.t 24)), none⟩, ⟨some 26, (.load
    true 24 (.t 5)), some (25, false)⟩, ⟨some 27, (.load true 24 (.t 7)), some (25, false)⟩, ⟨some 28, (.call (fnv 38) [(.t 26), (.t 27)]), some (25, false)⟩, ⟨some 29, (.un .not (.t
    28)), some (25, false)⟩, ⟨some 30, (.pick (.t 25) (.c (.bool true)) (.t 29)), none⟩, ⟨some 31, (.mv (.t 30)), none⟩, ⟨some 32, (.mv (.t 6)), some (31, false)⟩, ⟨some 33, (.lenS
    (.t 32)), some (31, false)⟩, ⟨some 34, (.bin .gtr 0 (.t 33) (.c (.int .i64 300))), some (31, false)⟩, ⟨some 35, (.pick (.t 31) (.c (.bool true)) (.t 34)), none⟩]) (.cond (.t 35)
    (.seq (.ops [⟨some 4, (.mv (.c (.bool false))), none⟩]) .ret) .skip)) (.seq (.seq (.ops [⟨some 9, (.mv (.c (.int .i64 0))), none⟩]) (.block 0 (.loop (.seq (.seq (.ops [⟨some 36,
    (.mv (.t 9)), none⟩, ⟨some 37, (.mv (.t 6)), none⟩, ⟨some 38, (.lenS (.t 37)), none⟩, ⟨some 39, (.bin .mul 0 (.c (.int .i64 8)) (.t 38)), none⟩, ⟨some 40, (.bin .lss 0 (.t 36)
    (.t 39)), none⟩]) (.cond (.t 40) .skip (.exit 0))) (.seq (.block 1 (.seq (.ops [⟨some 43, (.bslice [(.int .u8 0)] 1 0 []), none⟩, ⟨some 44, (.mv (.t 6)), none⟩, ⟨some 45,
    (.append 1 1 (.t 43) (.t 44)), none⟩, ⟨some 10, (.mv (.t 45)), none⟩]) (.seq (.ops [⟨some 46, (.mv (.t 10)), none⟩, ⟨some 47, (.mv (.t 9)), none⟩, ⟨some 48, (.bin .quo 0 (.t 47)
    (.c (.int .i64 8))), none⟩, ⟨some 49, (.mv (.t 10)), none⟩, ⟨some 50, (.mv (.t 9)), none⟩, ⟨some 51, (.bin .quo 0 (.t 50) (.c (.int .i64 8))), none⟩, ⟨some 52, (.iaddrS 1 (.t 49)
    (.t 51)), none⟩, ⟨some 53, (.load false 1 (.t 52)), none⟩, ⟨some 54, (.mv (.t 9)), none⟩, ⟨some 55, (.bin .and 0 (.t 54) (.c (.int .i64 7))), none⟩, ⟨some 56, (.conv .u64 (.t
    55)), none⟩, ⟨some 57, (.bin .shl 0 (.c (.int .u8 1)) (.t 56)), none⟩, ⟨some 58, (.bin .xor 0 (.t 53) (.t 57)), none⟩, ⟨some 59, (.iaddrS 1 (.t 46) (.t 48)), none⟩, ⟨none,
    (.store 1 (.t 59) (.t 58)), none⟩]) (.seq (.ops [⟨some 61, (.mv (.t 10)), none⟩, ⟨some 62, (.call (fnv 68) [(.t 61)]), none⟩, ⟨some 60, (.mv (.t 62)), none⟩, ⟨some 63, (.ext (.t
    60) 0), none⟩, ⟨some 64, (.ext (.t 60) 1), none⟩, ⟨some 11, (.alloc [(.int .i64 0), (.int .i64 0), (.int .i64 0), (.int .i64 0), (.int .i64 0), (.int .i64 0), (.bool false),
    (.int .i64 0), (.int .i64 0), (.int .i64 0), (.int .i64 0), (.slice none 0 0), (.int .i64 0), (.int .i64 0), (.slice none 0 0), (.slice none 0 0), (.int .i64 0), (.int .i64 0),
    (.int .i64 0), (.int .i64 0), (.int .i64 0), (.slice none 0 0), (.slice none 0 0), (.slice none 0 0)] 24), none⟩, ⟨none, (.store 24 (.t 11) (.t 63)), none⟩, ⟨some 12, (.mv (.t
    64)), none⟩]) (.seq (.ops [⟨some 65, (.mv (.t 12)), none⟩]) (.cond (.t 65) (.seq (.ops [⟨some 4, (.mv (.c (.bool false))), none⟩]) .ret) .skip)))))) (.ops [⟨some 41, (.mv (.t
    9)), none⟩, ⟨some 42, (.bin .add 0 (.t 41) (.c (.int .i64 1))), none⟩, ⟨some 9, (.mv (.t 42)), none⟩])))))) (.seq (.ops [⟨some 66, (.call (fnv 69) []), none⟩, ⟨some 4, (.mv (.t
    66)), none⟩]) .ret))))))), 67, [(.t 4)]⟩
theorem t16 : tidyF Try.prog 16 = some c16 := by kernel_rfl
end Go.Proofs.Ytapmpenkceomdaa
/- The messages' law is awake. -/
set_option linter.unusedSimpArgs false
set_option linter.unusedVariables false
set_option maxRecDepth 20000
namespace Go.Proofs.Ytapmpenkceomdaa
open Go.Ab

variable {n d : Nat} {h : AHeap}

def tokM : Msg := { zeroM with kind := 7, src := 1, dst := 2, view := 300, hop := 4, seq := 5, have_ := [5, 4], need := [5] }
theorem tok_enc : encP tokM = [7, 1, 2, 172, 2, 4, 5, 2, 5, 4, 1, 5] := by decide +kernel
theorem tok_dec : decM [7, 1, 2, 172, 2, 4, 5, 2, 5, 4, 1, 5] = (tokM, true) := by decide +kernel
theorem tok_dec0 : decM ([7, 1, 2, 172, 2, 4, 5, 2, 5, 4, 1, 5] ++ [0]) = (zeroM, false) := by decide +kernel
theorem tok_dec1 : decM [7, 1, 2, 172, 2, 4, 5, 2, 5, 4, 1, 5, 0] = (zeroM, false) := by decide +kernel
theorem tok_same : sameB tokM tokM = true := by decide +kernel
theorem tok_not : sameB tokM zeroM = false := by decide +kernel
theorem zero_enc : encP zeroM = [] := by decide +kernel
theorem seven_enc : encP { zeroM with kind := 1, src := 7 } = [] := by decide +kernel
theorem small_of (hn : 100 ≤ n) {m : Msg} (h1 : m.data.length ≤ 64) (h2 : m.have_.length ≤ 64) (h3 : m.need.length ≤ 64) (h4 : m.entry.len ≤ 64) : smallM n m :=
  ⟨by omega, by omega, by omega, by omega, by omega, by omega⟩

attribute [local irreducible] wS oneP twoP wOps
theorem awake52 (hd : 7 ≤ d) (hn : 100 ≤ n) (h : AHeap) : ∃ v' h', aCall Try.prog n d 52 [] h = some (v', h') ∧ v' = .bool true ∧ Ext no h.next h h' := by
  obtain ⟨d, rfl, hd⟩ := depth hd
  refine call_of t52 (show ([] : List Value).length ≤ _ from Nat.zero_le _) ?_
  simp only [c52, run, Option.map_some, Nat.reduceEqDiff, Nat.reduceAdd, Nat.zero_add, ↓reduceIte, decide_eq_true_eq, decide_true, decide_false, Bool.not_true, Bool.not_false, Bool.true_eq_false, Bool.false_eq_true, List.getElem?_cons_zero, List.getElem?_cons_succ, List.nil_append, List.cons_append, reduceCtorEq, eq_self, decide_eq_false_iff_not, not_true_eq_false, not_false_eq_true, Nat.add_zero, Nat.succ_ne_self, Nat.one_ne_zero, Nat.zero_ne_one]
  refine useE (bslice_2 _ rfl rfl) ?_
  (try simp only [run, Option.map_some, Nat.reduceEqDiff, Nat.reduceAdd, Nat.zero_add, ↓reduceIte, decide_eq_true_eq, decide_true, decide_false, Bool.not_true, Bool.not_false, Bool.true_eq_false, Bool.false_eq_true, List.getElem?_cons_zero, List.getElem?_cons_succ, List.nil_append, List.cons_append, reduceCtorEq, eq_self, decide_eq_false_iff_not, not_true_eq_false, not_false_eq_true, Nat.add_zero, Nat.succ_ne_self, Nat.one_ne_zero, Nat.zero_ne_one])
  obtain ⟨h0, eh0, x0, n0, g0⟩ := boxed h ⟨[.int .i64 5, .int .i64 4], 1, 0, none⟩
  rw [eh0]
  (try simp only [run, Option.map_some, Nat.reduceEqDiff, Nat.reduceAdd, Nat.zero_add, ↓reduceIte, decide_eq_true_eq, decide_true, decide_false, Bool.not_true, Bool.not_false, Bool.true_eq_false, Bool.false_eq_true, List.getElem?_cons_zero, List.getElem?_cons_succ, List.nil_append, List.cons_append, reduceCtorEq, eq_self, decide_eq_false_iff_not, not_true_eq_false, not_false_eq_true, Nat.add_zero, Nat.succ_ne_self, Nat.one_ne_zero, Nat.zero_ne_one])
  refine useE (bslice_1 _ rfl) ?_
  (try simp only [run, Option.map_some, Nat.reduceEqDiff, Nat.reduceAdd, Nat.zero_add, ↓reduceIte, decide_eq_true_eq, decide_true, decide_false, Bool.not_true, Bool.not_false, Bool.true_eq_false, Bool.false_eq_true, List.getElem?_cons_zero, List.getElem?_cons_succ, List.nil_append, List.cons_append, reduceCtorEq, eq_self, decide_eq_false_iff_not, not_true_eq_false, not_false_eq_true, Nat.add_zero, Nat.succ_ne_self, Nat.one_ne_zero, Nat.zero_ne_one])
  obtain ⟨h1, eh1, x1, n1, g1⟩ := boxed h0 ⟨[.int .i64 5], 1, 0, none⟩
  rw [eh1]
  (try simp only [run, Option.map_some, Nat.reduceEqDiff, Nat.reduceAdd, Nat.zero_add, ↓reduceIte, decide_eq_true_eq, decide_true, decide_false, Bool.not_true, Bool.not_false, Bool.true_eq_false, Bool.false_eq_true, List.getElem?_cons_zero, List.getElem?_cons_succ, List.nil_append, List.cons_append, reduceCtorEq, eq_self, decide_eq_false_iff_not, not_true_eq_false, not_false_eq_true, Nat.add_zero, Nat.succ_ne_self, Nat.one_ne_zero, Nat.zero_ne_one])
  obtain ⟨cs, hcs⟩ : ∃ x : List Value, x = [.int .i64 7, .int .i64 1, .int .i64 2, .int .i64 300, .int .i64 0, .int .i64 0, .bool false, .int .i64 0, .int .i64 0, .int .i64 0, .int .i64 0, .slice none 0 0, .int .i64 4, .int .i64 5, .slice (some ⟨h.next, 0, none⟩) 2 2, .slice (some ⟨h0.next, 0, none⟩) 1 1, .int .i64 0, .int .i64 0, .int .i64 0, .int .i64 0, .int .i64 0, .slice none 0 0, .slice none 0 0, .slice none 0 0] := ⟨_, rfl⟩
  have s1 : Ints h.next h1.next h1 (.slice (some ⟨h.next, 0, none⟩) 2 2) [5, 4] := Sl.of_block (blk0 x1 g0 (by omega)) (by decide) rfl (Nat.le_refl _) (by omega)
  have s2 : Ints h.next h1.next h1 (.slice (some ⟨h0.next, 0, none⟩) 1 1) [5] := Sl.of_block g1 (by decide) rfl (by omega) (by omega)
  have rm1 : RepM h.next h1.next h1 cs tokM := ⟨_, _, _, _, _, _, hcs, Sl.nil, s1, s2, Sl.nil, Sl.nil, Sl.nil⟩
  refine use1 (v := cs) (by rw [hcs]; rfl) ?_
  (try simp only [run, Option.map_some, Nat.reduceEqDiff, Nat.reduceAdd, Nat.zero_add, ↓reduceIte, decide_eq_true_eq, decide_true, decide_false, Bool.not_true, Bool.not_false, Bool.true_eq_false, Bool.false_eq_true, List.getElem?_cons_zero, List.getElem?_cons_succ, List.nil_append, List.cons_append, reduceCtorEq, eq_self, decide_eq_false_iff_not, not_true_eq_false, not_false_eq_true, Nat.add_zero, Nat.succ_ne_self, Nat.one_ne_zero, Nat.zero_ne_one])
  obtain ⟨h2, eh2, x2, n2, g2⟩ := boxed h1 ⟨[.int .i64 0, .int .i64 0, .int .i64 0, .int .i64 0, .int .i64 0, .int .i64 0, .bool false, .int .i64 0, .int .i64 0, .int .i64 0, .int .i64 0, .slice none 0 0, .int .i64 0, .int .i64 0, .slice none 0 0, .slice none 0 0, .int .i64 0, .int .i64 0, .int .i64 0, .int .i64 0, .int .i64 0, .slice none 0 0, .slice none 0 0, .slice none 0 0], 24, 0, none⟩
  rw [eh2]
  obtain ⟨h3, eh3, n3, x3, g3⟩ := stoW (k := 24) g2 rm1.length rfl rm1.cells rm1.ne
  have rm3 : RepM h.next h1.next h3 cs tokM := (rm1.keep x2 (Nat.le_refl _)).ext x3 (by omega) (fun m j1 j2 (e : m = h1.next) => by omega)
  have xb3 : Ext no h.next h h3 := ((x0.trans x1 (by omega)).trans x2 (by omega)).then x3 (by omega) (fun m hm (e : m = h1.next) => by omega)
  have W3 := ld_whole (k := 24) g3 (by decide) rm3.length
  refine use1 eh3 ?_
  simp only [run, Option.map_some, Nat.reduceEqDiff, Nat.reduceAdd, Nat.zero_add, ↓reduceIte, decide_eq_true_eq, decide_true, decide_false, Bool.not_true, Bool.not_false, Bool.true_eq_false, Bool.false_eq_true, List.getElem?_cons_zero, List.getElem?_cons_succ, List.nil_append, List.cons_append, reduceCtorEq, eq_self, decide_eq_false_iff_not, not_true_eq_false, not_false_eq_true, Nat.add_zero, Nat.succ_ne_self, Nat.one_ne_zero, Nat.zero_ne_one, W3]
  have sm : smallM n tokM := small_of hn (by decide) (by decide) (by decide) (by decide)
  refine use (enc_spec (by omega) hn (rm3.more (Nat.zero_le _) (by omega)) sm) ?_
  rintro v4 h4 ⟨x4, o4⟩
  rw [tok_enc] at o4
  have n4 := x4.next
  have g4 := blk0 x4 g3 (by omega)
  have rm4 := rm3.keep x4 (by omega)
  simp only [run, Option.map_some, Nat.reduceEqDiff, Nat.reduceAdd, Nat.zero_add, ↓reduceIte, decide_eq_true_eq, decide_true, decide_false, Bool.not_true, Bool.not_false, Bool.true_eq_false, Bool.false_eq_true, List.getElem?_cons_zero, List.getElem?_cons_succ, List.nil_append, List.cons_append, reduceCtorEq, eq_self, decide_eq_false_iff_not, not_true_eq_false, not_false_eq_true, Nat.add_zero, Nat.succ_ne_self, Nat.one_ne_zero, Nat.zero_ne_one]
  refine use (dec_spec (by omega) hn (o4.sl.more (Nat.zero_le _) (Nat.le_refl _)) (by simp)) ?_
  rintro _ h5 ⟨x5, ct, rfl, rt⟩
  rw [tok_dec] at rt
  have n5 := x5.next
  have g5 := blk0 x5 g4 (by omega)
  have o5 := o4.keep x5 (Nat.le_refl _)
  have rm5 := rm4.keep x5 (by omega)
  simp only [run, Option.map_some, Nat.reduceEqDiff, Nat.reduceAdd, Nat.zero_add, ↓reduceIte, decide_eq_true_eq, decide_true, decide_false, Bool.not_true, Bool.not_false, Bool.true_eq_false, Bool.false_eq_true, List.getElem?_cons_zero, List.getElem?_cons_succ, List.nil_append, List.cons_append, reduceCtorEq, eq_self, decide_eq_false_iff_not, not_true_eq_false, not_false_eq_true, Nat.add_zero, Nat.succ_ne_self, Nat.one_ne_zero, Nat.zero_ne_one, ext_t, tok_dec]
  obtain ⟨h6, eh6, x6, n6, g6⟩ := boxed h5 ⟨[.int .i64 0, .int .i64 0, .int .i64 0, .int .i64 0, .int .i64 0, .int .i64 0, .bool false, .int .i64 0, .int .i64 0, .int .i64 0, .int .i64 0, .slice none 0 0, .int .i64 0, .int .i64 0, .slice none 0 0, .slice none 0 0, .int .i64 0, .int .i64 0, .int .i64 0, .int .i64 0, .int .i64 0, .slice none 0 0, .slice none 0 0, .slice none 0 0], 24, 0, none⟩
  rw [eh6]
  obtain ⟨h7, eh7, n7, x7, g7⟩ := stoW (k := 24) g6 rt.length rfl rt.cells rt.ne
  have x57 : Ext no h5.next h5 h7 := x6.then x7 (by omega) (fun m hm (e : m = h5.next) => by omega)
  have o7 := o5.keep x57 (Nat.le_refl _)
  have g57 := blk0 x57 g5 (by omega)
  have rm7 := rm5.keep x57 (by omega)
  have rt7 := rt.keep x57 (Nat.le_refl _)
  refine use1 eh7 ?_
  simp only [run, Option.map_some, Nat.reduceEqDiff, Nat.reduceAdd, Nat.zero_add, ↓reduceIte, decide_eq_true_eq, decide_true, decide_false, Bool.not_true, Bool.not_false, Bool.true_eq_false, Bool.false_eq_true, List.getElem?_cons_zero, List.getElem?_cons_succ, List.nil_append, List.cons_append, reduceCtorEq, eq_self, decide_eq_false_iff_not, not_true_eq_false, not_false_eq_true, Nat.add_zero, Nat.succ_ne_self, Nat.one_ne_zero, Nat.zero_ne_one]
  refine useE (bslice_one _ _ _ _) ?_
  (try simp only [run, Option.map_some, Nat.reduceEqDiff, Nat.reduceAdd, Nat.zero_add, ↓reduceIte, decide_eq_true_eq, decide_true, decide_false, Bool.not_true, Bool.not_false, Bool.true_eq_false, Bool.false_eq_true, List.getElem?_cons_zero, List.getElem?_cons_succ, List.nil_append, List.cons_append, reduceCtorEq, eq_self, decide_eq_false_iff_not, not_true_eq_false, not_false_eq_true, Nat.add_zero, Nat.succ_ne_self, Nat.one_ne_zero, Nat.zero_ne_one])
  refine use (append_byte_grow (g := h4) (x := 0) o4 (x5.trans x57 (by omega)) (by omega) (by omega) (by simp)) ?_
  rintro v8 h8 ⟨x8, o8, z8⟩
  have n8 := x8.next
  (try simp only [run, Option.map_some, Nat.reduceEqDiff, Nat.reduceAdd, Nat.zero_add, ↓reduceIte, decide_eq_true_eq, decide_true, decide_false, Bool.not_true, Bool.not_false, Bool.true_eq_false, Bool.false_eq_true, List.getElem?_cons_zero, List.getElem?_cons_succ, List.nil_append, List.cons_append, reduceCtorEq, eq_self, decide_eq_false_iff_not, not_true_eq_false, not_false_eq_true, Nat.add_zero, Nat.succ_ne_self, Nat.one_ne_zero, Nat.zero_ne_one])
  refine use (dec_spec (by omega) hn (o8.sl.more (Nat.zero_le _) (Nat.le_refl _)) (by simp)) ?_
  rintro _ h9 ⟨x9, cu, rfl, ru⟩
  rw [show UInt8.ofNat 0 = 0 from rfl, tok_dec0] at ru
  have n9 := x9.next
  simp only [run, Option.map_some, Nat.reduceEqDiff, Nat.reduceAdd, Nat.zero_add, ↓reduceIte, decide_eq_true_eq, decide_true, decide_false, Bool.not_true, Bool.not_false, Bool.true_eq_false, Bool.false_eq_true, List.getElem?_cons_zero, List.getElem?_cons_succ, List.nil_append, List.cons_append, reduceCtorEq, eq_self, decide_eq_false_iff_not, not_true_eq_false, not_false_eq_true, Nat.add_zero, Nat.succ_ne_self, Nat.one_ne_zero, Nat.zero_ne_one, ext_t, show UInt8.ofNat 0 = 0 from rfl, tok_dec0, tok_dec1]
  obtain ⟨h10, eh10, x10, n10, g10⟩ := boxed h9 ⟨[.int .i64 0, .int .i64 0, .int .i64 0, .int .i64 0, .int .i64 0, .int .i64 0, .bool false, .int .i64 0, .int .i64 0, .int .i64 0, .int .i64 0, .slice none 0 0, .int .i64 0, .int .i64 0, .slice none 0 0, .slice none 0 0, .int .i64 0, .int .i64 0, .int .i64 0, .int .i64 0, .int .i64 0, .slice none 0 0, .slice none 0 0, .slice none 0 0], 24, 0, none⟩
  rw [eh10]
  obtain ⟨h11, eh11, n11, x11, g11⟩ := stoW (k := 24) g10 ru.length rfl ru.cells ru.ne
  have x9t : Ext no h9.next h9 h11 := x10.then x11 (by omega) (fun m hm (e : m = h9.next) => by omega)
  have x8t : Ext no h8.next h8 h11 := x9.trans x9t (by omega)
  have x7t : Ext (fun j => h3.next ≤ j ∧ j < h4.next) h7.next h7 h11 := x8.trans (x8t.none.less (by omega)) (Nat.le_refl _)
  have z11 := z8.keep x8t (by omega)
  have rt11 := rt7.ext x7t (by omega) (fun m j1 j2 (e : h3.next ≤ m ∧ m < h4.next) => by omega)
  have rm11 := rm7.ext x7t (by omega) (fun m j1 j2 (e : h3.next ≤ m ∧ m < h4.next) => by omega)
  have gt11 := blk x7t g7 (by omega) (show ¬ (h3.next ≤ h5.next ∧ h5.next < h4.next) by omega)
  have gm11 := blk x7t g57 (by omega) (show ¬ (h3.next ≤ h1.next ∧ h1.next < h4.next) by omega)
  have xb11 : Ext no h.next h h11 := ((xb3.trans x4 (by omega)).trans (x5.trans x57 (by omega)) (by omega)).then x7t (by omega) (fun m hm (e : h3.next ≤ m ∧ m < h4.next) => by omega)
  have Wt := ld_whole (k := 24) gt11 (by decide) rt11.length
  have Wm := ld_whole (k := 24) gm11 (by decide) rm11.length
  refine use1 eh11 ?_
  simp only [run, Option.map_some, Nat.reduceEqDiff, Nat.reduceAdd, Nat.zero_add, ↓reduceIte, decide_eq_true_eq, decide_true, decide_false, Bool.not_true, Bool.not_false, Bool.true_eq_false, Bool.false_eq_true, List.getElem?_cons_zero, List.getElem?_cons_succ, List.nil_append, List.cons_append, reduceCtorEq, eq_self, decide_eq_false_iff_not, not_true_eq_false, not_false_eq_true, Nat.add_zero, Nat.succ_ne_self, Nat.one_ne_zero, Nat.zero_ne_one, b2tB z11, str_eq, Wt, Wm]
  refine use (same_spec54 (by omega) (by omega) (rt11.more (Nat.zero_le _) (by omega)) (rm11.more (Nat.zero_le _) (by omega)) (by show 2 < n; omega) (by show 1 < n; omega) (by decide) (by decide)) ?_
  rintro _ h12 ⟨rfl, x12⟩
  rw [tok_same]
  have n12 := x12.next
  have gm12 := blk0 x12 gm11 (by omega)
  have rm12 := rm11.keep x12 (by omega)
  have Wm12 := ld_whole (k := 24) gm12 (by decide) rm12.length
  simp only [run, Option.map_some, Nat.reduceEqDiff, Nat.reduceAdd, Nat.zero_add, ↓reduceIte, decide_eq_true_eq, decide_true, decide_false, Bool.not_true, Bool.not_false, Bool.true_eq_false, Bool.false_eq_true, List.getElem?_cons_zero, List.getElem?_cons_succ, List.nil_append, List.cons_append, reduceCtorEq, eq_self, decide_eq_false_iff_not, not_true_eq_false, not_false_eq_true, Nat.add_zero, Nat.succ_ne_self, Nat.one_ne_zero, Nat.zero_ne_one]
  refine use1 (v := [.int .i64 0, .int .i64 0, .int .i64 0, .int .i64 0, .int .i64 0, .int .i64 0, .bool false, .int .i64 0, .int .i64 0, .int .i64 0, .int .i64 0, .slice none 0 0, .int .i64 0, .int .i64 0, .slice none 0 0, .slice none 0 0, .int .i64 0, .int .i64 0, .int .i64 0, .int .i64 0, .int .i64 0, .slice none 0 0, .slice none 0 0, .slice none 0 0]) rfl ?_
  (try simp only [run, Option.map_some, Nat.reduceEqDiff, Nat.reduceAdd, Nat.zero_add, ↓reduceIte, decide_eq_true_eq, decide_true, decide_false, Bool.not_true, Bool.not_false, Bool.true_eq_false, Bool.false_eq_true, List.getElem?_cons_zero, List.getElem?_cons_succ, List.nil_append, List.cons_append, reduceCtorEq, eq_self, decide_eq_false_iff_not, not_true_eq_false, not_false_eq_true, Nat.add_zero, Nat.succ_ne_self, Nat.one_ne_zero, Nat.zero_ne_one])
  refine use (enc_spec (by omega) hn (rep_zero (lo := 0)) (small_of hn (by decide) (by decide) (by decide) (by decide))) ?_
  rintro v13 h13 ⟨x13, o13⟩
  rw [zero_enc] at o13
  have n13 := x13.next
  simp only [run, Option.map_some, Nat.reduceEqDiff, Nat.reduceAdd, Nat.zero_add, ↓reduceIte, decide_eq_true_eq, decide_true, decide_false, Bool.not_true, Bool.not_false, Bool.true_eq_false, Bool.false_eq_true, List.getElem?_cons_zero, List.getElem?_cons_succ, List.nil_append, List.cons_append, reduceCtorEq, eq_self, decide_eq_false_iff_not, not_true_eq_false, not_false_eq_true, Nat.add_zero, Nat.succ_ne_self, Nat.one_ne_zero, Nat.zero_ne_one, lenB o13.sl, show ((([] : List UInt8).length : Nat) : Int) = 0 from rfl]
  refine use1 (v := [.int .i64 1, .int .i64 7, .int .i64 0, .int .i64 0, .int .i64 0, .int .i64 0, .bool false, .int .i64 0, .int .i64 0, .int .i64 0, .int .i64 0, .slice none 0 0, .int .i64 0, .int .i64 0, .slice none 0 0, .slice none 0 0, .int .i64 0, .int .i64 0, .int .i64 0, .int .i64 0, .int .i64 0, .slice none 0 0, .slice none 0 0, .slice none 0 0]) rfl ?_
  (try simp only [run, Option.map_some, Nat.reduceEqDiff, Nat.reduceAdd, Nat.zero_add, ↓reduceIte, decide_eq_true_eq, decide_true, decide_false, Bool.not_true, Bool.not_false, Bool.true_eq_false, Bool.false_eq_true, List.getElem?_cons_zero, List.getElem?_cons_succ, List.nil_append, List.cons_append, reduceCtorEq, eq_self, decide_eq_false_iff_not, not_true_eq_false, not_false_eq_true, Nat.add_zero, Nat.succ_ne_self, Nat.one_ne_zero, Nat.zero_ne_one])
  have r7 : RepM 0 h13.next h13 [.int .i64 1, .int .i64 7, .int .i64 0, .int .i64 0, .int .i64 0, .int .i64 0, .bool false, .int .i64 0, .int .i64 0, .int .i64 0, .int .i64 0, .slice none 0 0, .int .i64 0, .int .i64 0, .slice none 0 0, .slice none 0 0, .int .i64 0, .int .i64 0, .int .i64 0, .int .i64 0, .int .i64 0, .slice none 0 0, .slice none 0 0, .slice none 0 0] { zeroM with kind := 1, src := 7 } := ⟨_, _, _, _, _, _, rfl, Sl.nil, Sl.nil, Sl.nil, Sl.nil, Sl.nil, Sl.nil⟩
  refine use (enc_spec (by omega) hn r7 (small_of hn (by decide) (by decide) (by decide) (by decide))) ?_
  rintro v14 h14 ⟨x14, o14⟩
  rw [seven_enc] at o14
  have n14 := x14.next
  have x24 := x13.trans x14 (by omega)
  have gm14 := blk0 x24 gm12 (by omega)
  have rm14 := rm12.keep x24 (by omega)
  have Wm14 := ld_whole (k := 24) gm14 (by decide) rm14.length
  simp only [run, Option.map_some, Nat.reduceEqDiff, Nat.reduceAdd, Nat.zero_add, ↓reduceIte, decide_eq_true_eq, decide_true, decide_false, Bool.not_true, Bool.not_false, Bool.true_eq_false, Bool.false_eq_true, List.getElem?_cons_zero, List.getElem?_cons_succ, List.nil_append, List.cons_append, reduceCtorEq, eq_self, decide_eq_false_iff_not, not_true_eq_false, not_false_eq_true, Nat.add_zero, Nat.succ_ne_self, Nat.one_ne_zero, Nat.zero_ne_one, lenB o14.sl, show ((([] : List UInt8).length : Nat) : Int) = 0 from rfl, Wm14]
  refine use1 (v := [.int .i64 0, .int .i64 0, .int .i64 0, .int .i64 0, .int .i64 0, .int .i64 0, .bool false, .int .i64 0, .int .i64 0, .int .i64 0, .int .i64 0, .slice none 0 0, .int .i64 0, .int .i64 0, .slice none 0 0, .slice none 0 0, .int .i64 0, .int .i64 0, .int .i64 0, .int .i64 0, .int .i64 0, .slice none 0 0, .slice none 0 0, .slice none 0 0]) rfl ?_
  (try simp only [run, Option.map_some, Nat.reduceEqDiff, Nat.reduceAdd, Nat.zero_add, ↓reduceIte, decide_eq_true_eq, decide_true, decide_false, Bool.not_true, Bool.not_false, Bool.true_eq_false, Bool.false_eq_true, List.getElem?_cons_zero, List.getElem?_cons_succ, List.nil_append, List.cons_append, reduceCtorEq, eq_self, decide_eq_false_iff_not, not_true_eq_false, not_false_eq_true, Nat.add_zero, Nat.succ_ne_self, Nat.one_ne_zero, Nat.zero_ne_one])
  refine use (same_spec54 (by omega) (by omega) (rm14.more (Nat.zero_le _) (by omega)) (rep_zero (lo := 0)) (by show 2 < n; omega) (by show 1 < n; omega) (by decide) (by decide)) ?_
  rintro _ h15 ⟨rfl, x15⟩
  rw [tok_not]
  simp only [run, Option.map_some, Nat.reduceEqDiff, Nat.reduceAdd, Nat.zero_add, ↓reduceIte, decide_eq_true_eq, decide_true, decide_false, Bool.not_true, Bool.not_false, Bool.true_eq_false, Bool.false_eq_true, List.getElem?_cons_zero, List.getElem?_cons_succ, List.nil_append, List.cons_append, reduceCtorEq, eq_self, decide_eq_false_iff_not, not_true_eq_false, not_false_eq_true, Nat.add_zero, Nat.succ_ne_self, Nat.one_ne_zero, Nat.zero_ne_one]
  exact ⟨trivial, (xb11.trans (x12.trans x24 (by omega)) (by omega)).trans x15 (by omega)⟩
end Go.Proofs.Ytapmpenkceomdaa
/- The frames' law is awake. -/
set_option linter.unusedSimpArgs false
set_option linter.unusedVariables false
set_option maxRecDepth 20000
namespace Go.Proofs.Ytapmpenkceomdaa
open Go.Ab

variable {n d : Nat} {h : AHeap}

def joinM : Msg := { zeroM with kind := 1, src := 1, dst := 2, view := 9 }
theorem join_enc : encP joinM = [1, 1, 2, 9] := by decide +kernel
theorem join_wrap : (if encP joinM = [] then [] else four (encP joinM)) = [104, 8, 208, 211, 1, 1, 2, 9] := by decide +kernel
theorem join_open : openM [104, 8, 208, 211, 1, 1, 2, 9] = (joinM, true) := by decide +kernel
theorem join_half : openM [104, 8, 208, 211] = (zeroM, false) := by decide +kernel
theorem zero_wrap : (if encP zeroM = [] then [] else four (encP zeroM)) = [] := by decide +kernel

attribute [local irreducible] wS oneP twoP wOps
theorem awake69 (hd : 8 ≤ d) (hn : 100 ≤ n) (h : AHeap) : ∃ v' h', aCall Try.prog n d 69 [] h = some (v', h') ∧ v' = .bool true ∧ Ext no h.next h h' := by
  obtain ⟨d, rfl, hd⟩ := depth hd
  refine call_of t69 (show ([] : List Value).length ≤ _ from Nat.zero_le _) ?_
  simp only [c69, run, Option.map_some, Nat.reduceEqDiff, Nat.reduceAdd, Nat.zero_add, ↓reduceIte, decide_eq_true_eq, decide_true, decide_false, Bool.not_true, Bool.not_false, Bool.true_eq_false, Bool.false_eq_true, List.getElem?_cons_zero, List.getElem?_cons_succ, List.nil_append, List.cons_append, reduceCtorEq, eq_self, decide_eq_false_iff_not, not_true_eq_false, not_false_eq_true, Nat.add_zero, Nat.succ_ne_self, Nat.one_ne_zero, Nat.zero_ne_one]
  obtain ⟨cs, hcs⟩ : ∃ x : List Value, x = [.int .i64 1, .int .i64 1, .int .i64 2, .int .i64 9, .int .i64 0, .int .i64 0, .bool false, .int .i64 0, .int .i64 0, .int .i64 0, .int .i64 0, .slice none 0 0, .int .i64 0, .int .i64 0, .slice none 0 0, .slice none 0 0, .int .i64 0, .int .i64 0, .int .i64 0, .int .i64 0, .int .i64 0, .slice none 0 0, .slice none 0 0, .slice none 0 0] := ⟨_, rfl⟩
  have rm0 : RepM 0 h.next h cs joinM := ⟨_, _, _, _, _, _, hcs, Sl.nil, Sl.nil, Sl.nil, Sl.nil, Sl.nil, Sl.nil⟩
  refine use1 (v := cs) (by rw [hcs]; rfl) ?_
  (try simp only [run, Option.map_some, Nat.reduceEqDiff, Nat.reduceAdd, Nat.zero_add, ↓reduceIte, decide_eq_true_eq, decide_true, decide_false, Bool.not_true, Bool.not_false, Bool.true_eq_false, Bool.false_eq_true, List.getElem?_cons_zero, List.getElem?_cons_succ, List.nil_append, List.cons_append, reduceCtorEq, eq_self, decide_eq_false_iff_not, not_true_eq_false, not_false_eq_true, Nat.add_zero, Nat.succ_ne_self, Nat.one_ne_zero, Nat.zero_ne_one])
  obtain ⟨h2, eh2, x2, n2, g2⟩ := boxed h ⟨[.int .i64 0, .int .i64 0, .int .i64 0, .int .i64 0, .int .i64 0, .int .i64 0, .bool false, .int .i64 0, .int .i64 0, .int .i64 0, .int .i64 0, .slice none 0 0, .int .i64 0, .int .i64 0, .slice none 0 0, .slice none 0 0, .int .i64 0, .int .i64 0, .int .i64 0, .int .i64 0, .int .i64 0, .slice none 0 0, .slice none 0 0, .slice none 0 0], 24, 0, none⟩
  rw [eh2]
  obtain ⟨h3, eh3, n3, x3, g3⟩ := stoW (k := 24) g2 rm0.length rfl rm0.cells rm0.ne
  have rm3 : RepM 0 h.next h3 cs joinM := (rm0.keep x2 (Nat.le_refl _)).ext x3 (by omega) (fun m j1 j2 (e : m = h.next) => by omega)
  have xb3 : Ext no h.next h h3 := x2.then x3 (by omega) (fun m hm (e : m = h.next) => by omega)
  have W3 := ld_whole (k := 24) g3 (by decide) rm3.length
  refine use1 eh3 ?_
  simp only [run, Option.map_some, Nat.reduceEqDiff, Nat.reduceAdd, Nat.zero_add, ↓reduceIte, decide_eq_true_eq, decide_true, decide_false, Bool.not_true, Bool.not_false, Bool.true_eq_false, Bool.false_eq_true, List.getElem?_cons_zero, List.getElem?_cons_succ, List.nil_append, List.cons_append, reduceCtorEq, eq_self, decide_eq_false_iff_not, not_true_eq_false, not_false_eq_true, Nat.add_zero, Nat.succ_ne_self, Nat.one_ne_zero, Nat.zero_ne_one, W3]
  refine use (wrap_spec (by omega) hn (rm3.more (Nat.le_refl 0) (show h.next ≤ h3.next by omega)) (small_of hn (by decide) (by decide) (by decide) (by decide)) (by rw [join_enc]; show 4 < n; omega)) ?_
  rintro v4 h4 ⟨x4, o4⟩
  rw [join_wrap] at o4
  have n4 := x4.next
  have g4 := blk0 x4 g3 (by omega)
  have rm4 := rm3.keep x4 (by omega)
  simp only [run, Option.map_some, Nat.reduceEqDiff, Nat.reduceAdd, Nat.zero_add, ↓reduceIte, decide_eq_true_eq, decide_true, decide_false, Bool.not_true, Bool.not_false, Bool.true_eq_false, Bool.false_eq_true, List.getElem?_cons_zero, List.getElem?_cons_succ, List.nil_append, List.cons_append, reduceCtorEq, eq_self, decide_eq_false_iff_not, not_true_eq_false, not_false_eq_true, Nat.add_zero, Nat.succ_ne_self, Nat.one_ne_zero, Nat.zero_ne_one]
  refine use (open_spec (by omega) hn (o4.sl.more (Nat.zero_le _) (Nat.le_refl _)) (by simp) (by show 8 < n; omega)) ?_
  rintro _ h5 ⟨x5, ct, rfl, rt⟩
  rw [join_open] at rt
  have n5 := x5.next
  have g5 := blk0 x5 g4 (by omega)
  have o5 := o4.keep x5 (Nat.le_refl _)
  have rm5 := rm4.keep x5 (by omega)
  simp only [run, Option.map_some, Nat.reduceEqDiff, Nat.reduceAdd, Nat.zero_add, ↓reduceIte, decide_eq_true_eq, decide_true, decide_false, Bool.not_true, Bool.not_false, Bool.true_eq_false, Bool.false_eq_true, List.getElem?_cons_zero, List.getElem?_cons_succ, List.nil_append, List.cons_append, reduceCtorEq, eq_self, decide_eq_false_iff_not, not_true_eq_false, not_false_eq_true, Nat.add_zero, Nat.succ_ne_self, Nat.one_ne_zero, Nat.zero_ne_one, ext_t, join_open]
  obtain ⟨h6, eh6, x6, n6, g6⟩ := boxed h5 ⟨[.int .i64 0, .int .i64 0, .int .i64 0, .int .i64 0, .int .i64 0, .int .i64 0, .bool false, .int .i64 0, .int .i64 0, .int .i64 0, .int .i64 0, .slice none 0 0, .int .i64 0, .int .i64 0, .slice none 0 0, .slice none 0 0, .int .i64 0, .int .i64 0, .int .i64 0, .int .i64 0, .int .i64 0, .slice none 0 0, .slice none 0 0, .slice none 0 0], 24, 0, none⟩
  rw [eh6]
  obtain ⟨h7, eh7, n7, x7, g7⟩ := stoW (k := 24) g6 rt.length rfl rt.cells rt.ne
  have x57 : Ext no h5.next h5 h7 := x6.then x7 (by omega) (fun m hm (e : m = h5.next) => by omega)
  have o7 := o5.keep x57 (Nat.le_refl _)
  have g57 := blk0 x57 g5 (by omega)
  have rm7 := rm5.keep x57 (by omega)
  have rt7 := rt.keep x57 (Nat.le_refl _)
  have xb7 : Ext no h.next h h7 := ((xb3.trans x4 (by omega)).trans (x5.trans x57 (by omega)) (by omega))
  refine use1 eh7 ?_
  have a2 : binV .quo 0 (.int .i64 ((([104, 8, 208, 211, 1, 1, 2, 9] : List UInt8).length : Nat) : Int)) (.int .i64 2) = some (.int .i64 ((4 : Nat) : Int)) := rfl
  obtain ⟨w, b1, b2⟩ := cutB o7.sl (a := 0) (b := 4) (by omega) (by decide)
  have b3 := b2 none (some (.int .i64 ((4 : Nat) : Int))) (.inr ⟨rfl, rfl⟩) (.inl rfl)
  rw [show ([104, 8, 208, 211, 1, 1, 2, 9].drop 0).take (4 - 0) = ([104, 8, 208, 211] : List UInt8) from rfl] at b1
  simp only [run, Option.map_some, Nat.reduceEqDiff, Nat.reduceAdd, Nat.zero_add, ↓reduceIte, decide_eq_true_eq, decide_true, decide_false, Bool.not_true, Bool.not_false, Bool.true_eq_false, Bool.false_eq_true, List.getElem?_cons_zero, List.getElem?_cons_succ, List.nil_append, List.cons_append, reduceCtorEq, eq_self, decide_eq_false_iff_not, not_true_eq_false, not_false_eq_true, Nat.add_zero, Nat.succ_ne_self, Nat.one_ne_zero, Nat.zero_ne_one, lenB o7.sl, a2, b3]
  refine use (open_spec (by omega) hn (b1.more (Nat.zero_le _) (Nat.le_refl _)) (by simp) (by show 4 < n; omega)) ?_
  rintro _ h9 ⟨x9, cu, rfl, ru⟩
  rw [join_half] at ru
  have n9 := x9.next
  simp only [run, Option.map_some, Nat.reduceEqDiff, Nat.reduceAdd, Nat.zero_add, ↓reduceIte, decide_eq_true_eq, decide_true, decide_false, Bool.not_true, Bool.not_false, Bool.true_eq_false, Bool.false_eq_true, List.getElem?_cons_zero, List.getElem?_cons_succ, List.nil_append, List.cons_append, reduceCtorEq, eq_self, decide_eq_false_iff_not, not_true_eq_false, not_false_eq_true, Nat.add_zero, Nat.succ_ne_self, Nat.one_ne_zero, Nat.zero_ne_one, ext_t, join_half]
  obtain ⟨h10, eh10, x10, n10, g10⟩ := boxed h9 ⟨[.int .i64 0, .int .i64 0, .int .i64 0, .int .i64 0, .int .i64 0, .int .i64 0, .bool false, .int .i64 0, .int .i64 0, .int .i64 0, .int .i64 0, .slice none 0 0, .int .i64 0, .int .i64 0, .slice none 0 0, .slice none 0 0, .int .i64 0, .int .i64 0, .int .i64 0, .int .i64 0, .int .i64 0, .slice none 0 0, .slice none 0 0, .slice none 0 0], 24, 0, none⟩
  rw [eh10]
  obtain ⟨h11, eh11, n11, x11, g11⟩ := stoW (k := 24) g10 ru.length rfl ru.cells ru.ne
  have x9t : Ext no h9.next h9 h11 := x10.then x11 (by omega) (fun m hm (e : m = h9.next) => by omega)
  have x7t := x9.trans x9t (by omega)
  have o11 := o7.sl.keep x7t (by omega)
  have rt11 := rt7.keep x7t (by omega)
  have rm11 := rm7.keep x7t (by omega)
  have Wt := ld_whole (k := 24) (blk0 x7t g7 (by omega)) (by decide) rt11.length
  have Wm := ld_whole (k := 24) (blk0 x7t g57 (by omega)) (by decide) rm11.length
  refine use1 eh11 ?_
  simp only [run, Option.map_some, Nat.reduceEqDiff, Nat.reduceAdd, Nat.zero_add, ↓reduceIte, decide_eq_true_eq, decide_true, decide_false, Bool.not_true, Bool.not_false, Bool.true_eq_false, Bool.false_eq_true, List.getElem?_cons_zero, List.getElem?_cons_succ, List.nil_append, List.cons_append, reduceCtorEq, eq_self, decide_eq_false_iff_not, not_true_eq_false, not_false_eq_true, Nat.add_zero, Nat.succ_ne_self, Nat.one_ne_zero, Nat.zero_ne_one, lenB o11, show (((([104, 8, 208, 211, 1, 1, 2, 9] : List UInt8).length : Nat) : Int) = 8) = True from eq_true rfl, Wt, Wm]
  refine use (rsame_spec (by omega) (rt11.more (Nat.zero_le _) (by omega)) (rm11.more (Nat.zero_le _) (by omega)) (by show 0 < n; omega) (by show 0 < n; omega) (by decide) (by decide)) ?_
  rintro _ h12 ⟨rfl, x12⟩
  rw [show decide (joinM = joinM) = true from decide_eq_true rfl]
  have n12 := x12.next
  simp only [run, Option.map_some, Nat.reduceEqDiff, Nat.reduceAdd, Nat.zero_add, ↓reduceIte, decide_eq_true_eq, decide_true, decide_false, Bool.not_true, Bool.not_false, Bool.true_eq_false, Bool.false_eq_true, List.getElem?_cons_zero, List.getElem?_cons_succ, List.nil_append, List.cons_append, reduceCtorEq, eq_self, decide_eq_false_iff_not, not_true_eq_false, not_false_eq_true, Nat.add_zero, Nat.succ_ne_self, Nat.one_ne_zero, Nat.zero_ne_one]
  refine use1 (v := [.int .i64 0, .int .i64 0, .int .i64 0, .int .i64 0, .int .i64 0, .int .i64 0, .bool false, .int .i64 0, .int .i64 0, .int .i64 0, .int .i64 0, .slice none 0 0, .int .i64 0, .int .i64 0, .slice none 0 0, .slice none 0 0, .int .i64 0, .int .i64 0, .int .i64 0, .int .i64 0, .int .i64 0, .slice none 0 0, .slice none 0 0, .slice none 0 0]) rfl ?_
  (try simp only [run, Option.map_some, Nat.reduceEqDiff, Nat.reduceAdd, Nat.zero_add, ↓reduceIte, decide_eq_true_eq, decide_true, decide_false, Bool.not_true, Bool.not_false, Bool.true_eq_false, Bool.false_eq_true, List.getElem?_cons_zero, List.getElem?_cons_succ, List.nil_append, List.cons_append, reduceCtorEq, eq_self, decide_eq_false_iff_not, not_true_eq_false, not_false_eq_true, Nat.add_zero, Nat.succ_ne_self, Nat.one_ne_zero, Nat.zero_ne_one])
  refine use (wrap_spec (by omega) hn (rep_zero (lo := 0)) (small_of hn (by decide) (by decide) (by decide) (by decide)) (by rw [zero_enc]; show 0 < n; omega)) ?_
  rintro v13 h13 ⟨x13, o13⟩
  rw [zero_wrap] at o13
  simp only [run, Option.map_some, Nat.reduceEqDiff, Nat.reduceAdd, Nat.zero_add, ↓reduceIte, decide_eq_true_eq, decide_true, decide_false, Bool.not_true, Bool.not_false, Bool.true_eq_false, Bool.false_eq_true, List.getElem?_cons_zero, List.getElem?_cons_succ, List.nil_append, List.cons_append, reduceCtorEq, eq_self, decide_eq_false_iff_not, not_true_eq_false, not_false_eq_true, Nat.add_zero, Nat.succ_ne_self, Nat.one_ne_zero, Nat.zero_ne_one, lenB o13.sl, show ((([] : List UInt8).length : Nat) : Int) = 0 from rfl]
  exact ⟨trivial, (xb7.trans x7t (by omega)).trans (x12.trans x13 (by omega)) (by omega)⟩
end Go.Proofs.Ytapmpenkceomdaa
/- The plain law of messages: what is written is read as it was. -/
set_option linter.unusedSimpArgs false
set_option linter.unusedVariables false
set_option maxRecDepth 20000
namespace Go.Proofs.Ytapmpenkceomdaa
open Go.Ab

theorem rdGo_vnum (top : Nat) : ∀ (m i acc k : Nat) (l : List UInt8), k < 128 ^ (m + 1) → i + m ≤ 8 → (0 < i → k ≠ 0) → acc + k * 2 ^ (7 * i) ≤ top → rdGo top i acc (vnum k ++ l) = some (acc + k * 2 ^ (7 * i), l)
  | m, i, acc, k, l, hk, hi, h0, ht => by
    by_cases h : k < 128
    · have e : (UInt8.ofNat k).toNat = k := by simp; omega
      rw [vnum_lt h, List.cons_append, List.nil_append, rdGo, e, if_neg (by omega), if_neg (by omega), Nat.mod_eq_of_lt h, if_neg (by omega)]
    · have e : (UInt8.ofNat (k % 128 + 128)).toNat = k % 128 + 128 := by simp; omega
      have hm : m ≠ 0 := by rintro rfl; simp at hk; omega
      obtain ⟨m', rfl⟩ : ∃ m', m = m' + 1 := ⟨m - 1, by omega⟩
      have hp : 2 ^ (7 * (i + 1)) = 128 * 2 ^ (7 * i) := by rw [show 7 * (i + 1) = 7 + 7 * i by omega, Nat.pow_add]
      have hk' : k / 128 < 128 ^ (m' + 1) := by
        rw [Nat.div_lt_iff_lt_mul (by decide), ← Nat.pow_succ]; exact hk
      have hs : acc + (k % 128 + 128) % 128 * 2 ^ (7 * i) + k / 128 * 2 ^ (7 * (i + 1)) = acc + k * 2 ^ (7 * i) := by
        rw [hp, show (k % 128 + 128) % 128 = k % 128 by omega]
        have : k * 2 ^ (7 * i) = (k % 128 + 128 * (k / 128)) * 2 ^ (7 * i) := by rw [Nat.mod_add_div]
        rw [this, Nat.add_mul, Nat.mul_comm 128 (k / 128), Nat.mul_assoc, Nat.add_assoc]
      rw [vnum_ge h, List.cons_append, rdGo, e, if_neg (by omega), if_pos (by omega), rdGo_vnum top m' (i + 1) _ (k / 128) l hk' (by omega) (by omega) (by rw [hs]; exact ht), hs]

theorem rdNum_vnum {top a : Int} (h0 : 0 ≤ a) (h1 : a ≤ top) (h2 : top ≤ 4611686018427387904) (l : List UInt8) : rdNum top (some (vnum (heldN a) ++ l)) = (a.toNat, some l) := by
  have e : heldN a = a.toNat := by unfold heldN; omega
  have et : heldN top = top.toNat := by unfold heldN; omega
  rw [e]
  have := rdGo_vnum top.toNat 8 0 0 a.toNat l (by simp; omega) (by omega) (by omega) (by simp; omega)
  simp only [rdNum, et, this]
  simp
theorem rdNum_nat {top : Int} {k : Nat} (h1 : (k : Int) ≤ top) (h2 : top ≤ 4611686018427387904) (l : List UInt8) : rdNum top (some (vnum k ++ l)) = (k, some l) := by
  have := rdNum_vnum (a := (k : Int)) (by omega) h1 h2 l
  rwa [heldN_nat (by omega)] at this
theorem rdBytes_vbytes {top : Int} {b : List UInt8} (h1 : (b.length : Int) ≤ top) (h2 : top ≤ 4611686018427387904) (l : List UInt8) : rdBytes top (some (vbytes b ++ l)) = (b, some l) := by
  unfold rdBytes vbytes
  rw [List.append_assoc, rdNum_nat h1 h2]
  simp
theorem rdTimes_nums : ∀ (xs : List Int) (l : List UInt8), (∀ x ∈ xs, 0 ≤ x ∧ x ≤ 1099511627776) → rdTimes xs.length (some (numsB xs ++ l)) = (xs, some l)
  | [], l, _ => rfl
  | x :: xs, l, h => by
    have hx := h x (by simp)
    simp only [List.length_cons, rdTimes, numsB_cons, List.append_assoc]
    rw [rdNum_vnum hx.1 hx.2 (by decide)]
    simp only [rdTimes_nums xs l fun y hy => h y (by simp [hy])]
    rw [Int.toNat_of_nonneg hx.1]
theorem rdRow_nums {top : Int} {xs : List Int} (h0 : (xs.length : Int) ≤ top) (h2 : top ≤ 4611686018427387904) (h : ∀ x ∈ xs, 0 ≤ x ∧ x ≤ 1099511627776) (l : List UInt8) : rdRow top (some (vnum xs.length ++ (numsB xs ++ l))) = (xs, some l) := by
  unfold rdRow
  rw [rdNum_nat h0 h2]
  exact rdTimes_nums xs l h

def inR (a : Int) (b : Int) : Prop := 0 ≤ a ∧ a ≤ b
def goodE (e : Entry) : Prop := inR e.sess 1073741824 ∧ inR e.seq 1073741824 ∧ inR e.kind 1073741824 ∧ inR e.who 1073741824 ∧ e.key.length ≤ 32 ∧ e.val.length ≤ 32 ∧ e.old.length ≤ 32
theorem rdEntry_put {e : Entry} (h : goodE e) (l : List UInt8) : rdEntry (some (putEntry e ++ l)) = (e, some l) := by
  obtain ⟨h1, h2, h3, h4, h5, h6, h7⟩ := h
  rw [putEntry_eq]
  simp only [List.append_assoc]
  unfold rdEntry
  rw [rdNum_vnum h1.1 h1.2 (by decide)]
  simp only []
  rw [rdNum_vnum h2.1 h2.2 (by decide)]
  simp only []
  rw [rdNum_vnum h3.1 h3.2 (by decide)]
  simp only []
  rw [rdNum_vnum h4.1 h4.2 (by decide)]
  simp only []
  rw [rdBytes_vbytes (by omega) (by decide)]
  simp only []
  rw [rdBytes_vbytes (by omega) (by decide)]
  simp only []
  rw [rdBytes_vbytes (by omega) (by decide)]
  simp only [Option.isSome_some, if_true]
  rw [Int.toNat_of_nonneg h1.1, Int.toNat_of_nonneg h2.1, Int.toNat_of_nonneg h3.1, Int.toNat_of_nonneg h4.1]

/-- a message's first four numbers, and no more -/
def headM (m : Msg) : Msg := { zeroM with kind := m.kind, src := m.src, dst := m.dst, view := m.view }
def goodT (k : Int) (m : Msg) : Prop :=
  if k = 2 then inR m.inst 1099511627776 ∧ inR m.len 1099511627776 ∧ m = { headM m with inst := m.inst, len := m.len, has := m.has }
  else if k = 3 then inR m.members 127 ∧ inR m.source 6 ∧ inR m.len 1099511627776 ∧ m = { headM m with members := m.members, source := m.source, len := m.len }
  else if k = 4 then inR m.place 1099511627776 ∧ m = { headM m with place := m.place }
  else if k = 5 then inR m.place 1099511627776 ∧ inR m.total 1099511627776 ∧ m.data.length ≤ 64 ∧ m = { headM m with place := m.place, total := m.total, data := m.data }
  else if k = 7 then inR m.hop 1099511627776 ∧ inR m.seq 1099511627776 ∧ m.have_.length ≤ 7 ∧ m.need.length ≤ 8 ∧ (∀ x ∈ m.have_, inR x 1099511627776) ∧ (∀ x ∈ m.need, inR x 1099511627776) ∧ m = { headM m with hop := m.hop, seq := m.seq, have_ := m.have_, need := m.need }
  else if k = 8 then inR m.index 1099511627776 ∧ goodE m.entry ∧ m = { headM m with index := m.index, entry := m.entry }
  else m = headM m
/-- a message that may be, and names no field that its kind does not -/
def goodM (m : Msg) : Prop := (1 ≤ m.kind ∧ m.kind ≤ 8) ∧ inR m.src 6 ∧ inR m.dst 6 ∧ inR m.view 1099511627776 ∧ goodT m.kind m

theorem rdMsg_good {m : Msg} (h : goodM m) (l : List UInt8) : rdMsg (some (msgB m ++ l)) = (m, some l) := by
  obtain ⟨⟨k1, k2⟩, ⟨s1, s2⟩, ⟨d1, d2⟩, ⟨v1, v2⟩, ht⟩ := h
  unfold goodT at ht
  have e0 : msgB m ++ l = vnum (heldN m.kind) ++ (vnum (heldN m.src) ++ (vnum (heldN m.dst) ++ (vnum (heldN m.view) ++ (tailB m ++ l)))) := by
    simp [msgB, numsB]
  rw [e0]
  unfold rdMsg
  rw [rdNum_vnum (by omega) k2 (by decide)]
  simp only []
  rw [rdNum_vnum s1 s2 (by decide)]
  simp only []
  rw [rdNum_vnum d1 d2 (by decide)]
  simp only []
  rw [rdNum_vnum v1 v2 (by decide)]
  simp only []
  rw [Int.toNat_of_nonneg (show 0 ≤ m.kind by omega), Int.toNat_of_nonneg s1, Int.toNat_of_nonneg d1, Int.toNat_of_nonneg v1]
  change rdBody (headM m) (some (tailB m ++ l)) = _
  have hk : (headM m).kind = m.kind := rfl
  unfold rdBody tailB
  rw [hk]
  split at ht
  · rename_i c
    obtain ⟨a, b, e⟩ := ht
    rw [if_pos c, if_pos c]
    simp only [numsB, List.flatMap_cons, List.flatMap_nil, List.append_nil, List.append_assoc]
    rw [rdNum_vnum a.1 a.2 (by decide)]
    simp only []
    rw [rdNum_vnum b.1 b.2 (by decide)]
    simp only []
    rw [rdNum_vnum (a := if m.has then 1 else 0) (by split <;> omega) (by split <;> omega) (by decide)]
    simp only []
    rw [Int.toNat_of_nonneg a.1, Int.toNat_of_nonneg b.1, Int.toNat_of_nonneg (show (0 : Int) ≤ if m.has then 1 else 0 by split <;> omega)]
    have : decide ((if m.has then 1 else 0 : Int) = 1) = m.has := by cases m.has <;> rfl
    rw [this]
    exact congrArg (fun x => (x, some l)) e.symm
  rename_i c2
  rw [if_neg c2, if_neg c2]
  split at ht
  · rename_i c
    obtain ⟨a, b, f, e⟩ := ht
    rw [if_pos c, if_pos c]
    simp only [numsB, List.flatMap_cons, List.flatMap_nil, List.append_nil, List.append_assoc]
    rw [rdNum_vnum a.1 a.2 (by decide)]
    simp only []
    rw [rdNum_vnum b.1 b.2 (by decide)]
    simp only []
    rw [rdNum_vnum f.1 f.2 (by decide)]
    simp only []
    rw [Int.toNat_of_nonneg a.1, Int.toNat_of_nonneg b.1, Int.toNat_of_nonneg f.1]
    exact congrArg (fun x => (x, some l)) e.symm
  rename_i c3
  rw [if_neg c3, if_neg c3]
  split at ht
  · rename_i c
    obtain ⟨a, e⟩ := ht
    rw [if_pos c, if_pos c]
    simp only [numsB, List.flatMap_cons, List.flatMap_nil, List.append_nil, List.append_assoc]
    rw [rdNum_vnum a.1 a.2 (by decide)]
    simp only []
    rw [Int.toNat_of_nonneg a.1]
    exact congrArg (fun x => (x, some l)) e.symm
  rename_i c4
  rw [if_neg c4, if_neg c4]
  split at ht
  · rename_i c
    obtain ⟨a, b, f, e⟩ := ht
    rw [if_pos c, if_pos c]
    simp only [numsB, List.flatMap_cons, List.flatMap_nil, List.append_nil, List.append_assoc]
    rw [rdNum_vnum a.1 a.2 (by decide)]
    simp only []
    rw [rdNum_vnum b.1 b.2 (by decide)]
    simp only []
    rw [rdBytes_vbytes (by omega) (by decide)]
    simp only []
    rw [Int.toNat_of_nonneg a.1, Int.toNat_of_nonneg b.1]
    exact congrArg (fun x => (x, some l)) e.symm
  rename_i c5
  rw [if_neg c5, if_neg c5]
  split at ht
  · rename_i c
    obtain ⟨a, b, f, g, q, r, e⟩ := ht
    rw [if_pos c, if_pos c]
    rw [show numsB [m.hop, m.seq] = vnum (heldN m.hop) ++ vnum (heldN m.seq) by simp [numsB]]
    simp only [List.append_assoc]
    rw [rdNum_vnum a.1 a.2 (by decide)]
    simp only []
    rw [rdNum_vnum b.1 b.2 (by decide)]
    simp only []
    rw [rdRow_nums (by omega) (by decide) q]
    simp only []
    rw [rdRow_nums (by omega) (by decide) r]
    simp only []
    rw [Int.toNat_of_nonneg a.1, Int.toNat_of_nonneg b.1]
    exact congrArg (fun x => (x, some l)) e.symm
  rename_i c7
  rw [if_neg c7, if_neg c7]
  split at ht
  · rename_i c
    obtain ⟨a, b, e⟩ := ht
    rw [if_pos c, if_pos c]
    rw [show numsB [m.index] = vnum (heldN m.index) by simp [numsB]]
    simp only [List.append_assoc]
    rw [rdNum_vnum a.1 a.2 (by decide)]
    simp only []
    rw [rdEntry_put b]
    simp only []
    rw [Int.toNat_of_nonneg a.1]
    exact congrArg (fun x => (x, some l)) e.symm
  rename_i c8
  rw [if_neg c8, if_neg c8, List.nil_append, ← ht]

theorem readM_good {m : Msg} (h : goodM m) : readM (msgB m) = (m, true) := by
  have := rdMsg_good h []
  rw [List.append_nil] at this
  unfold readM
  rw [this]
  simp only []
  rw [if_neg (by have := h.1.1; omega)]
  simp
theorem decM_good {m : Msg} (h : goodM m) : decM (msgB m) = (m, true) := by
  rw [decM_eq, readM_good h]; rfl
theorem decM_more {m : Msg} (h : goodM m) {l : List UInt8} (hl : l ≠ []) : (decM (msgB m ++ l)).2 = false := by
  unfold decM
  rw [rdMsg_good h]
  simp only []
  rw [if_neg (by have := h.1.1; omega), if_neg (by simpa using hl)]
theorem alikeB_self (m : Msg) : alikeB m m = true := by
  unfold alikeB fieldsB
  simp
theorem beyond_good {m : Msg} (h : goodM m) : beyondB m = false := by
  obtain ⟨_, _, _, _, ht⟩ := h
  unfold goodT at ht
  unfold beyondB
  split at ht
  · rename_i c; simp [c]
  split at ht
  · rename_i c; simp [c]
  split at ht
  · rename_i c; simp [c]
  split at ht
  · rename_i c; obtain ⟨_, _, f, _⟩ := ht; simp [c]; omega
  split at ht
  · rename_i c; obtain ⟨_, _, f, g, _⟩ := ht; simp [c]; omega
  rename_i c5 c7
  simp [c5, c7]
theorem encP_good {m : Msg} (h : goodM m) : encP m = msgB m := by
  unfold encP
  rw [beyond_good h, readM_good h]
  simp [alikeB_self]
end Go.Proofs.Ytapmpenkceomdaa
/- The plain law of messages of numbers: they may be. -/
set_option linter.unusedSimpArgs false
set_option linter.unusedVariables false
set_option maxRecDepth 20000
namespace Go.Proofs.Ytapmpenkceomdaa
open Go.Ab

theorem intsOf_in (b : Int) (z k : Nat) : ∀ x ∈ intsOf b z k, inR x 1099511627776 := by
  intro x hx
  obtain ⟨i, _, rfl⟩ := List.mem_map.1 hx
  have := andN_le (shrI b (i + z)) (b := 63) (by decide)
  exact ⟨by omega, by omega⟩

theorem entry_good (a : Int) (k : Nat) (hk : k ≤ 63) : goodE (clampE (entryOf a k)) := by
  have h1 := keyOf_len (shrI a 11)
  have h2 := cmdVal_len a
  have h3 := cmdOld_len a
  have h4 := cmdKind_le a
  have h5 := cmdWho_le a
  have h6 := andN_le (shrI a 28) (b := 1) (by decide)
  unfold clampE entryOf goodE inR
  simp only
  refine ⟨⟨by omega, by omega⟩, ⟨by omega, by omega⟩, ⟨by omega, by omega⟩, ⟨by omega, by omega⟩, by omega, by omega, by omega⟩

theorem msg_good (a b : Int) : goodM (msgOf a b) := by
  have k7 := andN_le a (b := 7) (by decide)
  have k9 := andN_le (shrI a 9) (b := 1023) (by decide)
  have kk : 1 ≤ kindOf a ∧ kindOf a ≤ 8 := by unfold kindOf; omega
  have g : (1 ≤ (baseOf a).kind ∧ (baseOf a).kind ≤ 8) ∧ inR (baseOf a).src 6 ∧ inR (baseOf a).dst 6 ∧ inR (baseOf a).view 1099511627776 := by
    unfold baseOf inR
    simp only
    refine ⟨⟨by omega, by omega⟩, ⟨by omega, by omega⟩, ⟨by omega, by omega⟩, by omega, by omega⟩
  have bk : (baseOf a).kind = (kindOf a : Int) := rfl
  unfold msgOf
  split
  · rename_i c
    have h1 := andN_le b (b := 255) (by decide)
    have h2 := andN_le (shrI b 8) (b := 63) (by decide)
    refine ⟨g.1, g.2.1, g.2.2.1, g.2.2.2, ?_⟩
    show goodT (kindOf a : Int) _
    unfold goodT
    rw [if_pos (show (kindOf a : Int) = 2 by omega)]
    exact ⟨⟨by simp only; omega, by simp only; omega⟩, ⟨by simp only; omega, by simp only; omega⟩, rfl⟩
  rename_i c2
  split
  · rename_i c
    have h1 := andN_le b (b := 127) (by decide)
    have h2 := andN_le (shrI b 10) (b := 63) (by decide)
    refine ⟨g.1, g.2.1, g.2.2.1, g.2.2.2, ?_⟩
    show goodT (kindOf a : Int) _
    unfold goodT
    rw [if_neg (show ¬ (kindOf a : Int) = 2 by omega), if_pos (show (kindOf a : Int) = 3 by omega)]
    exact ⟨⟨by simp only; omega, by simp only; omega⟩, ⟨by simp only; omega, by simp only; omega⟩, ⟨by simp only; omega, by simp only; omega⟩, rfl⟩
  rename_i c3
  split
  · rename_i c
    have h1 := andN_le b (b := 4095) (by decide)
    refine ⟨g.1, g.2.1, g.2.2.1, g.2.2.2, ?_⟩
    show goodT (kindOf a : Int) _
    unfold goodT
    rw [if_neg (show ¬ (kindOf a : Int) = 2 by omega), if_neg (show ¬ (kindOf a : Int) = 3 by omega), if_pos (show (kindOf a : Int) = 4 by omega)]
    exact ⟨⟨by simp only; omega, by simp only; omega⟩, rfl⟩
  rename_i c4
  split
  · rename_i c
    have h1 := andN_le b (b := 4095) (by decide)
    have h2 := andN_le (shrI b 12) (b := 4095) (by decide)
    have h3 := andN_le (shrI b 24) (b := 63) (by decide)
    refine ⟨g.1, g.2.1, g.2.2.1, g.2.2.2, ?_⟩
    show goodT (kindOf a : Int) _
    unfold goodT
    rw [if_neg (show ¬ (kindOf a : Int) = 2 by omega), if_neg (show ¬ (kindOf a : Int) = 3 by omega), if_neg (show ¬ (kindOf a : Int) = 4 by omega), if_pos (show (kindOf a : Int) = 5 by omega)]
    exact ⟨⟨by simp only; omega, by simp only; omega⟩, ⟨by simp only; omega, by simp only; omega⟩, by simp only [dataOf_length]; omega, rfl⟩
  rename_i c5
  split
  · rename_i c
    have h1 := andN_le b (b := 1023) (by decide)
    have h2 := andN_le (shrI b 10) (b := 255) (by decide)
    have h3 := andN_le (shrI b 18) (b := 7) (by decide)
    have h4 := andN_le (shrI b 21) (b := 7) (by decide)
    refine ⟨g.1, g.2.1, g.2.2.1, g.2.2.2, ?_⟩
    show goodT (kindOf a : Int) _
    unfold goodT
    rw [if_neg (show ¬ (kindOf a : Int) = 2 by omega), if_neg (show ¬ (kindOf a : Int) = 3 by omega), if_neg (show ¬ (kindOf a : Int) = 4 by omega), if_neg (show ¬ (kindOf a : Int) = 5 by omega), if_pos (show (kindOf a : Int) = 7 by omega)]
    exact ⟨⟨by simp only; omega, by simp only; omega⟩, ⟨by simp only; omega, by simp only; omega⟩, by simp only [intsOf_length]; omega, by simp only [intsOf_length]; omega, intsOf_in _ _ _, intsOf_in _ _ _, rfl⟩
  rename_i c7
  split
  · rename_i c
    have h1 := andN_le b (b := 1023) (by decide)
    have h2 := andN_le (shrI b 10) (b := 63) (by decide)
    refine ⟨g.1, g.2.1, g.2.2.1, g.2.2.2, ?_⟩
    show goodT (kindOf a : Int) _
    unfold goodT
    rw [if_neg (show ¬ (kindOf a : Int) = 2 by omega), if_neg (show ¬ (kindOf a : Int) = 3 by omega), if_neg (show ¬ (kindOf a : Int) = 4 by omega), if_neg (show ¬ (kindOf a : Int) = 5 by omega), if_neg (show ¬ (kindOf a : Int) = 7 by omega), if_pos (show (kindOf a : Int) = 8 by omega)]
    exact ⟨⟨by simp only; omega, by simp only; omega⟩, entry_good _ _ h2, rfl⟩
  rename_i c8
  refine ⟨g.1, g.2.1, g.2.2.1, g.2.2.2, ?_⟩
  show goodT (kindOf a : Int) _
  unfold goodT
  rw [if_neg (show ¬ (kindOf a : Int) = 2 by omega), if_neg (show ¬ (kindOf a : Int) = 3 by omega), if_neg (show ¬ (kindOf a : Int) = 4 by omega), if_neg (show ¬ (kindOf a : Int) = 5 by omega), if_neg (show ¬ (kindOf a : Int) = 7 by omega), if_neg (show ¬ (kindOf a : Int) = 8 by omega)]
  rfl

theorem good_small {n : Nat} (hn : 100 ≤ n) {m : Msg} (hm : m.data.length ≤ 64 ∧ m.have_.length ≤ 7 ∧ m.need.length ≤ 8 ∧ m.entry.len ≤ 96) : smallM n m :=
  ⟨by omega, by omega, by omega, by omega, by omega, by omega⟩
/-- the fields' lengths of a message that may be -/
theorem good_lens {m : Msg} (h : goodM m) : m.data.length ≤ 64 ∧ m.have_.length ≤ 7 ∧ m.need.length ≤ 8 ∧ m.entry.len ≤ 96 := by
  obtain ⟨_, _, _, _, ht⟩ := h
  unfold goodT at ht
  have z : ∀ x : Msg, (headM x).data.length ≤ 64 ∧ (headM x).have_.length ≤ 7 ∧ (headM x).need.length ≤ 8 ∧ (headM x).entry.len ≤ 96 := fun x => ⟨Nat.zero_le _, Nat.zero_le _, Nat.zero_le _, Nat.zero_le _⟩
  split at ht
  · obtain ⟨_, _, e⟩ := ht; rw [e]; exact z m
  split at ht
  · obtain ⟨_, _, _, e⟩ := ht; rw [e]; exact z m
  split at ht
  · obtain ⟨_, e⟩ := ht; rw [e]; exact z m
  split at ht
  · obtain ⟨_, _, f, e⟩ := ht; have := z m; rw [e]; exact ⟨f, this.2.1, this.2.2.1, this.2.2.2⟩
  split at ht
  · obtain ⟨_, _, f, f', _, _, e⟩ := ht; have := z m; rw [e]; exact ⟨this.1, by simp only; omega, by simp only; omega, this.2.2.2⟩
  split at ht
  · obtain ⟨_, g, e⟩ := ht
    have := z m
    have q : m.entry.len ≤ 96 := by
      obtain ⟨_, _, _, _, g1, g2, g3⟩ := g
      unfold Entry.len; omega
    rw [e]; exact ⟨this.1, this.2.1, this.2.2.1, q⟩
  · rw [ht]; exact z m
end Go.Proofs.Ytapmpenkceomdaa
/- The plain law of frames. -/
set_option linter.unusedSimpArgs false
set_option linter.unusedVariables false
set_option maxRecDepth 20000
namespace Go.Proofs.Ytapmpenkceomdaa
open Go.Ab

theorem msgB_ne (m : Msg) : msgB m ≠ [] := by
  intro h
  have : vnum (heldN m.kind) = [] := by
    have := (List.append_eq_nil_iff.1 h).1
    rw [numsB_cons] at this
    exact (List.append_eq_nil_iff.1 this).1
  rw [vnum] at this
  split at this <;> cases this
/-- a message's frame -/
def frameB (m : Msg) : List UInt8 := four (msgB m)
theorem wrap_good {m : Msg} (h : goodM m) : (if encP m = [] then [] else four (encP m)) = frameB m := by
  rw [encP_good h, if_neg (msgB_ne m)]; rfl
theorem le4_length (c : Nat) : (le4 c).length = 4 := rfl
theorem frame_len (m : Msg) : (frameB m).length = (msgB m).length + 4 := by simp [frameB, four, le4_length]; omega
theorem frame_five (m : Msg) : 5 ≤ (frameB m).length := by
  have := List.length_pos_iff.2 (msgB_ne m)
  rw [frame_len]; omega
theorem frame_drop (m : Msg) : (frameB m).drop 4 = msgB m := rfl
theorem frame_sound (m : Msg) : isSound (frameB m) = true := by
  unfold isSound
  rw [frame_drop, show (frameB m).take 4 = le4 (crcSum (msgB m)) from rfl]
  have := frame_five m
  simp; omega
theorem open_frame {m : Msg} (h : goodM m) : openM (frameB m) = (m, true) := by
  unfold openM
  rw [frame_sound, frame_drop, decM_good h]; rfl
theorem open_twice {m : Msg} (h : goodM m) {l : List UInt8} (hl : l ≠ []) : openM (frameB m ++ l) = (zeroM, false) := by
  unfold openM
  have e : (frameB m ++ l).drop 4 = msgB m ++ l := rfl
  rw [e, decM_more h hl, Bool.and_false]; rfl
theorem open_short {l : List UInt8} (h : l.length < 4) : openM l = (zeroM, false) := by
  unfold openM isSound
  rw [decide_eq_false (show ¬ 4 ≤ l.length by omega)]; rfl
theorem frame_inj {x y : Msg} (hx : goodM x) (hy : goodM y) : decide (frameB x = frameB y) = decide (x = y) := by
  rw [decide_eq_decide]
  constructor
  · intro e
    have := open_frame hx
    rw [e, open_frame hy] at this
    exact (congrArg Prod.fst this).symm
  · rintro rfl; rfl
theorem good_max {m : Msg} (h : goodM m) : (msgB m).length ≤ 296 := by
  obtain ⟨l1, l2, l3, l4⟩ := good_lens h
  have q0 := numsB_len [m.kind, m.src, m.dst, m.view]
  have q2 := numsB_len [m.inst, m.len, if m.has then 1 else 0]
  have q3 := numsB_len [m.members, m.source, m.len]
  have q4 := numsB_len [m.place]
  have q5 := numsB_len [m.place, m.total]
  have q7 := numsB_len [m.hop, m.seq]
  have q8 := numsB_len [m.index]
  have qh := numsB_len m.have_
  have qn := numsB_len m.need
  have vh := vnum_len10 m.have_.length (by omega)
  have vn := vnum_len10 m.need.length (by omega)
  have vd := vbytes_len m.data (by omega)
  have e1 := numsB_len [m.entry.sess, m.entry.seq, m.entry.kind, m.entry.who]
  unfold Entry.len at l4
  have e2 := vbytes_len m.entry.key (by omega)
  have e3 := vbytes_len m.entry.val (by omega)
  have e4 := vbytes_len m.entry.old (by omega)
  simp only [List.length_cons, List.length_nil] at q0 q2 q3 q4 q5 q7 q8 e1
  unfold msgB tailB
  rw [List.length_append]
  generalize (if m.has = true then (1 : Int) else 0) = z at q2 ⊢
  (repeat' split) <;> (try simp only [List.length_append, List.length_nil, putEntry, List.flatMap_cons, List.flatMap_nil]) <;> omega
end Go.Proofs.Ytapmpenkceomdaa
/- FramShort's own function. -/
set_option linter.unusedSimpArgs false
set_option linter.unusedVariables false
set_option maxRecDepth 20000
namespace Go.Proofs.Ytapmpenkceomdaa
open Go.Ab

variable {n d : Nat} {h : AHeap}

set_option maxHeartbeats 1000000 in
theorem short_spec (hd : 9 ≤ d) (hn : 2 ^ 50 ≤ n) (a b p q at_ by_ : Int) (h : AHeap) : ∃ v' h', aCall Try.prog n d 13 [.int .i64 a, .int .i64 b, .int .i64 p, .int .i64 q, .int .i64 at_, .int .u8 by_] h = some (v', h') ∧ v' = .bool true := by
  obtain ⟨d, rfl, hd⟩ := depth hd
  have gx := msg_good a b
  have gy := msg_good p q
  have lx := good_lens gx
  have ly := good_lens gy
  have mx := good_max gx
  have my := good_max gy
  have fx := frame_len (msgOf a b)
  have fy := frame_len (msgOf p q)
  have f5x := frame_five (msgOf a b)
  have f5y := frame_five (msgOf p q)
  refine call_of t13 (Nat.le_of_ble_eq_true rfl) ?_
  simp only [c13, run, Option.map_some, Nat.reduceEqDiff, Nat.reduceAdd, Nat.zero_add, ↓reduceIte, decide_eq_true_eq, decide_true, decide_false, Bool.not_true, Bool.not_false, Bool.true_eq_false, Bool.false_eq_true, List.getElem?_cons_zero, List.getElem?_cons_succ, List.nil_append, List.cons_append, reduceCtorEq, eq_self, decide_eq_false_iff_not, not_true_eq_false, not_false_eq_true, Nat.add_zero, Nat.succ_ne_self, Nat.one_ne_zero, Nat.zero_ne_one]
  refine use (msg_spec (by omega) (by omega) a b _) ?_
  rintro _ h1 ⟨x1, cs, rfl, rx⟩
  have n1 := x1.next
  simp only [run, Option.map_some, Nat.reduceEqDiff, Nat.reduceAdd, Nat.zero_add, ↓reduceIte, decide_eq_true_eq, decide_true, decide_false, Bool.not_true, Bool.not_false, Bool.true_eq_false, Bool.false_eq_true, List.getElem?_cons_zero, List.getElem?_cons_succ, List.nil_append, List.cons_append, reduceCtorEq, eq_self, decide_eq_false_iff_not, not_true_eq_false, not_false_eq_true, Nat.add_zero, Nat.succ_ne_self, Nat.one_ne_zero, Nat.zero_ne_one]
  refine use (msg_spec (by omega) (by omega) p q _) ?_
  rintro _ h2 ⟨x2, ct, rfl, ry⟩
  have n2 := x2.next
  have rx2 := rx.keep x2 (Nat.le_refl _)
  simp only [run, Option.map_some, Nat.reduceEqDiff, Nat.reduceAdd, Nat.zero_add, ↓reduceIte, decide_eq_true_eq, decide_true, decide_false, Bool.not_true, Bool.not_false, Bool.true_eq_false, Bool.false_eq_true, List.getElem?_cons_zero, List.getElem?_cons_succ, List.nil_append, List.cons_append, reduceCtorEq, eq_self, decide_eq_false_iff_not, not_true_eq_false, not_false_eq_true, Nat.add_zero, Nat.succ_ne_self, Nat.one_ne_zero, Nat.zero_ne_one]
  obtain ⟨h3, eh3, x3, n3, g3⟩ := boxed h2 ⟨[.int .i64 0, .int .i64 0, .int .i64 0, .int .i64 0, .int .i64 0, .int .i64 0, .bool false, .int .i64 0, .int .i64 0, .int .i64 0, .int .i64 0, .slice none 0 0, .int .i64 0, .int .i64 0, .slice none 0 0, .slice none 0 0, .int .i64 0, .int .i64 0, .int .i64 0, .int .i64 0, .int .i64 0, .slice none 0 0, .slice none 0 0, .slice none 0 0], 24, 0, none⟩
  rw [eh3]
  obtain ⟨h4, eh4, x4, n4, g4⟩ := boxed h3 ⟨[.int .i64 0, .int .i64 0, .int .i64 0, .int .i64 0, .int .i64 0, .int .i64 0, .bool false, .int .i64 0, .int .i64 0, .int .i64 0, .int .i64 0, .slice none 0 0, .int .i64 0, .int .i64 0, .slice none 0 0, .slice none 0 0, .int .i64 0, .int .i64 0, .int .i64 0, .int .i64 0, .int .i64 0, .slice none 0 0, .slice none 0 0, .slice none 0 0], 24, 0, none⟩
  rw [eh4]
  obtain ⟨h5, eh5, n5, x5, g5⟩ := stoW (k := 24) (blk0 x4 g3 (by omega)) rx2.length rfl rx2.cells rx2.ne
  obtain ⟨h6, eh6, n6, x6, g6⟩ := stoW (k := 24) (blk x5 g4 (by omega) (show ¬ h3.next = h2.next by omega)) ry.length rfl ry.cells ry.ne
  have g56 := blk x6 g5 (by omega) (show ¬ h2.next = h3.next by omega)
  have x26 : Ext no h2.next h2 h6 := ((x3.trans x4 (by omega)).then x5 (by omega) (fun m hm (e : m = h2.next) => by omega)).then x6 (by omega) (fun m hm (e : m = h3.next) => by omega)
  have rx6 := (rx2.keep x26 (by omega)).more (Nat.zero_le _) (show h1.next ≤ h6.next by omega)
  have ry6 := (ry.keep x26 (by omega)).more (Nat.zero_le _) (show h2.next ≤ h6.next by omega)
  refine use1 eh5 ?_
  simp only [run, Option.map_some, Nat.reduceEqDiff, Nat.reduceAdd, Nat.zero_add, ↓reduceIte, decide_eq_true_eq, decide_true, decide_false, Bool.not_true, Bool.not_false, Bool.true_eq_false, Bool.false_eq_true, List.getElem?_cons_zero, List.getElem?_cons_succ, List.nil_append, List.cons_append, reduceCtorEq, eq_self, decide_eq_false_iff_not, not_true_eq_false, not_false_eq_true, Nat.add_zero, Nat.succ_ne_self, Nat.one_ne_zero, Nat.zero_ne_one]
  refine use1 eh6 ?_
  simp only [run, Option.map_some, Nat.reduceEqDiff, Nat.reduceAdd, Nat.zero_add, ↓reduceIte, decide_eq_true_eq, decide_true, decide_false, Bool.not_true, Bool.not_false, Bool.true_eq_false, Bool.false_eq_true, List.getElem?_cons_zero, List.getElem?_cons_succ, List.nil_append, List.cons_append, reduceCtorEq, eq_self, decide_eq_false_iff_not, not_true_eq_false, not_false_eq_true, Nat.add_zero, Nat.succ_ne_self, Nat.one_ne_zero, Nat.zero_ne_one, rund, List.contains_cons, List.contains_nil, Nat.reduceBEq, Bool.and_true, Bool.true_and, Bool.and_false, Bool.false_and, Bool.or_false, Bool.or_true, Bool.false_or, Bool.true_or, true_or, or_true, true_and, and_true, beq_self_eq_true, ld_whole (k := 24) g56 (by decide) rx6.length]
  refine use (wrap_spec (by omega) (by omega) rx6 (good_small (by omega) lx) (by rw [encP_good gx]; omega)) ?_
  rintro v7 h7 ⟨x7, o7⟩
  rw [wrap_good gx] at o7
  have n7 := x7.next
  have l36 : h3.next < h6.next := by omega
  have ga7 := blk0 x7 g56 (by omega)
  have gb7 := blk0 x7 g6 (by omega)
  have ry7 := (ry6.keep x7 (Nat.le_refl _)).more (Nat.le_refl 0) (show h6.next ≤ h7.next by omega)
  have rx7 := (rx6.keep x7 (Nat.le_refl _)).more (Nat.le_refl 0) (show h6.next ≤ h7.next by omega)
  simp only [run, Option.map_some, Nat.reduceEqDiff, Nat.reduceAdd, Nat.zero_add, ↓reduceIte, decide_eq_true_eq, decide_true, decide_false, Bool.not_true, Bool.not_false, Bool.true_eq_false, Bool.false_eq_true, List.getElem?_cons_zero, List.getElem?_cons_succ, List.nil_append, List.cons_append, reduceCtorEq, eq_self, decide_eq_false_iff_not, not_true_eq_false, not_false_eq_true, Nat.add_zero, Nat.succ_ne_self, Nat.one_ne_zero, Nat.zero_ne_one, rund, List.contains_cons, List.contains_nil, Nat.reduceBEq, Bool.and_true, Bool.true_and, Bool.and_false, Bool.false_and, Bool.or_false, Bool.or_true, Bool.false_or, Bool.true_or, true_or, or_true, true_and, and_true, beq_self_eq_true, ld_whole (k := 24) gb7 (by decide) ry7.length, ld_whole (k := 24) g6 (by decide) ry7.length, ry7.beq, l36]
  refine use (wrap_spec (by omega) (by omega) ry7 (good_small (by omega) ly) (by rw [encP_good gy]; omega)) ?_
  rintro v8 h8 ⟨x8, o8⟩
  rw [wrap_good gy] at o8
  have n8 := x8.next
  have ga8 := blk0 x8 ga7 (by omega)
  have gb8 := blk0 x8 gb7 (by omega)
  have o78 := o7.sl.keep x8 (Nat.le_refl _)
  have cx : ((((frameB (msgOf a b)).length : Nat) : Int) < 5) = False := eq_false (by omega)
  have cy : ((((frameB (msgOf p q)).length : Nat) : Int) < 5) = False := eq_false (by omega)
  simp only [run, Option.map_some, Nat.reduceEqDiff, Nat.reduceAdd, Nat.zero_add, ↓reduceIte, decide_eq_true_eq, decide_true, decide_false, Bool.not_true, Bool.not_false, Bool.true_eq_false, Bool.false_eq_true, List.getElem?_cons_zero, List.getElem?_cons_succ, List.nil_append, List.cons_append, reduceCtorEq, eq_self, decide_eq_false_iff_not, not_true_eq_false, not_false_eq_true, Nat.add_zero, Nat.succ_ne_self, Nat.one_ne_zero, Nat.zero_ne_one, rund, List.contains_cons, List.contains_nil, Nat.reduceBEq, Bool.and_true, Bool.true_and, Bool.and_false, Bool.false_and, Bool.or_false, Bool.or_true, Bool.false_or, Bool.true_or, true_or, or_true, true_and, and_true, beq_self_eq_true, ld_whole (k := 24) gb8 (by decide) ry7.length, ry7.beq, lenB o78, lenB o8.sl, cx, cy]
  refine use (open_spec (by omega) (by omega) (o78.more (Nat.zero_le _) (by omega)) (by omega) (by omega)) ?_
  rintro _ h9 ⟨x9, cu, rfl, ru⟩
  rw [open_frame gx] at ru
  have n9 := x9.next
  simp only [run, Option.map_some, Nat.reduceEqDiff, Nat.reduceAdd, Nat.zero_add, ↓reduceIte, decide_eq_true_eq, decide_true, decide_false, Bool.not_true, Bool.not_false, Bool.true_eq_false, Bool.false_eq_true, List.getElem?_cons_zero, List.getElem?_cons_succ, List.nil_append, List.cons_append, reduceCtorEq, eq_self, decide_eq_false_iff_not, not_true_eq_false, not_false_eq_true, Nat.add_zero, Nat.succ_ne_self, Nat.one_ne_zero, Nat.zero_ne_one, ext_t, open_frame gx]
  obtain ⟨h10, eh10, x10, n10, g10⟩ := boxed h9 ⟨[.int .i64 0, .int .i64 0, .int .i64 0, .int .i64 0, .int .i64 0, .int .i64 0, .bool false, .int .i64 0, .int .i64 0, .int .i64 0, .int .i64 0, .slice none 0 0, .int .i64 0, .int .i64 0, .slice none 0 0, .slice none 0 0, .int .i64 0, .int .i64 0, .int .i64 0, .int .i64 0, .int .i64 0, .slice none 0 0, .slice none 0 0, .slice none 0 0], 24, 0, none⟩
  rw [eh10]
  obtain ⟨h11, eh11, n11, x11, g11⟩ := stoW (k := 24) g10 ru.length rfl ru.cells ru.ne
  have x9t : Ext no h9.next h9 h11 := x10.then x11 (by omega) (fun m hm (e : m = h9.next) => by omega)
  have x8t : Ext no h8.next h8 h11 := x9.trans x9t (by omega)
  refine use1 eh11 ?_
  simp only [run, Option.map_some, Nat.reduceEqDiff, Nat.reduceAdd, Nat.zero_add, ↓reduceIte, decide_eq_true_eq, decide_true, decide_false, Bool.not_true, Bool.not_false, Bool.true_eq_false, Bool.false_eq_true, List.getElem?_cons_zero, List.getElem?_cons_succ, List.nil_append, List.cons_append, reduceCtorEq, eq_self, decide_eq_false_iff_not, not_true_eq_false, not_false_eq_true, Nat.add_zero, Nat.succ_ne_self, Nat.one_ne_zero, Nat.zero_ne_one]
  refine use (open_spec (by omega) (by omega) ((o8.sl.keep x8t (Nat.le_refl _)).more (Nat.zero_le _) (by omega)) (by omega) (by omega)) ?_
  rintro _ h12 ⟨x12, cv, rfl, rv⟩
  rw [open_frame gy] at rv
  have n12 := x12.next
  simp only [run, Option.map_some, Nat.reduceEqDiff, Nat.reduceAdd, Nat.zero_add, ↓reduceIte, decide_eq_true_eq, decide_true, decide_false, Bool.not_true, Bool.not_false, Bool.true_eq_false, Bool.false_eq_true, List.getElem?_cons_zero, List.getElem?_cons_succ, List.nil_append, List.cons_append, reduceCtorEq, eq_self, decide_eq_false_iff_not, not_true_eq_false, not_false_eq_true, Nat.add_zero, Nat.succ_ne_self, Nat.one_ne_zero, Nat.zero_ne_one, ext_t, open_frame gy]
  obtain ⟨h13, eh13, x13, n13, g13⟩ := boxed h12 ⟨[.int .i64 0, .int .i64 0, .int .i64 0, .int .i64 0, .int .i64 0, .int .i64 0, .bool false, .int .i64 0, .int .i64 0, .int .i64 0, .int .i64 0, .slice none 0 0, .int .i64 0, .int .i64 0, .slice none 0 0, .slice none 0 0, .int .i64 0, .int .i64 0, .int .i64 0, .int .i64 0, .int .i64 0, .slice none 0 0, .slice none 0 0, .slice none 0 0], 24, 0, none⟩
  rw [eh13]
  obtain ⟨h14, eh14, n14, x14, g14⟩ := stoW (k := 24) g13 rv.length rfl rv.cells rv.ne
  have x12t : Ext no h12.next h12 h14 := x13.then x14 (by omega) (fun m hm (e : m = h12.next) => by omega)
  have x11t : Ext no h11.next h11 h14 := x12.trans x12t (by omega)
  refine use1 eh14 ?_
  simp only [run, Option.map_some, Nat.reduceEqDiff, Nat.reduceAdd, Nat.zero_add, ↓reduceIte, decide_eq_true_eq, decide_true, decide_false, Bool.not_true, Bool.not_false, Bool.true_eq_false, Bool.false_eq_true, List.getElem?_cons_zero, List.getElem?_cons_succ, List.nil_append, List.cons_append, reduceCtorEq, eq_self, decide_eq_false_iff_not, not_true_eq_false, not_false_eq_true, Nat.add_zero, Nat.succ_ne_self, Nat.one_ne_zero, Nat.zero_ne_one]
  refine useE (bslice_zero _ _ _ rfl (by decide)) ?_
  (try simp only [run, Option.map_some, Nat.reduceEqDiff, Nat.reduceAdd, Nat.zero_add, ↓reduceIte, decide_eq_true_eq, decide_true, decide_false, Bool.not_true, Bool.not_false, Bool.true_eq_false, Bool.false_eq_true, List.getElem?_cons_zero, List.getElem?_cons_succ, List.nil_append, List.cons_append, reduceCtorEq, eq_self, decide_eq_false_iff_not, not_true_eq_false, not_false_eq_true, Nat.add_zero, Nat.succ_ne_self, Nat.one_ne_zero, Nat.zero_ne_one])
  obtain ⟨h15, eh15, x15, n15, g15⟩ := boxed h14 ⟨[], 1, 0, none⟩
  have o15 : OwnB h14.next h15 (.slice (some ⟨h14.next, 0, none⟩) 0 0) [] := by rw [← eh15]; exact Own.mk (Nat.le_refl _) rfl
  rw [eh15]
  have x815 : Ext no h8.next h8 h15 := (x8t.trans x11t (by omega)).trans x15 (by omega)
  have a15 := o78.keep x815 (by omega)
  refine use (appendB (n := 2 ^ 46) o15 (by omega) a15 (by simp; omega) (by decide)) ?_
  rintro v16 h16 ⟨x16, o16⟩
  have n16 := x16.next
  simp only [run, Option.map_some, Nat.reduceEqDiff, Nat.reduceAdd, Nat.zero_add, ↓reduceIte, decide_eq_true_eq, decide_true, decide_false, Bool.not_true, Bool.not_false, Bool.true_eq_false, Bool.false_eq_true, List.getElem?_cons_zero, List.getElem?_cons_succ, List.nil_append, List.cons_append, reduceCtorEq, eq_self, decide_eq_false_iff_not, not_true_eq_false, not_false_eq_true, Nat.add_zero, Nat.succ_ne_self, Nat.one_ne_zero, Nat.zero_ne_one]
  have a16 := a15.keep (x16.less (lo' := h7.next) (by omega)) (by omega)
  refine use (appendB (n := 2 ^ 46) o16 (by omega) a16 (by simp; omega) (by decide)) ?_
  rintro v17 h17 ⟨x17, o17⟩
  have n17 := x17.next
  rw [List.nil_append] at o17
  simp only [run, Option.map_some, Nat.reduceEqDiff, Nat.reduceAdd, Nat.zero_add, ↓reduceIte, decide_eq_true_eq, decide_true, decide_false, Bool.not_true, Bool.not_false, Bool.true_eq_false, Bool.false_eq_true, List.getElem?_cons_zero, List.getElem?_cons_succ, List.nil_append, List.cons_append, reduceCtorEq, eq_self, decide_eq_false_iff_not, not_true_eq_false, not_false_eq_true, Nat.add_zero, Nat.succ_ne_self, Nat.one_ne_zero, Nat.zero_ne_one]
  refine use (open_spec (by omega) (by omega) (o17.sl.more (Nat.zero_le _) (Nat.le_refl _)) (by simp; omega) (by simp; omega)) ?_
  have fne : frameB (msgOf a b) ≠ [] := by intro e; rw [e] at f5x; simp at f5x
  rintro _ h18 ⟨x18, cw, rfl, rw_⟩
  rw [open_twice gx fne] at rw_
  have n18 := x18.next
  simp only [run, Option.map_some, Nat.reduceEqDiff, Nat.reduceAdd, Nat.zero_add, ↓reduceIte, decide_eq_true_eq, decide_true, decide_false, Bool.not_true, Bool.not_false, Bool.true_eq_false, Bool.false_eq_true, List.getElem?_cons_zero, List.getElem?_cons_succ, List.nil_append, List.cons_append, reduceCtorEq, eq_self, decide_eq_false_iff_not, not_true_eq_false, not_false_eq_true, Nat.add_zero, Nat.succ_ne_self, Nat.one_ne_zero, Nat.zero_ne_one, ext_t, open_twice gx fne]
  obtain ⟨h19, eh19, x19, n19, g19⟩ := boxed h18 ⟨[.int .i64 0, .int .i64 0, .int .i64 0, .int .i64 0, .int .i64 0, .int .i64 0, .bool false, .int .i64 0, .int .i64 0, .int .i64 0, .int .i64 0, .slice none 0 0, .int .i64 0, .int .i64 0, .slice none 0 0, .slice none 0 0, .int .i64 0, .int .i64 0, .int .i64 0, .int .i64 0, .int .i64 0, .slice none 0 0, .slice none 0 0, .slice none 0 0], 24, 0, none⟩
  rw [eh19]
  obtain ⟨h20, eh20, n20, x20, g20⟩ := stoW (k := 24) g19 rw_.length rfl rw_.cells rw_.ne
  have x18t : Ext no h18.next h18 h20 := x19.then x20 (by omega) (fun m hm (e : m = h18.next) => by omega)
  have x1420 : Ext no h14.next h14 h20 := ((x15.trans (x16.trans x17 (by omega)) (by omega)).trans x18 (by omega)).trans x18t (by omega)
  have x11s : Ext no h11.next h11 h20 := x11t.trans x1420 (by omega)
  have x8s : Ext no h8.next h8 h20 := x8t.trans x11s (by omega)
  have a20 := o78.keep x8s (by omega)
  have b20 := o8.sl.keep x8s (by omega)
  have ru20 : RepM 0 h20.next h20 cu (msgOf a b) := ((ru.keep x9t (by omega)).keep x11s (by omega)).more (Nat.zero_le _) (show h9.next ≤ h20.next by omega)
  have rv20 : RepM 0 h20.next h20 cv (msgOf p q) := ((rv.keep x12t (by omega)).keep x1420 (by omega)).more (Nat.zero_le _) (show h12.next ≤ h20.next by omega)
  have Wu := ld_whole (k := 24) (blk0 x11s g11 (by omega)) (by decide) ru20.length
  have Wv := ld_whole (k := 24) (blk0 x1420 g14 (by omega)) (by decide) rv20.length
  refine use1 eh20 ?_
  simp only [run, Option.map_some, Nat.reduceEqDiff, Nat.reduceAdd, Nat.zero_add, ↓reduceIte, decide_eq_true_eq, decide_true, decide_false, Bool.not_true, Bool.not_false, Bool.true_eq_false, Bool.false_eq_true, List.getElem?_cons_zero, List.getElem?_cons_succ, List.nil_append, List.cons_append, reduceCtorEq, eq_self, decide_eq_false_iff_not, not_true_eq_false, not_false_eq_true, Nat.add_zero, Nat.succ_ne_self, Nat.one_ne_zero, Nat.zero_ne_one, rund, List.contains_cons, List.contains_nil, Nat.reduceBEq, Bool.and_true, Bool.true_and, Bool.and_false, Bool.false_and, Bool.or_false, Bool.or_true, Bool.false_or, Bool.true_or, true_or, or_true, true_and, and_true, beq_self_eq_true, b2tB a20, b2tB b20, str_eq, Wu, Wv]
  refine use (rsame_spec (by omega) ru20 rv20 (by omega) (by omega) (by omega) (by omega)) ?_
  rintro _ h21 ⟨rfl, x21⟩
  have n21 := x21.next
  have a21 := a20.keep x21 (by omega)
  have b21 := b20.keep x21 (by omega)
  have fi := frame_inj gx gy
  have a85 : binV .and 0 (.int .i64 at_) (.int .i64 65535) = some (.int .i64 ((andN at_ 65535 : Nat) : Int)) := b_andI 0 at_ 65535 (by decide)
  have a86 : binV .rem 0 (.int .i64 ((andN at_ 65535 : Nat) : Int)) (.int .i64 4) = some (.int .i64 ((andN at_ 65535 % 4 : Nat) : Int)) := b_remN 0 _ 4 (by decide)
  have hk : andN at_ 65535 % 4 < 4 := Nat.mod_lt _ (by decide)
  generalize hK : andN at_ 65535 % 4 = K at *
  obtain ⟨w, b1, b2⟩ := cutB a21 (a := 0) (b := K) (by omega) (by omega)
  have b3 := b2 none (some (.int .i64 ((K : Nat) : Int))) (.inr ⟨rfl, rfl⟩) (.inl rfl)
  simp only [run, Option.map_some, Nat.reduceEqDiff, Nat.reduceAdd, Nat.zero_add, ↓reduceIte, decide_eq_true_eq, decide_true, decide_false, Bool.not_true, Bool.not_false, Bool.true_eq_false, Bool.false_eq_true, List.getElem?_cons_zero, List.getElem?_cons_succ, List.nil_append, List.cons_append, reduceCtorEq, eq_self, decide_eq_false_iff_not, not_true_eq_false, not_false_eq_true, Nat.add_zero, Nat.succ_ne_self, Nat.one_ne_zero, Nat.zero_ne_one, rund, List.contains_cons, List.contains_nil, Nat.reduceBEq, Bool.and_true, Bool.true_and, Bool.and_false, Bool.false_and, Bool.or_false, Bool.or_true, Bool.false_or, Bool.true_or, true_or, or_true, true_and, and_true, beq_self_eq_true, b2tB a21, b2tB b21, b2tB a20, b2tB b20, fi, bne_self_eq_false, a85, a86, b3]
  have sl : (((frameB (msgOf a b)).drop 0).take (K - 0)).length < 4 := by rw [List.length_take]; omega
  refine use (open_spec (by omega) (by omega) (b1.more (Nat.zero_le _) (by omega)) (by omega) (by omega)) ?_
  rintro _ h22 ⟨x22, cz, rfl, rz⟩
  rw [open_short sl] at rz
  have n22 := x22.next
  simp only [run, Option.map_some, Nat.reduceEqDiff, Nat.reduceAdd, Nat.zero_add, ↓reduceIte, decide_eq_true_eq, decide_true, decide_false, Bool.not_true, Bool.not_false, Bool.true_eq_false, Bool.false_eq_true, List.getElem?_cons_zero, List.getElem?_cons_succ, List.nil_append, List.cons_append, reduceCtorEq, eq_self, decide_eq_false_iff_not, not_true_eq_false, not_false_eq_true, Nat.add_zero, Nat.succ_ne_self, Nat.one_ne_zero, Nat.zero_ne_one, ext_t, open_short sl]
  obtain ⟨h23, eh23, x23, n23, g23⟩ := boxed h22 ⟨[.int .i64 0, .int .i64 0, .int .i64 0, .int .i64 0, .int .i64 0, .int .i64 0, .bool false, .int .i64 0, .int .i64 0, .int .i64 0, .int .i64 0, .slice none 0 0, .int .i64 0, .int .i64 0, .slice none 0 0, .slice none 0 0, .int .i64 0, .int .i64 0, .int .i64 0, .int .i64 0, .int .i64 0, .slice none 0 0, .slice none 0 0, .slice none 0 0], 24, 0, none⟩
  rw [eh23]
  obtain ⟨h24, eh24, n24, x24, g24⟩ := stoW (k := 24) g23 rz.length rfl rz.cells rz.ne
  refine use1 eh24 ?_
  simp only [run, Option.map_some, Nat.reduceEqDiff, Nat.reduceAdd, Nat.zero_add, ↓reduceIte, decide_eq_true_eq, decide_true, decide_false, Bool.not_true, Bool.not_false, Bool.true_eq_false, Bool.false_eq_true, List.getElem?_cons_zero, List.getElem?_cons_succ, List.nil_append, List.cons_append, reduceCtorEq, eq_self, decide_eq_false_iff_not, not_true_eq_false, not_false_eq_true, Nat.add_zero, Nat.succ_ne_self, Nat.one_ne_zero, Nat.zero_ne_one]
  refine use (awake69 (by omega) (by omega) _) ?_
  rintro _ h25 ⟨rfl, x25⟩
  simp only [run, Option.map_some, Nat.reduceEqDiff, Nat.reduceAdd, Nat.zero_add, ↓reduceIte, decide_eq_true_eq, decide_true, decide_false, Bool.not_true, Bool.not_false, Bool.true_eq_false, Bool.false_eq_true, List.getElem?_cons_zero, List.getElem?_cons_succ, List.nil_append, List.cons_append, reduceCtorEq, eq_self, decide_eq_false_iff_not, not_true_eq_false, not_false_eq_true, Nat.add_zero, Nat.succ_ne_self, Nat.one_ne_zero, Nat.zero_ne_one]
end Go.Proofs.Ytapmpenkceomdaa
