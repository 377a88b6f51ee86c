/- The clean code of pack, of the document's numbers, of sums, of rows. -/
import Derived.Test.YtapmpenkceomdaaAb23
import Derived.KernelRfl
import Derived.Test.YtapmpenkceomdaaProg
import Derived.Test.YtapmpenkceomdaaAb24
import Derived.Test.YtapmpenkceomdaaAb25
import Derived.Laws.Strings
set_option linter.unusedSimpArgs false
set_option linter.unusedVariables false
set_option maxRecDepth 20000
namespace Go.Proofs.Ytapmpenkceomdaa
open Go.Ab
set_option maxRecDepth 100000
noncomputable def c105 : TFn := ⟨(.seq (.ops [⟨some 4, (.mv (.c (.int .i64 0))), none⟩]) (.seq (.ops [⟨some 5, (.mv (.c (.int .u64 0))), none⟩, ⟨some 6, (.mv (.c (.int .i64 0))), none⟩]) (.seq (.block 0 (.loop
    (.seq (.seq (.ops [⟨some 8, (.mv (.t 0)), none⟩, ⟨some 9, (.nilc (.t 8)), none⟩, ⟨some 10, (.faddr 1 (.t 9)), none⟩, ⟨some 11, (.load false 1 (.t 10)), none⟩, ⟨some 12, (.un .not
    (.t 11)), none⟩]) (.cond (.t 12) .skip (.exit 0))) (.block 1 (.seq (.seq (.ops [⟨some 13, (.mv (.t 6)), none⟩, ⟨some 14, (.mv (.t 0)), none⟩, ⟨some 15, (.nilc (.t 14)), none⟩,
    ⟨some 16, (.faddr 0 (.t 15)), none⟩, ⟨some 17, (.load false 1 (.t 16)), none⟩, ⟨some 18, (.lenS (.t 17)), none⟩, ⟨some 19, (.bin .geq 0 (.t 13) (.t 18)), none⟩, ⟨some 20, (.mv
    (.t 19)), none⟩, ⟨some 21, (.mv (.t 6)), some (20, false)⟩, ⟨some 22, (.bin .gtr 0 (.t 21) (.c (.int .i64 8))), some (20, false)⟩, ⟨some 23, (.pick (.t 20) (.c (.bool true)) (.t
    22)), none⟩]) (.cond (.t 23) (.seq (.ops [⟨some 24, (.mv (.t 0)), none⟩, ⟨some 25, (.nilc (.t 24)), none⟩, ⟨some 26, (.faddr 1 (.t 25)), none⟩, ⟨none, (.store 1 (.t 26) (.c
    (.bool true))), none⟩]) (.exit 0)) .skip)) (.seq (.ops [⟨some 27, (.mv (.t 0)), none⟩, ⟨some 28, (.nilc (.t 27)), none⟩, ⟨some 29, (.faddr 0 (.t 28)), none⟩, ⟨some 30, (.load
    false 1 (.t 29)), none⟩, ⟨some 31, (.mv (.t 6)), none⟩, ⟨some 32, (.iaddrS 1 (.t 30) (.t 31)), none⟩, ⟨some 33, (.load false 1 (.t 32)), none⟩, ⟨some 7, (.mv (.t 33)), none⟩])
    (.seq (.ops [⟨some 34, (.mv (.t 5)), none⟩, ⟨some 35, (.mv (.t 7)), none⟩, ⟨some 36, (.bin .and 0 (.t 35) (.c (.int .u8 127))), none⟩, ⟨some 37, (.conv .u64 (.t 36)), none⟩,
    ⟨some 38, (.mv (.t 6)), none⟩, ⟨some 39, (.bin .mul 0 (.c (.int .i64 7)) (.t 38)), none⟩, ⟨some 40, (.conv .u64 (.t 39)), none⟩, ⟨some 41, (.bin .shl 0 (.t 37) (.t 40)), none⟩,
    ⟨some 42, (.bin .or 0 (.t 34) (.t 41)), none⟩, ⟨some 5, (.mv (.t 42)), none⟩]) (.seq (.ops [⟨some 43, (.mv (.t 6)), none⟩, ⟨some 44, (.bin .add 0 (.t 43) (.c (.int .i64 1))),
    none⟩, ⟨some 6, (.mv (.t 44)), none⟩]) (.seq (.ops [⟨some 45, (.mv (.t 7)), none⟩, ⟨some 46, (.bin .lss 0 (.t 45) (.c (.int .u8 128))), none⟩]) (.cond (.t 46) (.seq (.seq (.ops
    [⟨some 47, (.mv (.t 7)), none⟩, ⟨some 48, (.bin .eql 0 (.t 47) (.c (.int .u8 0))), none⟩, ⟨some 49, (.mv (.t 48)), none⟩, ⟨some 50, (.mv (.t 6)), some (49, true)⟩, ⟨some 51,
    (.bin .gtr 0 (.t 50) (.c (.int .i64 1))), some (49, true)⟩, ⟨some 52, (.pick (.t 49) (.t 51) (.c (.bool false))), none⟩, ⟨some 53, (.mv (.t 52)), none⟩, ⟨some 54, (.mv (.t 5)),
    some (53, false)⟩, ⟨some 55, (.mv (.t 1)), some (53, false)⟩, ⟨some 56, (.mx [(.t 55), (.c (.int .i64 0))]), some (53, false)⟩, ⟨some 57, (.mn [(.t 56), (.c (.int .i64
    4611686018427387904))]), some (53, false)⟩, ⟨some 58, (.conv .u64 (.t 57)), some (53, false)⟩, ⟨some 59, (.bin .gtr 0 (.t 54) (.t 58)), some (53, false)⟩, ⟨some 60, (.pick (.t
    53) (.c (.bool true)) (.t 59)), none⟩]) (.cond (.t 60) (.seq (.ops [⟨some 61, (.mv (.t 0)), none⟩, ⟨some 62, (.nilc (.t 61)), none⟩, ⟨some 63, (.faddr 1 (.t 62)), none⟩, ⟨none,
    (.store 1 (.t 63) (.c (.bool true))), none⟩]) (.exit 0)) .skip)) (.seq (.ops [⟨some 64, (.mv (.t 0)), none⟩, ⟨some 65, (.mv (.t 0)), none⟩, ⟨some 66, (.nilc (.t 65)), none⟩,
    ⟨some 67, (.faddr 0 (.t 66)), none⟩, ⟨some 68, (.load false 1 (.t 67)), none⟩, ⟨some 69, (.mv (.t 6)), none⟩, ⟨some 70, (.sliceS 1 (.t 68) (some (.t 69)) none none), none⟩, ⟨some
    71, (.nilc (.t 64)), none⟩, ⟨some 72, (.faddr 0 (.t 71)), none⟩, ⟨none, (.store 1 (.t 72) (.t 70)), none⟩]) (.seq (.ops [⟨some 73, (.mv (.t 5)), none⟩, ⟨some 74, (.conv .i64 (.t
    73)), none⟩, ⟨some 4, (.mv (.t 74)), none⟩]) .ret))) .skip)))))))))) (.seq (.ops [⟨some 4, (.mv (.c (.int .i64 0))), none⟩]) .ret)))), 75, [(.t 4)]⟩
theorem t105 : tidyF Try.prog 105 = some c105 := by kernel_rfl
noncomputable def c106 : TFn := ⟨(.seq (.ops [⟨some 4, (.mv (.c (.slice none 0 0))), none⟩]) (.seq (.ops [⟨some 8, (.mv (.t 0)), none⟩, ⟨some 9, (.nilc (.t 8)), none⟩, ⟨some 10, (.faddr 0 (.t 9)), none⟩, ⟨some
    11, (.load false 1 (.t 10)), none⟩, ⟨some 5, (.mv (.t 11)), none⟩]) (.seq (.ops [⟨some 12, (.mv (.t 0)), none⟩, ⟨some 13, (.mv (.t 1)), none⟩, ⟨some 14, (.call (fnv 105) [(.t
    12), (.t 13)]), none⟩, ⟨some 6, (.mv (.t 14)), none⟩]) (.seq (.seq (.ops [⟨some 15, (.mv (.t 0)), none⟩, ⟨some 16, (.nilc (.t 15)), none⟩, ⟨some 17, (.faddr 1 (.t 16)), none⟩,
    ⟨some 18, (.load false 1 (.t 17)), none⟩, ⟨some 19, (.mv (.t 18)), none⟩, ⟨some 20, (.mv (.t 6)), some (19, false)⟩, ⟨some 21, (.mv (.t 0)), some (19, false)⟩, ⟨some 22, (.nilc
    (.t 21)), some (19, false)⟩, ⟨some 23, (.faddr 0 (.t 22)), some (19, false)⟩, ⟨some 24, (.load false 1 (.t 23)), some (19, false)⟩, ⟨some 25, (.lenS (.t 24)), some (19, false)⟩,
    ⟨some 26, (.bin .gtr 0 (.t 20) (.t 25)), some (19, false)⟩, ⟨some 27, (.pick (.t 19) (.c (.bool true)) (.t 26)), none⟩]) (.cond (.t 27) (.seq (.ops [⟨some 28, (.mv (.t 0)),
    none⟩, ⟨some 29, (.mv (.t 0)), none⟩, ⟨some 30, (.mv (.t 5)), none⟩, ⟨some 31, (.nilc (.t 28)), none⟩, ⟨some 32, (.faddr 1 (.t 31)), none⟩, ⟨none, (.store 1 (.t 32) (.c (.bool
    true))), none⟩, ⟨some 33, (.nilc (.t 29)), none⟩, ⟨some 34, (.faddr 0 (.t 33)), none⟩, ⟨none, (.store 1 (.t 34) (.t 30)), none⟩]) (.seq (.ops [⟨some 4, (.mv (.c (.slice none 0
    0))), none⟩]) .ret)) .skip)) (.seq (.ops [⟨some 35, (.bslice [(.int .u8 0)] 1 0 []), none⟩, ⟨some 36, (.mv (.t 0)), none⟩, ⟨some 37, (.nilc (.t 36)), none⟩, ⟨some 38, (.faddr 0
    (.t 37)), none⟩, ⟨some 39, (.load false 1 (.t 38)), none⟩, ⟨some 40, (.mv (.t 6)), none⟩, ⟨some 41, (.sliceS 1 (.t 39) none (some (.t 40)) none), none⟩, ⟨some 42, (.append 1 1
    (.t 35) (.t 41)), none⟩, ⟨some 7, (.mv (.t 42)), none⟩]) (.seq (.ops [⟨some 43, (.mv (.t 0)), none⟩, ⟨some 44, (.mv (.t 0)), none⟩, ⟨some 45, (.nilc (.t 44)), none⟩, ⟨some 46,
    (.faddr 0 (.t 45)), none⟩, ⟨some 47, (.load false 1 (.t 46)), none⟩, ⟨some 48, (.mv (.t 6)), none⟩, ⟨some 49, (.sliceS 1 (.t 47) (some (.t 48)) none none), none⟩, ⟨some 50,
    (.nilc (.t 43)), none⟩, ⟨some 51, (.faddr 0 (.t 50)), none⟩, ⟨none, (.store 1 (.t 51) (.t 49)), none⟩]) (.seq (.ops [⟨some 52, (.mv (.t 7)), none⟩, ⟨some 4, (.mv (.t 52)),
    none⟩]) .ret))))))), 53, [(.t 4)]⟩
theorem t106 : tidyF Try.prog 106 = some c106 := by kernel_rfl
noncomputable def c109 : TFn := ⟨(.seq (.ops [⟨some 2, (.mv (.c (.bool false))), none⟩]) (.seq (.ops [⟨some 3, (.mv (.t 0)), none⟩, ⟨some 4, (.nilc (.t 3)), none⟩, ⟨some 5, (.faddr 1 (.t 4)), none⟩, ⟨some 6,
    (.load false 1 (.t 5)), none⟩, ⟨some 7, (.un .not (.t 6)), none⟩, ⟨some 8, (.mv (.t 7)), none⟩, ⟨some 9, (.mv (.t 0)), some (8, true)⟩, ⟨some 10, (.nilc (.t 9)), some (8, true)⟩,
    ⟨some 11, (.faddr 0 (.t 10)), some (8, true)⟩, ⟨some 12, (.load false 1 (.t 11)), some (8, true)⟩, ⟨some 13, (.lenS (.t 12)), some (8, true)⟩, ⟨some 14, (.bin .eql 0 (.t 13) (.c
    (.int .i64 0))), some (8, true)⟩, ⟨some 15, (.pick (.t 8) (.t 14) (.c (.bool false))), none⟩, ⟨some 2, (.mv (.t 15)), none⟩]) .ret)), 16, [(.t 2)]⟩
theorem t109 : tidyF Try.prog 109 = some c109 := by kernel_rfl
noncomputable def c103 : TFn := ⟨(.seq (.ops [⟨some 4, (.mv (.c (.slice none 0 0))), none⟩]) (.seq (.ops [⟨some 5, (.mv (.t 0)), none⟩, ⟨some 6, (.mv (.t 1)), none⟩, ⟨some 7, (.lenS (.t 6)), none⟩, ⟨some 8,
    (.call (fnv 118) [(.t 5), (.t 7)]), none⟩, ⟨some 9, (.mv (.t 1)), none⟩, ⟨some 10, (.append 1 1 (.t 8) (.t 9)), none⟩, ⟨some 4, (.mv (.t 10)), none⟩]) .ret)), 11, [(.t 4)]⟩
theorem t103 : tidyF Try.prog 103 = some c103 := by kernel_rfl
noncomputable def c118 : TFn := ⟨(.seq (.ops [⟨some 4, (.mv (.c (.slice none 0 0))), none⟩]) (.seq (.ops [⟨some 6, (.bslice [(.int .u8 0)] 1 0 []), none⟩, ⟨some 7, (.mv (.t 0)), none⟩, ⟨some 8, (.append 1 1 (.t
    6) (.t 7)), none⟩, ⟨some 5, (.mv (.t 8)), none⟩]) (.seq (.ops [⟨some 9, (.mv (.t 1)), none⟩, ⟨some 10, (.mx [(.t 9), (.c (.int .i64 0))]), none⟩, ⟨some 11, (.mn [(.t 10), (.c
    (.int .i64 4611686018427387904))]), none⟩, ⟨some 1, (.mv (.t 11)), none⟩]) (.seq (.block 0 (.loop (.seq (.seq (.ops [⟨some 12, (.mv (.t 1)), none⟩, ⟨some 13, (.bin .gtr 0 (.t 12)
    (.c (.int .i64 127))), none⟩]) (.cond (.t 13) .skip (.exit 0))) (.block 1 (.seq (.ops [⟨some 14, (.mv (.t 5)), none⟩, ⟨some 15, (.mv (.t 1)), none⟩, ⟨some 16, (.bin .and 0 (.t
    15) (.c (.int .i64 127))), none⟩, ⟨some 17, (.bin .or 0 (.t 16) (.c (.int .i64 128))), none⟩, ⟨some 18, (.conv .u8 (.t 17)), none⟩, ⟨some 19, (.bslice [(.int .u8 0)] 1 1 [(0, (.t
    18))]), none⟩, ⟨some 20, (.append 1 1 (.t 14) (.t 19)), none⟩, ⟨some 5, (.mv (.t 20)), none⟩]) (.ops [⟨some 21, (.mv (.t 1)), none⟩, ⟨some 22, (.bin .shr 0 (.t 21) (.c (.int .u64
    7))), none⟩, ⟨some 1, (.mv (.t 22)), none⟩])))))) (.seq (.ops [⟨some 23, (.mv (.t 5)), none⟩, ⟨some 24, (.mv (.t 1)), none⟩, ⟨some 25, (.conv .u8 (.t 24)), none⟩, ⟨some 26,
    (.bslice [(.int .u8 0)] 1 1 [(0, (.t 25))]), none⟩, ⟨some 27, (.append 1 1 (.t 23) (.t 26)), none⟩, ⟨some 4, (.mv (.t 27)), none⟩]) .ret))))), 28, [(.t 4)]⟩
theorem t118 : tidyF Try.prog 118 = some c118 := by kernel_rfl
noncomputable def c117 : TFn := ⟨(.seq (.ops [⟨some 2, (.mv (.c (.int .u32 0))), none⟩]) (.seq (.ops [⟨some 3, (.mv (.c (.int .u32 4294967295))), none⟩]) (.seq (.seq (.ops [⟨some 4, (.mv (.c (.int .i64 0))),
    none⟩]) (.block 0 (.loop (.seq (.seq (.ops [⟨some 5, (.mv (.t 4)), none⟩, ⟨some 6, (.mv (.t 0)), none⟩, ⟨some 7, (.lenS (.t 6)), none⟩, ⟨some 8, (.bin .lss 0 (.t 5) (.t 7)),
    none⟩]) (.cond (.t 8) .skip (.exit 0))) (.seq (.block 1 (.ops [⟨some 11, (.mv (.t 3)), none⟩, ⟨some 12, (.mv (.t 0)), none⟩, ⟨some 13, (.mv (.t 4)), none⟩, ⟨some 14, (.iaddrS 1
    (.t 12) (.t 13)), none⟩, ⟨some 15, (.load false 1 (.t 14)), none⟩, ⟨some 16, (.call (fnv 164) [(.t 11), (.t 15)]), none⟩, ⟨some 3, (.mv (.t 16)), none⟩])) (.ops [⟨some 9, (.mv
    (.t 4)), none⟩, ⟨some 10, (.bin .add 0 (.t 9) (.c (.int .i64 1))), none⟩, ⟨some 4, (.mv (.t 10)), none⟩])))))) (.seq (.ops [⟨some 17, (.mv (.t 3)), none⟩, ⟨some 18, (.bin .xor 0
    (.t 17) (.c (.int .u32 4294967295))), none⟩, ⟨some 2, (.mv (.t 18)), none⟩]) .ret)))), 19, [(.t 2)]⟩
theorem t117 : tidyF Try.prog 117 = some c117 := by kernel_rfl
noncomputable def c164 : TFn := ⟨(.seq (.ops [⟨some 4, (.mv (.c (.int .u32 0))), none⟩]) (.seq (.ops [⟨some 7, (.mv (.t 0)), none⟩, ⟨some 8, (.mv (.t 1)), none⟩, ⟨some 9, (.conv .u32 (.t 8)), none⟩, ⟨some 10,
    (.bin .xor 0 (.t 7) (.t 9)), none⟩, ⟨some 0, (.mv (.t 10)), none⟩]) (.seq (.seq (.ops [⟨some 5, (.mv (.c (.int .i64 0))), none⟩]) (.block 0 (.loop (.seq (.seq (.ops [⟨some 11,
    (.mv (.t 5)), none⟩, ⟨some 12, (.bin .lss 0 (.t 11) (.c (.int .i64 8))), none⟩]) (.cond (.t 12) .skip (.exit 0))) (.seq (.block 1 (.seq (.ops [⟨some 15, (.mv (.t 0)), none⟩,
    ⟨some 16, (.bin .and 0 (.t 15) (.c (.int .u32 1))), none⟩, ⟨some 6, (.mv (.t 16)), none⟩]) (.seq (.ops [⟨some 17, (.mv (.t 0)), none⟩, ⟨some 18, (.bin .shr 0 (.t 17) (.c (.int
    .u64 1))), none⟩, ⟨some 0, (.mv (.t 18)), none⟩]) (.seq (.ops [⟨some 19, (.mv (.t 6)), none⟩, ⟨some 20, (.bin .eql 0 (.t 19) (.c (.int .u32 1))), none⟩]) (.cond (.t 20) (.ops
    [⟨some 21, (.mv (.t 0)), none⟩, ⟨some 22, (.bin .xor 0 (.t 21) (.c (.int .u32 3988292384))), none⟩, ⟨some 0, (.mv (.t 22)), none⟩]) .skip))))) (.ops [⟨some 13, (.mv (.t 5)),
    none⟩, ⟨some 14, (.bin .add 0 (.t 13) (.c (.int .i64 1))), none⟩, ⟨some 5, (.mv (.t 14)), none⟩])))))) (.seq (.ops [⟨some 23, (.mv (.t 0)), none⟩, ⟨some 4, (.mv (.t 23)), none⟩])
    .ret)))), 24, [(.t 4)]⟩
theorem t164 : tidyF Try.prog 164 = some c164 := by kernel_rfl
noncomputable def c122 : TFn := ⟨(.seq (.ops [⟨some 2, (.mv (.c (.slice none 0 0))), none⟩, ⟨some 3, (.mv (.c (.bool false))), none⟩]) (.seq (.seq (.ops [⟨some 5, (.mv (.t 0)), none⟩, ⟨some 6, (.lenS (.t 5)),
    none⟩, ⟨some 7, (.bin .lss 0 (.t 6) (.c (.int .i64 4))), none⟩]) (.cond (.t 7) (.seq (.ops [⟨some 2, (.mv (.c (.slice none 0 0))), none⟩, ⟨some 3, (.mv (.c (.bool false))),
    none⟩]) .ret) .skip)) (.seq (.ops [⟨some 8, (.mv (.t 0)), none⟩, ⟨some 9, (.sliceS 1 (.t 8) (some (.c (.int .i64 4))) none none), none⟩, ⟨some 10, (.call (fnv 117) [(.t 9)]),
    none⟩, ⟨some 4, (.mv (.t 10)), none⟩]) (.seq (.seq (.ops [⟨some 11, (.mv (.t 0)), none⟩, ⟨some 12, (.iaddrS 1 (.t 11) (.c (.int .i64 0))), none⟩, ⟨some 13, (.load false 1 (.t
    12)), none⟩, ⟨some 14, (.mv (.t 4)), none⟩, ⟨some 15, (.conv .u8 (.t 14)), none⟩, ⟨some 16, (.bin .neq 0 (.t 13) (.t 15)), none⟩, ⟨some 17, (.mv (.t 16)), none⟩, ⟨some 18, (.mv
    (.t 0)), some (17, false)⟩, ⟨some 19, (.iaddrS 1 (.t 18) (.c (.int .i64 1))), some (17, false)⟩, ⟨some 20, (.load false 1 (.t 19)), some (17, false)⟩, ⟨some 21, (.mv (.t 4)),
    some (17, false)⟩, ⟨some 22, (.bin .shr 0 (.t 21) (.c (.int .u64 8))), some (17, false)⟩, ⟨some 23, (.conv .u8 (.t 22)), some (17, false)⟩, ⟨some 24, (.bin .neq 0 (.t 20) (.t
    23)), some (17, false)⟩, ⟨some 25, (.pick (.t 17) (.c (.bool true)) (.t 24)), none⟩, ⟨some 26, (.mv (.t 25)), none⟩, ⟨some 27, (.mv (.t 0)), some (26, false)⟩, ⟨some 28, (.iaddrS
    1 (.t 27) (.c (.int .i64 2))), some (26, false)⟩, ⟨some 29, (.load false 1 (.t 28)), some (26, false)⟩, ⟨some 30, (.mv (.t 4)), some (26, false)⟩, ⟨some 31, (.bin .shr 0 (.t 30)
    (.c (.int .u64 16))), some (26, false)⟩, ⟨some 32, (.conv .u8 (.t 31)), some (26, false)⟩, ⟨some 33, (.bin .neq 0 (.t 29) (.t 32)), some (26, false)⟩, ⟨some 34, (.pick (.t 26)
    (.c (.bool true)) (.t 33)), none⟩, ⟨some 35, (.mv (.t 34)), none⟩, ⟨some 36, (.mv (.t 0)), some (35, false)⟩, ⟨some 37, (.iaddrS 1 (.t 36) (.c (.int .i64 3))), some (35, false)⟩,
    ⟨some 38, (.load false 1 (.t 37)), some (35, false)⟩, ⟨some 39, (.mv (.t 4)), some (35, false)⟩, ⟨some 40, (.bin .shr 0 (.t 39) (.c (.int .u64 24))), some (35, false)⟩, ⟨some 41,
    (.conv .u8 (.t 40)), some (35, false)⟩, ⟨some 42, (.bin .neq 0 (.t 38) (.t 41)), some (35, false)⟩, ⟨some 43, (.pick (.t 35) (.c (.bool true)) (.t 42)), none⟩]) (.cond (.t 43)
    (.seq (.ops [⟨some 2, (.mv (.c (.slice none 0 0))), none⟩, ⟨some 3, (.mv (.c (.bool false))), none⟩]) .ret) .skip)) (.seq (.ops [⟨some 44, (.bslice [(.int .u8 0)] 1 0 []), none⟩,
    ⟨some 45, (.mv (.t 0)), none⟩, ⟨some 46, (.sliceS 1 (.t 45) (some (.c (.int .i64 4))) none none), none⟩, ⟨some 47, (.append 1 1 (.t 44) (.t 46)), none⟩, ⟨some 2, (.mv (.t 47)),
    none⟩, ⟨some 3, (.mv (.c (.bool true))), none⟩]) .ret))))), 48, [(.t 2), (.t 3)]⟩
theorem t122 : tidyF Try.prog 122 = some c122 := by kernel_rfl
noncomputable def c58 : TFn := ⟨(.seq (.ops [⟨some 2, (.mv (.c (.slice none 0 0))), none⟩]) (.seq (.ops [⟨some 4, (.mv (.t 0)), none⟩, ⟨some 5, (.call (fnv 117) [(.t 4)]), none⟩, ⟨some 3, (.mv (.t 5)), none⟩])
    (.seq (.ops [⟨some 6, (.mv (.t 3)), none⟩, ⟨some 7, (.conv .u8 (.t 6)), none⟩, ⟨some 8, (.mv (.t 3)), none⟩, ⟨some 9, (.bin .shr 0 (.t 8) (.c (.int .u64 8))), none⟩, ⟨some 10,
    (.conv .u8 (.t 9)), none⟩, ⟨some 11, (.mv (.t 3)), none⟩, ⟨some 12, (.bin .shr 0 (.t 11) (.c (.int .u64 16))), none⟩, ⟨some 13, (.conv .u8 (.t 12)), none⟩, ⟨some 14, (.mv (.t
    3)), none⟩, ⟨some 15, (.bin .shr 0 (.t 14) (.c (.int .u64 24))), none⟩, ⟨some 16, (.conv .u8 (.t 15)), none⟩, ⟨some 17, (.bslice [(.int .u8 0)] 1 4 [(0, (.t 7)), (1, (.t 10)),
    (2, (.t 13)), (3, (.t 16))]), none⟩, ⟨some 18, (.mv (.t 0)), none⟩, ⟨some 19, (.append 1 1 (.t 17) (.t 18)), none⟩, ⟨some 2, (.mv (.t 19)), none⟩]) .ret))), 20, [(.t 2)]⟩
theorem t58 : tidyF Try.prog 58 = some c58 := by kernel_rfl
noncomputable def c41 : TFn := ⟨(.seq (.ops [⟨some 4, (.mv (.c (.bool false))), none⟩]) (.seq (.seq (.ops [⟨some 6, (.mv (.t 0)), none⟩, ⟨some 7, (.lenS (.t 6)), none⟩, ⟨some 8, (.mv (.t 1)), none⟩, ⟨some 9,
    (.lenS (.t 8)), none⟩, ⟨some 10, (.bin .neq 0 (.t 7) (.t 9)), none⟩]) (.cond (.t 10) (.seq (.ops [⟨some 4, (.mv (.c (.bool false))), none⟩]) .ret) .skip)) (.seq (.seq (.ops
    [⟨some 5, (.mv (.c (.int .i64 0))), none⟩]) (.block 0 (.loop (.seq (.seq (.ops [⟨some 11, (.mv (.t 5)), none⟩, ⟨some 12, (.mv (.t 0)), none⟩, ⟨some 13, (.lenS (.t 12)), none⟩,
    ⟨some 14, (.bin .lss 0 (.t 11) (.t 13)), none⟩]) (.cond (.t 14) .skip (.exit 0))) (.seq (.block 1 (.seq (.ops [⟨some 17, (.mv (.t 0)), none⟩, ⟨some 18, (.mv (.t 5)), none⟩, ⟨some
    19, (.iaddrS 1 (.t 17) (.t 18)), none⟩, ⟨some 20, (.load false 1 (.t 19)), none⟩, ⟨some 21, (.mv (.t 1)), none⟩, ⟨some 22, (.mv (.t 5)), none⟩, ⟨some 23, (.iaddrS 1 (.t 21) (.t
    22)), none⟩, ⟨some 24, (.load false 1 (.t 23)), none⟩, ⟨some 25, (.bin .neq 0 (.t 20) (.t 24)), none⟩]) (.cond (.t 25) (.seq (.ops [⟨some 4, (.mv (.c (.bool false))), none⟩])
    .ret) .skip))) (.ops [⟨some 15, (.mv (.t 5)), none⟩, ⟨some 16, (.bin .add 0 (.t 15) (.c (.int .i64 1))), none⟩, ⟨some 5, (.mv (.t 16)), none⟩])))))) (.seq (.ops [⟨some 4, (.mv
    (.c (.bool true))), none⟩]) .ret)))), 26, [(.t 4)]⟩
theorem t41 : tidyF Try.prog 41 = some c41 := by kernel_rfl
noncomputable def c110 : TFn := ⟨(.seq (.ops [⟨some 4, (.mv (.c (.slice none 0 0))), none⟩]) (.seq (.ops [⟨some 5, (.mv (.t 0)), none⟩, ⟨some 6, (.mv (.t 1)), none⟩, ⟨some 7, (.lenS (.t 6)), none⟩, ⟨some 8,
    (.call (fnv 111) [(.t 5), (.t 7)]), none⟩, ⟨some 9, (.mv (.t 1)), none⟩, ⟨some 10, (.append 1 1 (.t 8) (.t 9)), none⟩, ⟨some 4, (.mv (.t 10)), none⟩]) .ret)), 11, [(.t 4)]⟩
theorem t110 : tidyF Try.prog 110 = some c110 := by kernel_rfl
noncomputable def c111 : TFn := ⟨(.seq (.ops [⟨some 4, (.mv (.c (.slice none 0 0))), none⟩]) (.seq (.ops [⟨some 6, (.mv (.t 0)), none⟩, ⟨some 7, (.call (fnv 121) [(.t 6)]), none⟩, ⟨some 8, (.call (fnv 160) [(.t
    7)]), none⟩, ⟨some 5, (.mv (.t 8)), none⟩]) (.seq (.seq (.ops [⟨some 9, (.mv (.t 1)), none⟩, ⟨some 10, (.call (fnv 161) [(.t 9)]), none⟩, ⟨some 1, (.mv (.t 10)), none⟩]) (.block
    0 (.loop (.seq (.seq (.ops [⟨some 11, (.mv (.t 1)), none⟩, ⟨some 12, (.bin .geq 0 (.t 11) (.c (.int .i64 128))), none⟩]) (.cond (.t 12) .skip (.exit 0))) (.seq (.block 1 (.ops
    [⟨some 15, (.mv (.t 5)), none⟩, ⟨some 16, (.mv (.t 1)), none⟩, ⟨some 17, (.bin .and 0 (.t 16) (.c (.int .i64 127))), none⟩, ⟨some 18, (.bin .or 0 (.t 17) (.c (.int .i64 128))),
    none⟩, ⟨some 19, (.conv .u8 (.t 18)), none⟩, ⟨some 20, (.bslice [(.int .u8 0)] 1 1 [(0, (.t 19))]), none⟩, ⟨some 21, (.append 1 1 (.t 15) (.t 20)), none⟩, ⟨some 5, (.mv (.t 21)),
    none⟩])) (.ops [⟨some 13, (.mv (.t 1)), none⟩, ⟨some 14, (.bin .shr 0 (.t 13) (.c (.int .u64 7))), none⟩, ⟨some 1, (.mv (.t 14)), none⟩])))))) (.seq (.ops [⟨some 22, (.mv (.t
    5)), none⟩, ⟨some 23, (.mv (.t 1)), none⟩, ⟨some 24, (.conv .u8 (.t 23)), none⟩, ⟨some 25, (.bslice [(.int .u8 0)] 1 1 [(0, (.t 24))]), none⟩, ⟨some 26, (.append 1 1 (.t 22) (.t
    25)), none⟩, ⟨some 4, (.mv (.t 26)), none⟩]) .ret)))), 27, [(.t 4)]⟩
theorem t111 : tidyF Try.prog 111 = some c111 := by kernel_rfl
noncomputable def c121 : TFn := ⟨(.seq (.ops [⟨some 2, (.mv (.c (.slice none 0 0))), none⟩]) (.seq (.seq (.ops [⟨some 3, (.mv (.t 0)), none⟩, ⟨some 4, (.bin .eql 3 (.t 3) (.c (.slice none 0 0))), none⟩]) (.cond
    (.t 4) (.seq (.ops [⟨some 2, (.mv (.c (.slice none 0 0))), none⟩]) .ret) .skip)) (.seq (.ops [⟨some 5, (.bslice [(.int .u8 0)] 1 0 []), none⟩, ⟨some 6, (.mv (.t 0)), none⟩, ⟨some
    7, (.append 1 1 (.t 5) (.t 6)), none⟩, ⟨some 2, (.mv (.t 7)), none⟩]) .ret))), 8, [(.t 2)]⟩
theorem t121 : tidyF Try.prog 121 = some c121 := by kernel_rfl
noncomputable def c160 : TFn := ⟨(.seq (.ops [⟨some 2, (.mv (.c (.slice none 0 0))), none⟩]) (.seq (.ops [⟨some 3, (.mv (.t 0)), none⟩, ⟨some 4, (.mv (.t 0)), none⟩, ⟨some 5, (.lenS (.t 4)), none⟩, ⟨some 6, (.mv
    (.t 0)), none⟩, ⟨some 7, (.lenS (.t 6)), none⟩, ⟨some 8, (.sliceS 1 (.t 3) none (some (.t 5)) (some (.t 7))), none⟩, ⟨some 2, (.mv (.t 8)), none⟩]) .ret)), 9, [(.t 2)]⟩
theorem t160 : tidyF Try.prog 160 = some c160 := by kernel_rfl
noncomputable def c161 : TFn := ⟨(.seq (.ops [⟨some 2, (.mv (.c (.int .i64 0))), none⟩]) (.seq (.ops [⟨some 3, (.mv (.t 0)), none⟩, ⟨some 4, (.mx [(.t 3), (.c (.int .i64 0))]), none⟩, ⟨some 5, (.mn [(.t 4), (.c
    (.int .i64 4611686018427387904))]), none⟩, ⟨some 2, (.mv (.t 5)), none⟩]) .ret)), 6, [(.t 2)]⟩
theorem t161 : tidyF Try.prog 161 = some c161 := by kernel_rfl
noncomputable def c153 : TFn := ⟨(.seq (.ops [⟨some 2, (.mv (.c (.pointer none))), none⟩]) (.seq (.ops [⟨some 3, (.mv (.t 0)), none⟩, ⟨some 4, (.call (fnv 121) [(.t 3)]), none⟩, ⟨some 5, (.build [(.slice none 0
    0), (.bool false)] [(0, (1, (.t 4)))]), none⟩, ⟨some 6, (.box 2 (.t 5)), none⟩, ⟨some 2, (.mv (.t 6)), none⟩]) .ret)), 7, [(.t 2)]⟩
theorem t153 : tidyF Try.prog 153 = some c153 := by kernel_rfl
noncomputable def c154 : TFn := ⟨(.seq (.ops [⟨some 4, (.mv (.c (.int .i64 0))), none⟩]) (.seq (.ops [⟨some 5, (.mv (.c (.int .i64 0))), none⟩]) (.seq (.seq (.ops [⟨some 8, (.mv (.t 0)), none⟩, ⟨some 9, (.nilc
    (.t 8)), none⟩, ⟨some 10, (.faddr 0 (.t 9)), none⟩, ⟨some 11, (.load false 1 (.t 10)), none⟩, ⟨some 12, (.lenS (.t 11)), none⟩, ⟨some 13, (.mv (.c (.int .i64 0))), none⟩])
    (.block 0 (.loop (.seq (.ops [⟨some 14, (.bin .lss 0 (.t 13) (.t 12)), none⟩]) (.seq (.cond (.t 14) .skip (.exit 0)) (.seq (.block 1 (.seq (.ops [⟨some 15, (.mv (.t 13)), none⟩,
    ⟨some 16, (.iaddrS 1 (.t 11) (.t 13)), none⟩, ⟨some 17, (.load false 1 (.t 16)), none⟩, ⟨some 6, (.mv (.t 15)), none⟩, ⟨some 7, (.mv (.t 17)), none⟩]) (.seq (.seq (.ops [⟨some
    18, (.mv (.t 6)), none⟩, ⟨some 19, (.bin .gtr 0 (.t 18) (.c (.int .i64 8))), none⟩, ⟨some 20, (.mv (.t 19)), none⟩, ⟨some 21, (.mv (.t 7)), some (20, false)⟩, ⟨some 22, (.bin
    .eql 0 (.t 21) (.c (.int .u8 0))), some (20, false)⟩, ⟨some 23, (.mv (.t 22)), some (20, false)⟩, ⟨some 24, (.mv (.t 6)), some (23, true)⟩, ⟨some 25, (.bin .gtr 0 (.t 24) (.c
    (.int .i64 0))), some (23, true)⟩, ⟨some 26, (.pick (.t 23) (.t 25) (.c (.bool false))), some (20, false)⟩, ⟨some 27, (.pick (.t 20) (.c (.bool true)) (.t 26)), none⟩]) (.cond
    (.t 27) (.exit 0) .skip)) (.seq (.ops [⟨some 28, (.mv (.t 5)), none⟩, ⟨some 29, (.mv (.t 7)), none⟩, ⟨some 30, (.bin .and 0 (.t 29) (.c (.int .u8 127))), none⟩, ⟨some 31, (.conv
    .i64 (.t 30)), none⟩, ⟨some 32, (.mv (.t 6)), none⟩, ⟨some 33, (.bin .mul 0 (.c (.int .i64 7)) (.t 32)), none⟩, ⟨some 34, (.bin .shl 0 (.t 31) (.t 33)), none⟩, ⟨some 35, (.bin
    .or 0 (.t 28) (.t 34)), none⟩, ⟨some 5, (.mv (.t 35)), none⟩]) (.seq (.seq (.ops [⟨some 36, (.mv (.t 7)), none⟩, ⟨some 37, (.bin .geq 0 (.t 36) (.c (.int .u8 128))), none⟩])
    (.cond (.t 37) (.exit 1) .skip)) (.seq (.seq (.ops [⟨some 38, (.mv (.t 5)), none⟩, ⟨some 39, (.mv (.t 1)), none⟩, ⟨some 40, (.call (fnv 161) [(.t 39)]), none⟩, ⟨some 41, (.bin
    .gtr 0 (.t 38) (.t 40)), none⟩]) (.cond (.t 41) (.exit 0) .skip)) (.seq (.ops [⟨some 42, (.mv (.t 0)), none⟩, ⟨some 43, (.mv (.t 0)), none⟩, ⟨some 44, (.nilc (.t 43)), none⟩,
    ⟨some 45, (.faddr 0 (.t 44)), none⟩, ⟨some 46, (.load false 1 (.t 45)), none⟩, ⟨some 47, (.mv (.t 6)), none⟩, ⟨some 48, (.bin .add 0 (.t 47) (.c (.int .i64 1))), none⟩, ⟨some 49,
    (.sliceS 1 (.t 46) (some (.t 48)) none none), none⟩, ⟨some 50, (.nilc (.t 42)), none⟩, ⟨some 51, (.faddr 0 (.t 50)), none⟩, ⟨none, (.store 1 (.t 51) (.t 49)), none⟩]) (.seq (.ops
    [⟨some 52, (.mv (.t 5)), none⟩, ⟨some 4, (.mv (.t 52)), none⟩]) .ret)))))))) (.ops [⟨some 53, (.bin .add 0 (.t 13) (.c (.int .i64 1))), none⟩, ⟨some 13, (.mv (.t 53)),
    none⟩]))))))) (.seq (.ops [⟨some 54, (.mv (.t 0)), none⟩, ⟨some 55, (.call (fnv 173) [(.t 54)]), none⟩, ⟨some 4, (.mv (.t 55)), none⟩]) .ret)))), 56, [(.t 4)]⟩
theorem t154 : tidyF Try.prog 154 = some c154 := by kernel_rfl
noncomputable def c155 : TFn := ⟨(.seq (.ops [⟨some 4, (.mv (.c (.slice none 0 0))), none⟩]) (.seq (.ops [⟨some 7, (.mv (.t 0)), none⟩, ⟨some 8, (.mv (.t 1)), none⟩, ⟨some 9, (.call (fnv 154) [(.t 7), (.t 8)]),
    none⟩, ⟨some 5, (.mv (.t 9)), none⟩]) (.seq (.seq (.ops [⟨some 10, (.mv (.t 5)), none⟩, ⟨some 11, (.mv (.t 0)), none⟩, ⟨some 12, (.nilc (.t 11)), none⟩, ⟨some 13, (.faddr 0 (.t
    12)), none⟩, ⟨some 14, (.load false 1 (.t 13)), none⟩, ⟨some 15, (.lenS (.t 14)), none⟩, ⟨some 16, (.bin .gtr 0 (.t 10) (.t 15)), none⟩]) (.cond (.t 16) (.seq (.ops [⟨some 17,
    (.mv (.t 0)), none⟩, ⟨some 18, (.call (fnv 173) [(.t 17)]), none⟩]) (.seq (.ops [⟨some 4, (.mv (.c (.slice none 0 0))), none⟩]) .ret)) .skip)) (.seq (.ops [⟨some 19, (.mv (.t
    0)), none⟩, ⟨some 20, (.nilc (.t 19)), none⟩, ⟨some 21, (.faddr 0 (.t 20)), none⟩, ⟨some 22, (.load false 1 (.t 21)), none⟩, ⟨some 23, (.mv (.t 5)), none⟩, ⟨some 24, (.sliceS 1
    (.t 22) none (some (.t 23)) none), none⟩, ⟨some 25, (.call (fnv 121) [(.t 24)]), none⟩, ⟨some 6, (.mv (.t 25)), none⟩]) (.seq (.ops [⟨some 26, (.mv (.t 0)), none⟩, ⟨some 27, (.mv
    (.t 0)), none⟩, ⟨some 28, (.nilc (.t 27)), none⟩, ⟨some 29, (.faddr 0 (.t 28)), none⟩, ⟨some 30, (.load false 1 (.t 29)), none⟩, ⟨some 31, (.mv (.t 5)), none⟩, ⟨some 32, (.sliceS
    1 (.t 30) (some (.t 31)) none none), none⟩, ⟨some 33, (.nilc (.t 26)), none⟩, ⟨some 34, (.faddr 0 (.t 33)), none⟩, ⟨none, (.store 1 (.t 34) (.t 32)), none⟩]) (.seq (.ops [⟨some
    35, (.mv (.t 6)), none⟩, ⟨some 4, (.mv (.t 35)), none⟩]) .ret)))))), 36, [(.t 4)]⟩
theorem t155 : tidyF Try.prog 155 = some c155 := by kernel_rfl
noncomputable def c173 : TFn := ⟨(.seq (.ops [⟨some 2, (.mv (.c (.int .i64 0))), none⟩]) (.seq (.ops [⟨some 3, (.mv (.t 0)), none⟩, ⟨some 4, (.mv (.t 0)), none⟩, ⟨some 5, (.nilc (.t 3)), none⟩, ⟨some 6, (.faddr 0
    (.t 5)), none⟩, ⟨none, (.store 1 (.t 6) (.c (.slice none 0 0))), none⟩, ⟨some 7, (.nilc (.t 4)), none⟩, ⟨some 8, (.faddr 1 (.t 7)), none⟩, ⟨none, (.store 1 (.t 8) (.c (.bool
    true))), none⟩]) (.seq (.ops [⟨some 2, (.mv (.c (.int .i64 0))), none⟩]) .ret))), 9, [(.t 2)]⟩
theorem t173 : tidyF Try.prog 173 = some c173 := by kernel_rfl
noncomputable def c174 : TFn := ⟨(.seq (.ops [⟨some 2, (.mv (.c (.bool false))), none⟩]) (.seq (.ops [⟨some 3, (.mv (.t 0)), none⟩, ⟨some 4, (.nilc (.t 3)), none⟩, ⟨some 5, (.faddr 1 (.t 4)), none⟩, ⟨some 6,
    (.load false 1 (.t 5)), none⟩, ⟨some 7, (.un .not (.t 6)), none⟩, ⟨some 2, (.mv (.t 7)), none⟩]) .ret)), 8, [(.t 2)]⟩
theorem t174 : tidyF Try.prog 174 = some c174 := by kernel_rfl
noncomputable def c158 : TFn := ⟨(.seq (.ops [⟨some 2, (.mv (.c (.bool false))), none⟩]) (.seq (.ops [⟨some 3, (.mv (.t 0)), none⟩, ⟨some 4, (.nilc (.t 3)), none⟩, ⟨some 5, (.faddr 1 (.t 4)), none⟩, ⟨some 6,
    (.load false 1 (.t 5)), none⟩, ⟨some 7, (.un .not (.t 6)), none⟩, ⟨some 8, (.mv (.t 7)), none⟩, ⟨some 9, (.mv (.t 0)), some (8, true)⟩, ⟨some 10, (.nilc (.t 9)), some (8, true)⟩,
    ⟨some 11, (.faddr 0 (.t 10)), some (8, true)⟩, ⟨some 12, (.load false 1 (.t 11)), some (8, true)⟩, ⟨some 13, (.lenS (.t 12)), some (8, true)⟩, ⟨some 14, (.bin .eql 0 (.t 13) (.c
    (.int .i64 0))), some (8, true)⟩, ⟨some 15, (.pick (.t 8) (.t 14) (.c (.bool false))), none⟩, ⟨some 2, (.mv (.t 15)), none⟩]) .ret)), 16, [(.t 2)]⟩
theorem t158 : tidyF Try.prog 158 = some c158 := by kernel_rfl
noncomputable def c162 : TFn := ⟨(.seq (.ops [⟨some 2, (.mv (.c (.int .u32 0))), none⟩]) (.seq (.ops [⟨some 3, (.mv (.c (.int .u32 4294967295))), none⟩]) (.seq (.seq (.ops [⟨some 6, (.mv (.t 0)), none⟩, ⟨some 7,
    (.lenS (.t 6)), none⟩, ⟨some 8, (.mv (.c (.int .i64 0))), none⟩]) (.block 0 (.loop (.seq (.ops [⟨some 9, (.bin .lss 0 (.t 8) (.t 7)), none⟩]) (.seq (.cond (.t 9) .skip (.exit 0))
    (.seq (.block 1 (.seq (.ops [⟨some 10, (.iaddrS 1 (.t 6) (.t 8)), none⟩, ⟨some 11, (.load false 1 (.t 10)), none⟩, ⟨some 5, (.mv (.t 11)), none⟩]) (.ops [⟨some 12, (.mv (.t 3)),
    none⟩, ⟨some 13, (.mv (.t 5)), none⟩, ⟨some 14, (.call (fnv 178) [(.t 12), (.t 13)]), none⟩, ⟨some 3, (.mv (.t 14)), none⟩]))) (.ops [⟨some 15, (.bin .add 0 (.t 8) (.c (.int .i64
    1))), none⟩, ⟨some 8, (.mv (.t 15)), none⟩]))))))) (.seq (.ops [⟨some 16, (.mv (.t 3)), none⟩, ⟨some 17, (.bin .xor 0 (.t 16) (.c (.int .u32 4294967295))), none⟩, ⟨some 2, (.mv
    (.t 17)), none⟩]) .ret)))), 18, [(.t 2)]⟩
theorem t162 : tidyF Try.prog 162 = some c162 := by kernel_rfl
noncomputable def c178 : TFn := ⟨(.seq (.ops [⟨some 4, (.mv (.c (.int .u32 0))), none⟩]) (.seq (.ops [⟨some 6, (.mv (.t 0)), none⟩, ⟨some 7, (.mv (.t 1)), none⟩, ⟨some 8, (.conv .u32 (.t 7)), none⟩, ⟨some 9,
    (.bin .xor 0 (.t 6) (.t 8)), none⟩, ⟨some 0, (.mv (.t 9)), none⟩]) (.seq (.seq (.ops [⟨some 10, (.mv (.c (.int .i64 0))), none⟩]) (.block 0 (.loop (.seq (.ops [⟨some 11, (.bin
    .lss 0 (.t 10) (.c (.int .i64 8))), none⟩]) (.seq (.cond (.t 11) .skip (.exit 0)) (.seq (.block 1 (.seq (.ops [⟨some 12, (.mv (.t 0)), none⟩, ⟨some 13, (.bin .and 0 (.t 12) (.c
    (.int .u32 1))), none⟩, ⟨some 5, (.mv (.t 13)), none⟩]) (.seq (.ops [⟨some 14, (.mv (.t 0)), none⟩, ⟨some 15, (.bin .shr 0 (.t 14) (.c (.int .u64 1))), none⟩, ⟨some 0, (.mv (.t
    15)), none⟩]) (.seq (.ops [⟨some 16, (.mv (.t 5)), none⟩, ⟨some 17, (.bin .eql 0 (.t 16) (.c (.int .u32 1))), none⟩]) (.cond (.t 17) (.ops [⟨some 18, (.mv (.t 0)), none⟩, ⟨some
    19, (.bin .xor 0 (.t 18) (.c (.int .u32 3988292384))), none⟩, ⟨some 0, (.mv (.t 19)), none⟩]) .skip))))) (.ops [⟨some 20, (.bin .add 0 (.t 10) (.c (.int .i64 1))), none⟩, ⟨some
    10, (.mv (.t 20)), none⟩]))))))) (.seq (.ops [⟨some 21, (.mv (.t 0)), none⟩, ⟨some 4, (.mv (.t 21)), none⟩]) .ret)))), 22, [(.t 4)]⟩
theorem t178 : tidyF Try.prog 178 = some c178 := by kernel_rfl
noncomputable def c175 : TFn := ⟨(.seq (.ops [⟨some 4, (.mv (.c (.bool false))), none⟩]) (.seq (.ops [⟨some 5, (.mv (.t 0)), none⟩, ⟨some 6, (.b2t (.t 5)), none⟩, ⟨some 7, (.mv (.t 1)), none⟩, ⟨some 8, (.b2t (.t
    7)), none⟩, ⟨some 9, (.bin .eql 0 (.t 6) (.t 8)), none⟩, ⟨some 4, (.mv (.t 9)), none⟩]) .ret)), 10, [(.t 4)]⟩
theorem t175 : tidyF Try.prog 175 = some c175 := by kernel_rfl
noncomputable def c176 : TFn := ⟨(.seq (.ops [⟨some 4, (.mv (.c (.bool false))), none⟩]) (.seq (.seq (.ops [⟨some 6, (.mv (.t 0)), none⟩, ⟨some 7, (.lenS (.t 6)), none⟩, ⟨some 8, (.mv (.t 1)), none⟩, ⟨some 9,
    (.lenS (.t 8)), none⟩, ⟨some 10, (.bin .neq 0 (.t 7) (.t 9)), none⟩]) (.cond (.t 10) (.seq (.ops [⟨some 4, (.mv (.c (.bool false))), none⟩]) .ret) .skip)) (.seq (.seq (.ops
    [⟨some 11, (.mv (.t 0)), none⟩, ⟨some 12, (.lenS (.t 11)), none⟩, ⟨some 13, (.mv (.c (.int .i64 0))), none⟩]) (.block 0 (.loop (.seq (.ops [⟨some 14, (.bin .lss 0 (.t 13) (.t
    12)), none⟩]) (.seq (.cond (.t 14) .skip (.exit 0)) (.seq (.block 1 (.seq (.ops [⟨some 15, (.mv (.t 13)), none⟩, ⟨some 5, (.mv (.t 15)), none⟩]) (.seq (.ops [⟨some 16, (.mv (.t
    0)), none⟩, ⟨some 17, (.mv (.t 5)), none⟩, ⟨some 18, (.iaddrS 1 (.t 16) (.t 17)), none⟩, ⟨some 19, (.load false 1 (.t 18)), none⟩, ⟨some 20, (.mv (.t 1)), none⟩, ⟨some 21, (.mv
    (.t 5)), none⟩, ⟨some 22, (.iaddrS 1 (.t 20) (.t 21)), none⟩, ⟨some 23, (.load false 1 (.t 22)), none⟩, ⟨some 24, (.bin .neq 0 (.t 19) (.t 23)), none⟩]) (.cond (.t 24) (.seq
    (.ops [⟨some 4, (.mv (.c (.bool false))), none⟩]) .ret) .skip)))) (.ops [⟨some 25, (.bin .add 0 (.t 13) (.c (.int .i64 1))), none⟩, ⟨some 13, (.mv (.t 25)), none⟩]))))))) (.seq
    (.ops [⟨some 4, (.mv (.c (.bool true))), none⟩]) .ret)))), 26, [(.t 4)]⟩
theorem t176 : tidyF Try.prog 176 = some c176 := by kernel_rfl
noncomputable def c115 : TFn := ⟨(.seq (.ops [⟨some 2, (.mv (.c (.slice none 0 0))), none⟩, ⟨some 3, (.mv (.c (.bool false))), none⟩]) (.seq (.seq (.ops [⟨some 5, (.mv (.t 0)), none⟩, ⟨some 6, (.lenS (.t 5)),
    none⟩, ⟨some 7, (.bin .lss 0 (.t 6) (.c (.int .i64 4))), none⟩]) (.cond (.t 7) (.seq (.ops [⟨some 2, (.mv (.c (.slice none 0 0))), none⟩, ⟨some 3, (.mv (.c (.bool false))),
    none⟩]) .ret) .skip)) (.seq (.ops [⟨some 8, (.mv (.t 0)), none⟩, ⟨some 9, (.iaddrS 1 (.t 8) (.c (.int .i64 0))), none⟩, ⟨some 10, (.load false 1 (.t 9)), none⟩, ⟨some 11, (.conv
    .u32 (.t 10)), none⟩, ⟨some 12, (.mv (.t 0)), none⟩, ⟨some 13, (.iaddrS 1 (.t 12) (.c (.int .i64 1))), none⟩, ⟨some 14, (.load false 1 (.t 13)), none⟩, ⟨some 15, (.conv .u32 (.t
    14)), none⟩, ⟨some 16, (.bin .shl 0 (.t 15) (.c (.int .u64 8))), none⟩, ⟨some 17, (.bin .or 0 (.t 11) (.t 16)), none⟩, ⟨some 18, (.mv (.t 0)), none⟩, ⟨some 19, (.iaddrS 1 (.t 18)
    (.c (.int .i64 2))), none⟩, ⟨some 20, (.load false 1 (.t 19)), none⟩, ⟨some 21, (.conv .u32 (.t 20)), none⟩, ⟨some 22, (.bin .shl 0 (.t 21) (.c (.int .u64 16))), none⟩, ⟨some 23,
    (.bin .or 0 (.t 17) (.t 22)), none⟩, ⟨some 24, (.mv (.t 0)), none⟩, ⟨some 25, (.iaddrS 1 (.t 24) (.c (.int .i64 3))), none⟩, ⟨some 26, (.load false 1 (.t 25)), none⟩, ⟨some 27,
    (.conv .u32 (.t 26)), none⟩, ⟨some 28, (.bin .shl 0 (.t 27) (.c (.int .u64 24))), none⟩, ⟨some 29, (.bin .or 0 (.t 23) (.t 28)), none⟩, ⟨some 4, (.mv (.t 29)), none⟩]) (.seq
    (.draw [(⟨some 30, (.mv (.t 0)), none⟩, []), (⟨some 31, (.sliceS 1 (.t 30) (some (.c (.int .i64 4))) none none), none⟩, []), (⟨some 32, (.mv (.t 4)), none⟩, []), (⟨some 33, (.mv
    (.t 0)), none⟩, []), (⟨some 34, (.sliceS 1 (.t 33) (some (.c (.int .i64 4))) none none), none⟩, []), (⟨some 35, (.call (fnv 162) [(.t 34)]), none⟩, [1]), (⟨some 36, (.bin .eql 0
    (.t 32) (.t 35)), none⟩, []), (⟨some 2, (.mv (.t 31)), none⟩, []), (⟨some 3, (.mv (.t 36)), none⟩, [])]) .ret)))), 37, [(.t 2), (.t 3)]⟩
theorem t115 : tidyF Try.prog 115 = some c115 := by kernel_rfl
noncomputable def c114 : TFn := ⟨(.seq (.ops [⟨some 2, (.mv (.c (.slice none 0 0))), none⟩]) (.seq (.ops [⟨some 5, (.mv (.t 0)), none⟩, ⟨some 6, (.call (fnv 162) [(.t 5)]), none⟩, ⟨some 3, (.mv (.t 6)), none⟩])
    (.seq (.ops [⟨some 7, (.mv (.t 3)), none⟩, ⟨some 8, (.conv .u8 (.t 7)), none⟩, ⟨some 9, (.mv (.t 3)), none⟩, ⟨some 10, (.bin .shr 0 (.t 9) (.c (.int .u64 8))), none⟩, ⟨some 11,
    (.conv .u8 (.t 10)), none⟩, ⟨some 12, (.mv (.t 3)), none⟩, ⟨some 13, (.bin .shr 0 (.t 12) (.c (.int .u64 16))), none⟩, ⟨some 14, (.conv .u8 (.t 13)), none⟩, ⟨some 15, (.mv (.t
    3)), none⟩, ⟨some 16, (.bin .shr 0 (.t 15) (.c (.int .u64 24))), none⟩, ⟨some 17, (.conv .u8 (.t 16)), none⟩, ⟨some 18, (.bslice [(.int .u8 0)] 1 4 [(0, (.t 8)), (1, (.t 11)),
    (2, (.t 14)), (3, (.t 17))]), none⟩, ⟨some 4, (.mv (.t 18)), none⟩]) (.seq (.ops [⟨some 19, (.mv (.t 4)), none⟩, ⟨some 20, (.mv (.t 0)), none⟩, ⟨some 21, (.append 1 1 (.t 19) (.t
    20)), none⟩, ⟨some 2, (.mv (.t 21)), none⟩]) .ret)))), 22, [(.t 2)]⟩
theorem t114 : tidyF Try.prog 114 = some c114 := by kernel_rfl
end Go.Proofs.Ytapmpenkceomdaa
/- Numbers as bytes: what the functions that write them come to. -/
set_option linter.unusedSimpArgs false
set_option linter.unusedVariables false
set_option maxRecDepth 20000
namespace Go.Proofs.Ytapmpenkceomdaa
open Go.Ab

variable {n d : Nat} {h : AHeap}

/-- a number as bytes -/
def vnum (k : Nat) : List UInt8 := if k < 128 then [UInt8.ofNat k] else UInt8.ofNat (k % 128 + 128) :: vnum (k / 128)
theorem vnum_lt {k : Nat} (h : k < 128) : vnum k = [UInt8.ofNat k] := by rw [vnum, if_pos h]
theorem vnum_ge {k : Nat} (h : ¬ k < 128) : vnum k = UInt8.ofNat (k % 128 + 128) :: vnum (k / 128) := by rw [vnum, if_neg h]
theorem vnum_len : ∀ (m k : Nat), k < 128 ^ (m + 1) → (vnum k).length ≤ m + 1
  | 0, k, h => by rw [vnum_lt (by simpa using h)]; simp
  | m + 1, k, h => by
    by_cases hk : k < 128
    · rw [vnum_lt hk]; simp
    · rw [vnum_ge hk]
      have := vnum_len m (k / 128) (by rw [Nat.div_lt_iff_lt_mul (by decide), ← Nat.pow_succ]; exact h)
      simp only [List.length_cons]; omega
/-- as a number is held -/
def heldN (a : Int) : Nat := (min (max a 0) 4611686018427387904).toNat
theorem heldN_cast (a : Int) : min (max a 0) 4611686018427387904 = (heldN a : Int) := by unfold heldN; omega
theorem heldN_le (a : Int) : heldN a ≤ 4611686018427387904 := by unfold heldN; omega

theorem held_spec (hd : 1 ≤ d) (a : Int) (h : AHeap) : aCall Try.prog n d 161 [.int .i64 a] h = some (.int .i64 (heldN a), h) := by
  obtain ⟨d, rfl, hd⟩ := depth hd
  obtain ⟨v, h', e, r⟩ := call_of (n := n) (d := d) (args := [.int .i64 a]) (h := h) (R := fun v h' => v = .int .i64 (heldN a) ∧ h' = h) t161 (Nat.le_of_ble_eq_true rfl) (by
    simp only [c161, run, Option.map_some, Nat.reduceEqDiff, Nat.reduceAdd, Nat.zero_add, ↓reduceIte, decide_eq_true_eq, decide_true, decide_false, Bool.not_true, Bool.not_false, Bool.true_eq_false, Bool.false_eq_true, List.getElem?_cons_zero, List.getElem?_cons_succ, List.nil_append, List.cons_append, reduceCtorEq, eq_self, decide_eq_false_iff_not, not_true_eq_false, not_false_eq_true, Nat.add_zero, Nat.succ_ne_self, Nat.one_ne_zero, Nat.zero_ne_one, and_self, heldN_cast])
  obtain ⟨rfl, rfl⟩ := r
  exact e

theorem clone_spec (hd : 1 ≤ d) {v : Value} {l : List UInt8} (hv : Bytes 0 h.next h v l) (hl : l.length ≤ 2 ^ 46) :
    ∃ v' h', aCall Try.prog n d 121 [v] h = some (v', h') ∧ Ext no h.next h h' ∧ OwnB h.next h' v' l := by
  obtain ⟨d, rfl, hd⟩ := depth hd
  refine call_of t121 (Nat.le_of_ble_eq_true rfl) ?_
  rcases Sl.cases (n := l.length) hv (by simp [bsv_length]) (by decide) with ⟨rfl, e, _⟩ | ⟨m, off, cap, rfl, _⟩
  · have : l = [] := by simpa [bsv] using e
    subst this
    simp only [c121, run, Option.map_some, Nat.reduceEqDiff, Nat.reduceAdd, Nat.zero_add, ↓reduceIte, decide_eq_true_eq, decide_true, decide_false, Bool.not_true, Bool.not_false, Bool.true_eq_false, Bool.false_eq_true, List.getElem?_cons_zero, List.getElem?_cons_succ, List.nil_append, List.cons_append, reduceCtorEq, eq_self, decide_eq_false_iff_not, not_true_eq_false, not_false_eq_true, Nat.add_zero, Nat.succ_ne_self, Nat.one_ne_zero, Nat.zero_ne_one, nil_nil]
    exact ⟨Ext.refl _ _ _, Own.nil⟩
  · simp only [c121, run, Option.map_some, Nat.reduceEqDiff, Nat.reduceAdd, Nat.zero_add, ↓reduceIte, decide_eq_true_eq, decide_true, decide_false, Bool.not_true, Bool.not_false, Bool.true_eq_false, Bool.false_eq_true, List.getElem?_cons_zero, List.getElem?_cons_succ, List.nil_append, List.cons_append, reduceCtorEq, eq_self, decide_eq_false_iff_not, not_true_eq_false, not_false_eq_true, Nat.add_zero, Nat.succ_ne_self, Nat.one_ne_zero, Nat.zero_ne_one, nil_not]
    refine useE (bslice_zero _ _ _ rfl (by decide)) ?_
    have x1 : Ext no h.next h (h.alloc ⟨[], 1, 0, none⟩) := Ext.new _ _ _
    refine use (appendB (n := 2 ^ 46) (Own.mk (lo := h.next) (sz := 1) (cs := bsv []) (len := 0) (Nat.le_refl _) rfl) (Nat.le_succ _) (hv.keep x1 (Nat.le_refl _)) (by simpa using hl) (by decide)) ?_
    rintro v' h' ⟨x2, o2⟩
    (try simp only [run, Option.map_some, Nat.reduceEqDiff, Nat.reduceAdd, Nat.zero_add, ↓reduceIte, decide_eq_true_eq, decide_true, decide_false, Bool.not_true, Bool.not_false, Bool.true_eq_false, Bool.false_eq_true, List.getElem?_cons_zero, List.getElem?_cons_succ, List.nil_append, List.cons_append, reduceCtorEq, eq_self, decide_eq_false_iff_not, not_true_eq_false, not_false_eq_true, Nat.add_zero, Nat.succ_ne_self, Nat.one_ne_zero, Nat.zero_ne_one])
    exact ⟨x1.trans x2 (Nat.le_refl _), o2⟩

theorem clip_spec (hd : 1 ≤ d) {lo : Nat} {v : Value} {l : List UInt8} (hv : OwnB lo h v l) : aCall Try.prog n d 160 [v] h = some (v, h) := by
  obtain ⟨d, rfl, hd⟩ := depth hd
  obtain ⟨v, h', e, r⟩ := call_of (n := n) (d := d) (args := [v]) (h := h) (R := fun v' h' => v' = v ∧ h' = h) t160 (Nat.le_of_ble_eq_true rfl) (by
    simp only [c160, run, Option.map_some, Nat.reduceEqDiff, Nat.reduceAdd, Nat.zero_add, ↓reduceIte, decide_eq_true_eq, decide_true, decide_false, Bool.not_true, Bool.not_false, Bool.true_eq_false, Bool.false_eq_true, List.getElem?_cons_zero, List.getElem?_cons_succ, List.nil_append, List.cons_append, reduceCtorEq, eq_self, decide_eq_false_iff_not, not_true_eq_false, not_false_eq_true, Nat.add_zero, Nat.succ_ne_self, Nat.one_ne_zero, Nat.zero_ne_one, lenB hv.sl, Own.clip hv (n := l.length) (by simp [bsv_length]) (by decide), and_self])
  obtain ⟨rfl, rfl⟩ := r
  exact e

theorem mod_or (k : Nat) : k &&& 127 ||| 128 = k % 128 + 128 := by
  rw [show (127 : Nat) = 2 ^ 7 - 1 from rfl, Nat.and_two_pow_sub_one_eq_mod]
  have h : k % 2 ^ 7 < 2 ^ 7 := Nat.mod_lt _ (by decide)
  rw [show (128 : Nat) = 2 ^ 7 * 1 from rfl, Nat.or_comm, ← Nat.two_pow_add_eq_or_of_lt h]
  omega

theorem num_spec (hd : 2 ≤ d) (hn : 20 ≤ n) {v : Value} {l : List UInt8} {a : Int} (hv : Bytes 0 h.next h v l) (hl : l.length ≤ 2 ^ 45) :
    ∃ v' h', aCall Try.prog n d 111 [v, .int .i64 a] h = some (v', h') ∧ Ext no h.next h h' ∧ OwnB h.next h' v' (l ++ vnum (heldN a)) := by
  obtain ⟨d, rfl, hd⟩ := depth hd
  refine call_of t111 (Nat.le_of_ble_eq_true rfl) ?_
  simp only [c111, run, Option.map_some, Nat.reduceEqDiff, Nat.reduceAdd, Nat.zero_add, ↓reduceIte, decide_eq_true_eq, decide_true, decide_false, Bool.not_true, Bool.not_false, Bool.true_eq_false, Bool.false_eq_true, List.getElem?_cons_zero, List.getElem?_cons_succ, List.nil_append, List.cons_append, reduceCtorEq, eq_self, decide_eq_false_iff_not, not_true_eq_false, not_false_eq_true, Nat.add_zero, Nat.succ_ne_self, Nat.one_ne_zero, Nat.zero_ne_one]
  refine use (clone_spec (by omega) hv (by omega)) ?_
  rintro v1 h1 ⟨x1, o1⟩
  (try simp only [run, Option.map_some, Nat.reduceEqDiff, Nat.reduceAdd, Nat.zero_add, ↓reduceIte, decide_eq_true_eq, decide_true, decide_false, Bool.not_true, Bool.not_false, Bool.true_eq_false, Bool.false_eq_true, List.getElem?_cons_zero, List.getElem?_cons_succ, List.nil_append, List.cons_append, reduceCtorEq, eq_self, decide_eq_false_iff_not, not_true_eq_false, not_false_eq_true, Nat.add_zero, Nat.succ_ne_self, Nat.one_ne_zero, Nat.zero_ne_one])
  refine useE (clip_spec (by omega) o1) ?_
  (try simp only [run, Option.map_some, Nat.reduceEqDiff, Nat.reduceAdd, Nat.zero_add, ↓reduceIte, decide_eq_true_eq, decide_true, decide_false, Bool.not_true, Bool.not_false, Bool.true_eq_false, Bool.false_eq_true, List.getElem?_cons_zero, List.getElem?_cons_succ, List.nil_append, List.cons_append, reduceCtorEq, eq_self, decide_eq_false_iff_not, not_true_eq_false, not_false_eq_true, Nat.add_zero, Nat.succ_ne_self, Nat.one_ne_zero, Nat.zero_ne_one])
  refine useE (held_spec (by omega) a _) ?_
  (try simp only [run, Option.map_some, Nat.reduceEqDiff, Nat.reduceAdd, Nat.zero_add, ↓reduceIte, decide_eq_true_eq, decide_true, decide_false, Bool.not_true, Bool.not_false, Bool.true_eq_false, Bool.false_eq_true, List.getElem?_cons_zero, List.getElem?_cons_succ, List.nil_append, List.cons_append, reduceCtorEq, eq_self, decide_eq_false_iff_not, not_true_eq_false, not_false_eq_true, Nat.add_zero, Nat.succ_ne_self, Nat.one_ne_zero, Nat.zero_ne_one])
  refine w_loop (fun m E g => ∃ k p, k < 128 ^ (m + 1) ∧ k ≤ 4611686018427387904 ∧ E 1 = .int .i64 (k : Nat) ∧ Ext no h.next h g ∧ OwnB h.next g (E 5) (l ++ p) ∧ p.length + m ≤ 9 ∧ p ++ vnum k = vnum (heldN a)) 9 (by omega) ?_ ?_
  · refine ⟨heldN a, [], ?_, heldN_le a, ?_, x1, ?_, by simp, by simp⟩
    · have := heldN_le a; omega
    · simp only [run, Option.map_some, Nat.reduceEqDiff, Nat.reduceAdd, Nat.zero_add, ↓reduceIte, decide_eq_true_eq, decide_true, decide_false, Bool.not_true, Bool.not_false, Bool.true_eq_false, Bool.false_eq_true, List.getElem?_cons_zero, List.getElem?_cons_succ, List.nil_append, List.cons_append, reduceCtorEq, eq_self, decide_eq_false_iff_not, not_true_eq_false, not_false_eq_true, Nat.add_zero, Nat.succ_ne_self, Nat.one_ne_zero, Nat.zero_ne_one]
    · simpa only [run, Option.map_some, Nat.reduceEqDiff, Nat.reduceAdd, Nat.zero_add, ↓reduceIte, decide_eq_true_eq, decide_true, decide_false, Bool.not_true, Bool.not_false, Bool.true_eq_false, Bool.false_eq_true, List.getElem?_cons_zero, List.getElem?_cons_succ, List.nil_append, List.cons_append, reduceCtorEq, eq_self, decide_eq_false_iff_not, not_true_eq_false, not_false_eq_true, Nat.add_zero, Nat.succ_ne_self, Nat.one_ne_zero, Nat.zero_ne_one, List.append_nil] using o1
  · rintro m E g ⟨k, p, hk, hm, e1, x2, o2, hp, hq⟩
    simp only [run, Option.map_some, Nat.reduceEqDiff, Nat.reduceAdd, Nat.zero_add, ↓reduceIte, decide_eq_true_eq, decide_true, decide_false, Bool.not_true, Bool.not_false, Bool.true_eq_false, Bool.false_eq_true, List.getElem?_cons_zero, List.getElem?_cons_succ, List.nil_append, List.cons_append, reduceCtorEq, eq_self, decide_eq_false_iff_not, not_true_eq_false, not_false_eq_true, Nat.add_zero, Nat.succ_ne_self, Nat.one_ne_zero, Nat.zero_ne_one, e1]
    by_cases hk1 : k < 128
    · have hc : ¬ (128 : Int) ≤ k := by omega
      simp only [run, Option.map_some, Nat.reduceEqDiff, Nat.reduceAdd, Nat.zero_add, ↓reduceIte, decide_eq_true_eq, decide_true, decide_false, Bool.not_true, Bool.not_false, Bool.true_eq_false, Bool.false_eq_true, List.getElem?_cons_zero, List.getElem?_cons_succ, List.nil_append, List.cons_append, reduceCtorEq, eq_self, decide_eq_false_iff_not, not_true_eq_false, not_false_eq_true, Nat.add_zero, Nat.succ_ne_self, Nat.one_ne_zero, Nat.zero_ne_one, hc, e1, convN (k := .u8) (j := .i64) (fits_u8 (n := k) (by omega))]
      refine useE (bslice_one _ _ _ _) ?_
      (try simp only [run, Option.map_some, Nat.reduceEqDiff, Nat.reduceAdd, Nat.zero_add, ↓reduceIte, decide_eq_true_eq, decide_true, decide_false, Bool.not_true, Bool.not_false, Bool.true_eq_false, Bool.false_eq_true, List.getElem?_cons_zero, List.getElem?_cons_succ, List.nil_append, List.cons_append, reduceCtorEq, eq_self, decide_eq_false_iff_not, not_true_eq_false, not_false_eq_true, Nat.add_zero, Nat.succ_ne_self, Nat.one_ne_zero, Nat.zero_ne_one, e1])
      refine use (append_byte o2 x2.next (by omega) (by simp; omega)) ?_
      rintro v' h' ⟨x3, o3⟩
      (try simp only [run, Option.map_some, Nat.reduceEqDiff, Nat.reduceAdd, Nat.zero_add, ↓reduceIte, decide_eq_true_eq, decide_true, decide_false, Bool.not_true, Bool.not_false, Bool.true_eq_false, Bool.false_eq_true, List.getElem?_cons_zero, List.getElem?_cons_succ, List.nil_append, List.cons_append, reduceCtorEq, eq_self, decide_eq_false_iff_not, not_true_eq_false, not_false_eq_true, Nat.add_zero, Nat.succ_ne_self, Nat.one_ne_zero, Nat.zero_ne_one])
      refine ⟨x2.trans x3 (Nat.le_refl _), ?_⟩
      rw [← hq, vnum_lt hk1, ← List.append_assoc]
      exact o3
    · have hc : (128 : Int) ≤ k := by omega
      have h127 : fits .i64 127 := fits_i64 (by omega)
      have h128 : fits .i64 128 := fits_i64 (by omega)
      have hkf : fits .i64 k := fits_i64 (by omega)
      have a1 : binV .and 0 (.int .i64 k) (.int .i64 127) = some (.int .i64 ((k &&& 127 : Nat) : Int)) := b_and 0 hkf h127
      have a2 : binV .or 0 (.int .i64 ((k &&& 127 : Nat) : Int)) (.int .i64 128) = some (.int .i64 ((k % 128 + 128 : Nat) : Int)) := by rw [← mod_or]; exact b_or 0 (fits_mono hkf Nat.and_le_left) h128
      have a3 : binV .shr 0 (.int .i64 k) (.int .u64 7) = some (.int .i64 ((k / 128 : Nat) : Int)) := b_shrN 0 (k := .i64) (j := .u64) (a := k) (s := 7) (by decide)
      simp only [run, Option.map_some, Nat.reduceEqDiff, Nat.reduceAdd, Nat.zero_add, ↓reduceIte, decide_eq_true_eq, decide_true, decide_false, Bool.not_true, Bool.not_false, Bool.true_eq_false, Bool.false_eq_true, List.getElem?_cons_zero, List.getElem?_cons_succ, List.nil_append, List.cons_append, reduceCtorEq, eq_self, decide_eq_false_iff_not, not_true_eq_false, not_false_eq_true, Nat.add_zero, Nat.succ_ne_self, Nat.one_ne_zero, Nat.zero_ne_one, hc, e1, a1, a2, a3, convN (k := .u8) (j := .i64) (fits_u8 (n := k % 128 + 128) (by omega))]
      refine useE (bslice_one _ _ _ _) ?_
      (try simp only [run, Option.map_some, Nat.reduceEqDiff, Nat.reduceAdd, Nat.zero_add, ↓reduceIte, decide_eq_true_eq, decide_true, decide_false, Bool.not_true, Bool.not_false, Bool.true_eq_false, Bool.false_eq_true, List.getElem?_cons_zero, List.getElem?_cons_succ, List.nil_append, List.cons_append, reduceCtorEq, eq_self, decide_eq_false_iff_not, not_true_eq_false, not_false_eq_true, Nat.add_zero, Nat.succ_ne_self, Nat.one_ne_zero, Nat.zero_ne_one, e1])
      refine use (append_byte o2 x2.next (by omega) (by simp; omega)) ?_
      rintro v' h' ⟨x3, o3⟩
      (try simp only [run, Option.map_some, Nat.reduceEqDiff, Nat.reduceAdd, Nat.zero_add, ↓reduceIte, decide_eq_true_eq, decide_true, decide_false, Bool.not_true, Bool.not_false, Bool.true_eq_false, Bool.false_eq_true, List.getElem?_cons_zero, List.getElem?_cons_succ, List.nil_append, List.cons_append, reduceCtorEq, eq_self, decide_eq_false_iff_not, not_true_eq_false, not_false_eq_true, Nat.add_zero, Nat.succ_ne_self, Nat.one_ne_zero, Nat.zero_ne_one, e1, a3])
      have hm0 : m ≠ 0 := by intro e; subst e; omega
      refine ⟨m - 1, by omega, k / 128, p ++ [UInt8.ofNat (k % 128 + 128)], ?_, by omega, rfl, x2.trans x3 (Nat.le_refl _), ?_, ?_, ?_⟩
      · rw [Nat.div_lt_iff_lt_mul (by decide), ← Nat.pow_succ]
        have : (m - 1 + 1).succ = m + 1 := by omega
        rw [this]; exact hk
      · rw [← List.append_assoc]; exact o3
      · simp; omega
      · rw [← hq, vnum_ge hk1]; simp

end Go.Proofs.Ytapmpenkceomdaa
/- Numbers as bytes: what the document's functions that write them come to, and bytes with others behind. -/
set_option linter.unusedSimpArgs false
set_option linter.unusedVariables false
set_option maxRecDepth 20000
namespace Go.Proofs.Ytapmpenkceomdaa
open Go.Ab

variable {n d : Nat} {h : AHeap}

theorem heldN_nat {k : Nat} (hk : k ≤ 4611686018427387904) : heldN k = k := by unfold heldN; omega
def vbytes (x : List UInt8) : List UInt8 := vnum x.length ++ x
theorem vnum_len10 (k : Nat) (hk : k ≤ 4611686018427387904) : (vnum k).length ≤ 9 := vnum_len 8 k (by omega)

theorem rnum_spec (hd : 1 ≤ d) (hn : 20 ≤ n) {v : Value} {l : List UInt8} {a : Int} (hv : Bytes 0 h.next h v l) (hl : l.length ≤ 2 ^ 45) :
    ∃ v' h', aCall Try.prog n d 118 [v, .int .i64 a] h = some (v', h') ∧ Ext no h.next h h' ∧ OwnB h.next h' v' (l ++ vnum (heldN a)) := by
  obtain ⟨d, rfl, hd⟩ := depth hd
  refine call_of t118 (Nat.le_of_ble_eq_true rfl) ?_
  simp only [c118, run, Option.map_some, Nat.reduceEqDiff, Nat.reduceAdd, Nat.zero_add, ↓reduceIte, decide_eq_true_eq, decide_true, decide_false, Bool.not_true, Bool.not_false, Bool.true_eq_false, Bool.false_eq_true, List.getElem?_cons_zero, List.getElem?_cons_succ, List.nil_append, List.cons_append, reduceCtorEq, eq_self, decide_eq_false_iff_not, not_true_eq_false, not_false_eq_true, Nat.add_zero, Nat.succ_ne_self, Nat.one_ne_zero, Nat.zero_ne_one]
  refine useE (bslice_zero _ _ _ rfl (by decide)) ?_
  have x0 : Ext no h.next h (h.alloc ⟨[], 1, 0, none⟩) := Ext.new _ _ _
  refine use (appendB (n := 2 ^ 46) (Own.mk (lo := h.next) (sz := 1) (cs := bsv []) (len := 0) (Nat.le_refl _) rfl) (Nat.le_succ _) (hv.keep x0 (Nat.le_refl _)) (by simp; omega) (by decide)) ?_
  rintro v1 h1 ⟨x1', o1⟩
  have x1 := x0.trans x1' (Nat.le_refl _)
  rw [List.nil_append] at o1
  simp only [run, Option.map_some, Nat.reduceEqDiff, Nat.reduceAdd, Nat.zero_add, ↓reduceIte, decide_eq_true_eq, decide_true, decide_false, Bool.not_true, Bool.not_false, Bool.true_eq_false, Bool.false_eq_true, List.getElem?_cons_zero, List.getElem?_cons_succ, List.nil_append, List.cons_append, reduceCtorEq, eq_self, decide_eq_false_iff_not, not_true_eq_false, not_false_eq_true, Nat.add_zero, Nat.succ_ne_self, Nat.one_ne_zero, Nat.zero_ne_one, heldN_cast]
  refine w_loop (fun m E g => ∃ k p, k < 128 ^ (m + 1) ∧ k ≤ 4611686018427387904 ∧ E 1 = .int .i64 (k : Nat) ∧ Ext no h.next h g ∧ OwnB h.next g (E 5) (l ++ p) ∧ p.length + m ≤ 9 ∧ p ++ vnum k = vnum (heldN a)) 9 (by omega) ?_ ?_
  · refine ⟨heldN a, [], ?_, heldN_le a, ?_, x1, ?_, by simp, by simp⟩
    · have := heldN_le a; omega
    · simp only [run, Option.map_some, Nat.reduceEqDiff, Nat.reduceAdd, Nat.zero_add, ↓reduceIte, decide_eq_true_eq, decide_true, decide_false, Bool.not_true, Bool.not_false, Bool.true_eq_false, Bool.false_eq_true, List.getElem?_cons_zero, List.getElem?_cons_succ, List.nil_append, List.cons_append, reduceCtorEq, eq_self, decide_eq_false_iff_not, not_true_eq_false, not_false_eq_true, Nat.add_zero, Nat.succ_ne_self, Nat.one_ne_zero, Nat.zero_ne_one]
    · simpa only [run, Option.map_some, Nat.reduceEqDiff, Nat.reduceAdd, Nat.zero_add, ↓reduceIte, decide_eq_true_eq, decide_true, decide_false, Bool.not_true, Bool.not_false, Bool.true_eq_false, Bool.false_eq_true, List.getElem?_cons_zero, List.getElem?_cons_succ, List.nil_append, List.cons_append, reduceCtorEq, eq_self, decide_eq_false_iff_not, not_true_eq_false, not_false_eq_true, Nat.add_zero, Nat.succ_ne_self, Nat.one_ne_zero, Nat.zero_ne_one, List.append_nil] using o1
  · rintro m E g ⟨k, p, hk, hm, e1, x2, o2, hp, hq⟩
    simp only [run, Option.map_some, Nat.reduceEqDiff, Nat.reduceAdd, Nat.zero_add, ↓reduceIte, decide_eq_true_eq, decide_true, decide_false, Bool.not_true, Bool.not_false, Bool.true_eq_false, Bool.false_eq_true, List.getElem?_cons_zero, List.getElem?_cons_succ, List.nil_append, List.cons_append, reduceCtorEq, eq_self, decide_eq_false_iff_not, not_true_eq_false, not_false_eq_true, Nat.add_zero, Nat.succ_ne_self, Nat.one_ne_zero, Nat.zero_ne_one, e1]
    by_cases hk1 : k < 128
    · have hc : ¬ (127 : Int) < k := by omega
      simp only [run, Option.map_some, Nat.reduceEqDiff, Nat.reduceAdd, Nat.zero_add, ↓reduceIte, decide_eq_true_eq, decide_true, decide_false, Bool.not_true, Bool.not_false, Bool.true_eq_false, Bool.false_eq_true, List.getElem?_cons_zero, List.getElem?_cons_succ, List.nil_append, List.cons_append, reduceCtorEq, eq_self, decide_eq_false_iff_not, not_true_eq_false, not_false_eq_true, Nat.add_zero, Nat.succ_ne_self, Nat.one_ne_zero, Nat.zero_ne_one, hc, e1, convN (k := .u8) (j := .i64) (fits_u8 (n := k) (by omega))]
      refine useE (bslice_one _ _ _ _) ?_
      (try simp only [run, Option.map_some, Nat.reduceEqDiff, Nat.reduceAdd, Nat.zero_add, ↓reduceIte, decide_eq_true_eq, decide_true, decide_false, Bool.not_true, Bool.not_false, Bool.true_eq_false, Bool.false_eq_true, List.getElem?_cons_zero, List.getElem?_cons_succ, List.nil_append, List.cons_append, reduceCtorEq, eq_self, decide_eq_false_iff_not, not_true_eq_false, not_false_eq_true, Nat.add_zero, Nat.succ_ne_self, Nat.one_ne_zero, Nat.zero_ne_one, e1])
      refine use (append_byte o2 x2.next (by omega) (by simp; omega)) ?_
      rintro v' h' ⟨x3, o3⟩
      (try simp only [run, Option.map_some, Nat.reduceEqDiff, Nat.reduceAdd, Nat.zero_add, ↓reduceIte, decide_eq_true_eq, decide_true, decide_false, Bool.not_true, Bool.not_false, Bool.true_eq_false, Bool.false_eq_true, List.getElem?_cons_zero, List.getElem?_cons_succ, List.nil_append, List.cons_append, reduceCtorEq, eq_self, decide_eq_false_iff_not, not_true_eq_false, not_false_eq_true, Nat.add_zero, Nat.succ_ne_self, Nat.one_ne_zero, Nat.zero_ne_one])
      refine ⟨x2.trans x3 (Nat.le_refl _), ?_⟩
      rw [← hq, vnum_lt hk1, ← List.append_assoc]
      exact o3
    · have hc : (127 : Int) < k := by omega
      have h127 : fits .i64 127 := fits_i64 (by omega)
      have h128 : fits .i64 128 := fits_i64 (by omega)
      have hkf : fits .i64 k := fits_i64 (by omega)
      have a1 : binV .and 0 (.int .i64 k) (.int .i64 127) = some (.int .i64 ((k &&& 127 : Nat) : Int)) := b_and 0 hkf h127
      have a2 : binV .or 0 (.int .i64 ((k &&& 127 : Nat) : Int)) (.int .i64 128) = some (.int .i64 ((k % 128 + 128 : Nat) : Int)) := by rw [← mod_or]; exact b_or 0 (fits_mono hkf Nat.and_le_left) h128
      have a3 : binV .shr 0 (.int .i64 k) (.int .u64 7) = some (.int .i64 ((k / 128 : Nat) : Int)) := b_shrN 0 (k := .i64) (j := .u64) (a := k) (s := 7) (by decide)
      simp only [run, Option.map_some, Nat.reduceEqDiff, Nat.reduceAdd, Nat.zero_add, ↓reduceIte, decide_eq_true_eq, decide_true, decide_false, Bool.not_true, Bool.not_false, Bool.true_eq_false, Bool.false_eq_true, List.getElem?_cons_zero, List.getElem?_cons_succ, List.nil_append, List.cons_append, reduceCtorEq, eq_self, decide_eq_false_iff_not, not_true_eq_false, not_false_eq_true, Nat.add_zero, Nat.succ_ne_self, Nat.one_ne_zero, Nat.zero_ne_one, hc, e1, a1, a2, a3, convN (k := .u8) (j := .i64) (fits_u8 (n := k % 128 + 128) (by omega))]
      refine useE (bslice_one _ _ _ _) ?_
      (try simp only [run, Option.map_some, Nat.reduceEqDiff, Nat.reduceAdd, Nat.zero_add, ↓reduceIte, decide_eq_true_eq, decide_true, decide_false, Bool.not_true, Bool.not_false, Bool.true_eq_false, Bool.false_eq_true, List.getElem?_cons_zero, List.getElem?_cons_succ, List.nil_append, List.cons_append, reduceCtorEq, eq_self, decide_eq_false_iff_not, not_true_eq_false, not_false_eq_true, Nat.add_zero, Nat.succ_ne_self, Nat.one_ne_zero, Nat.zero_ne_one, e1])
      refine use (append_byte o2 x2.next (by omega) (by simp; omega)) ?_
      rintro v' h' ⟨x3, o3⟩
      (try simp only [run, Option.map_some, Nat.reduceEqDiff, Nat.reduceAdd, Nat.zero_add, ↓reduceIte, decide_eq_true_eq, decide_true, decide_false, Bool.not_true, Bool.not_false, Bool.true_eq_false, Bool.false_eq_true, List.getElem?_cons_zero, List.getElem?_cons_succ, List.nil_append, List.cons_append, reduceCtorEq, eq_self, decide_eq_false_iff_not, not_true_eq_false, not_false_eq_true, Nat.add_zero, Nat.succ_ne_self, Nat.one_ne_zero, Nat.zero_ne_one, e1, a3])
      have hm0 : m ≠ 0 := by intro e; subst e; omega
      refine ⟨m - 1, by omega, k / 128, p ++ [UInt8.ofNat (k % 128 + 128)], ?_, by omega, rfl, x2.trans x3 (Nat.le_refl _), ?_, ?_, ?_⟩
      · rw [Nat.div_lt_iff_lt_mul (by decide), ← Nat.pow_succ]
        have : (m - 1 + 1).succ = m + 1 := by omega
        rw [this]; exact hk
      · rw [← List.append_assoc]; exact o3
      · simp; omega
      · rw [← hq, vnum_ge hk1]; simp

theorem bytes_spec (hd : 3 ≤ d) (hn : 20 ≤ n) {v x : Value} {l m : List UInt8} (hv : Bytes 0 h.next h v l) (hx : Bytes 0 h.next h x m) (hl : l.length ≤ 2 ^ 45) (hm : m.length ≤ 2 ^ 45) :
    ∃ v' h', aCall Try.prog n d 110 [v, x] h = some (v', h') ∧ Ext no h.next h h' ∧ OwnB h.next h' v' (l ++ vbytes m) := by
  obtain ⟨d, rfl, hd⟩ := depth hd
  refine call_of t110 (Nat.le_of_ble_eq_true rfl) ?_
  simp only [c110, run, Option.map_some, Nat.reduceEqDiff, Nat.reduceAdd, Nat.zero_add, ↓reduceIte, decide_eq_true_eq, decide_true, decide_false, Bool.not_true, Bool.not_false, Bool.true_eq_false, Bool.false_eq_true, List.getElem?_cons_zero, List.getElem?_cons_succ, List.nil_append, List.cons_append, reduceCtorEq, eq_self, decide_eq_false_iff_not, not_true_eq_false, not_false_eq_true, Nat.add_zero, Nat.succ_ne_self, Nat.one_ne_zero, Nat.zero_ne_one, lenB hx]
  refine use (num_spec (by omega) hn hv hl) ?_
  rintro v1 h1 ⟨x1, o1⟩
  (try simp only [run, Option.map_some, Nat.reduceEqDiff, Nat.reduceAdd, Nat.zero_add, ↓reduceIte, decide_eq_true_eq, decide_true, decide_false, Bool.not_true, Bool.not_false, Bool.true_eq_false, Bool.false_eq_true, List.getElem?_cons_zero, List.getElem?_cons_succ, List.nil_append, List.cons_append, reduceCtorEq, eq_self, decide_eq_false_iff_not, not_true_eq_false, not_false_eq_true, Nat.add_zero, Nat.succ_ne_self, Nat.one_ne_zero, Nat.zero_ne_one])
  rw [heldN_nat (by omega)] at o1
  have := vnum_len10 m.length (by omega)
  refine use (appendB (n := 2 ^ 47) o1 x1.next (hx.keep x1 (Nat.le_refl _)) (by simp; omega) (by decide)) ?_
  rintro v2 h2 ⟨x2, o2⟩
  (try simp only [run, Option.map_some, Nat.reduceEqDiff, Nat.reduceAdd, Nat.zero_add, ↓reduceIte, decide_eq_true_eq, decide_true, decide_false, Bool.not_true, Bool.not_false, Bool.true_eq_false, Bool.false_eq_true, List.getElem?_cons_zero, List.getElem?_cons_succ, List.nil_append, List.cons_append, reduceCtorEq, eq_self, decide_eq_false_iff_not, not_true_eq_false, not_false_eq_true, Nat.add_zero, Nat.succ_ne_self, Nat.one_ne_zero, Nat.zero_ne_one])
  refine ⟨x1.trans x2 (Nat.le_refl _), ?_⟩
  unfold vbytes
  rw [← List.append_assoc]
  exact o2

theorem rbytes_spec (hd : 2 ≤ d) (hn : 20 ≤ n) {v x : Value} {l m : List UInt8} (hv : Bytes 0 h.next h v l) (hx : Bytes 0 h.next h x m) (hl : l.length ≤ 2 ^ 45) (hm : m.length ≤ 2 ^ 45) :
    ∃ v' h', aCall Try.prog n d 103 [v, x] h = some (v', h') ∧ Ext no h.next h h' ∧ OwnB h.next h' v' (l ++ vbytes m) := by
  obtain ⟨d, rfl, hd⟩ := depth hd
  refine call_of t103 (Nat.le_of_ble_eq_true rfl) ?_
  simp only [c103, run, Option.map_some, Nat.reduceEqDiff, Nat.reduceAdd, Nat.zero_add, ↓reduceIte, decide_eq_true_eq, decide_true, decide_false, Bool.not_true, Bool.not_false, Bool.true_eq_false, Bool.false_eq_true, List.getElem?_cons_zero, List.getElem?_cons_succ, List.nil_append, List.cons_append, reduceCtorEq, eq_self, decide_eq_false_iff_not, not_true_eq_false, not_false_eq_true, Nat.add_zero, Nat.succ_ne_self, Nat.one_ne_zero, Nat.zero_ne_one, lenB hx]
  refine use (rnum_spec (by omega) hn hv hl) ?_
  rintro v1 h1 ⟨x1, o1⟩
  (try simp only [run, Option.map_some, Nat.reduceEqDiff, Nat.reduceAdd, Nat.zero_add, ↓reduceIte, decide_eq_true_eq, decide_true, decide_false, Bool.not_true, Bool.not_false, Bool.true_eq_false, Bool.false_eq_true, List.getElem?_cons_zero, List.getElem?_cons_succ, List.nil_append, List.cons_append, reduceCtorEq, eq_self, decide_eq_false_iff_not, not_true_eq_false, not_false_eq_true, Nat.add_zero, Nat.succ_ne_self, Nat.one_ne_zero, Nat.zero_ne_one])
  rw [heldN_nat (by omega)] at o1
  have := vnum_len10 m.length (by omega)
  refine use (appendB (n := 2 ^ 47) o1 x1.next (hx.keep x1 (Nat.le_refl _)) (by simp; omega) (by decide)) ?_
  rintro v2 h2 ⟨x2, o2⟩
  (try simp only [run, Option.map_some, Nat.reduceEqDiff, Nat.reduceAdd, Nat.zero_add, ↓reduceIte, decide_eq_true_eq, decide_true, decide_false, Bool.not_true, Bool.not_false, Bool.true_eq_false, Bool.false_eq_true, List.getElem?_cons_zero, List.getElem?_cons_succ, List.nil_append, List.cons_append, reduceCtorEq, eq_self, decide_eq_false_iff_not, not_true_eq_false, not_false_eq_true, Nat.add_zero, Nat.succ_ne_self, Nat.one_ne_zero, Nat.zero_ne_one])
  refine ⟨x1.trans x2 (Nat.le_refl _), ?_⟩
  unfold vbytes
  rw [← List.append_assoc]
  exact o2

/-! Readers -/
/-- reading a number: from its i-th byte on -/
def rdGo (top : Nat) : Nat → Nat → List UInt8 → Option (Nat × List UInt8)
  | _, _, [] => none
  | i, acc, c :: l =>
    if 8 < i ∨ (c.toNat = 0 ∧ 0 < i) then none
    else if 128 ≤ c.toNat then rdGo top (i + 1) (acc + c.toNat % 128 * 2 ^ (7 * i)) l
    else if top < acc + c.toNat % 128 * 2 ^ (7 * i) then none
    else some (acc + c.toNat % 128 * 2 ^ (7 * i), l)
def rdNum (top : Int) : Option (List UInt8) → Nat × Option (List UInt8)
  | none => (0, none)
  | some l => match rdGo (heldN top) 0 0 l with
    | none => (0, none)
    | some (a, r) => (a, some r)
/-- reading bytes -/
def rdBytes (top : Int) (s : Option (List UInt8)) : List UInt8 × Option (List UInt8) :=
  match rdNum top s with
  | (_, none) => ([], none)
  | (a, some r) => if r.length < a then ([], none) else (r.take a, some (r.drop a))

/-- the program's reader at a block -/
def PR (g : AHeap) (p : Nat) (s : Option (List UInt8)) : Prop :=
  ∃ v bad l, g.get p = ⟨[v, .bool bad], 2, 0, none⟩ ∧ Bytes 0 p g v l ∧ l.length ≤ 2 ^ 45 ∧ isCell v = true ∧ (if bad then s = none ∧ l = [] else s = some l)
/-- the document's reader at a block -/
def RR (g : AHeap) (p : Nat) (s : Option (List UInt8)) : Prop :=
  ∃ v bad l, g.get p = ⟨[v, .bool bad], 2, 0, none⟩ ∧ Bytes 0 p g v l ∧ l.length ≤ 2 ^ 45 ∧ isCell v = true ∧ (if bad then s = none else s = some l)

theorem or_add {acc c i : Nat} (ha : acc < 2 ^ (7 * i)) : acc ||| c * 2 ^ (7 * i) = acc + c * 2 ^ (7 * i) := by
  rw [Nat.or_comm, Nat.mul_comm c, ← Nat.two_pow_add_eq_or_of_lt ha]
  omega

end Go.Proofs.Ytapmpenkceomdaa
/- The program's reader. -/
set_option linter.unusedSimpArgs false
set_option linter.unusedVariables false
set_option maxRecDepth 20000
namespace Go.Proofs.Ytapmpenkceomdaa
open Go.Ab

variable {n d : Nat} {h : AHeap}

theorem fail_spec (hd : 1 ≤ d) {p : Nat} {v : Value} {b : Bool} (hp : h.get p = ⟨[v, .bool b], 2, 0, none⟩) :
    ∃ v' h', aCall Try.prog n d 173 [.pointer (some ⟨p, 0, none⟩)] h = some (v', h') ∧ v' = .int .i64 0 ∧ h'.next = h.next ∧ Ext (one p) h.next h h' ∧ PR h' p none := by
  obtain ⟨d, rfl, hd⟩ := depth hd
  have hlt : p < h.next := lt_next (by rw [hp]; show 0 < 2; decide)
  refine call_of t173 (Nat.le_of_ble_eq_true rfl) ?_
  simp only [c173, run, Option.map_some, Nat.reduceEqDiff, Nat.reduceAdd, Nat.zero_add, ↓reduceIte, decide_eq_true_eq, decide_true, decide_false, Bool.not_true, Bool.not_false, Bool.true_eq_false, Bool.false_eq_true, List.getElem?_cons_zero, List.getElem?_cons_succ, List.nil_append, List.cons_append, reduceCtorEq, eq_self, decide_eq_false_iff_not, not_true_eq_false, not_false_eq_true, Nat.add_zero, Nat.succ_ne_self, Nat.one_ne_zero, Nat.zero_ne_one]
  refine use1 (st_cell hp rfl (by simp)) ?_
  (try simp only [run, Option.map_some, Nat.reduceEqDiff, Nat.reduceAdd, Nat.zero_add, ↓reduceIte, decide_eq_true_eq, decide_true, decide_false, Bool.not_true, Bool.not_false, Bool.true_eq_false, Bool.false_eq_true, List.getElem?_cons_zero, List.getElem?_cons_succ, List.nil_append, List.cons_append, reduceCtorEq, eq_self, decide_eq_false_iff_not, not_true_eq_false, not_false_eq_true, Nat.add_zero, Nat.succ_ne_self, Nat.one_ne_zero, Nat.zero_ne_one])
  have h1 := get_upd_self (h := h) (m := p) ⟨[Value.slice none 0 0, .bool b], 2, 0, none⟩ hlt
  refine use1 (st_cell h1 rfl (by simp)) ?_
  simp only [run, Option.map_some, Nat.reduceEqDiff, Nat.reduceAdd, Nat.zero_add, ↓reduceIte, decide_eq_true_eq, decide_true, decide_false, Bool.not_true, Bool.not_false, Bool.true_eq_false, Bool.false_eq_true, List.getElem?_cons_zero, List.getElem?_cons_succ, List.nil_append, List.cons_append, reduceCtorEq, eq_self, decide_eq_false_iff_not, not_true_eq_false, not_false_eq_true, Nat.add_zero, Nat.succ_ne_self, Nat.one_ne_zero, Nat.zero_ne_one, upd_next, true_and]
  refine ⟨((Ext.refl (one p) _ _).upd (.inr rfl) _).upd (.inr rfl) _, .slice none 0 0, true, [], ?_, Sl.nil, by decide, rfl, ?_⟩
  · exact get_upd_self _ hlt
  · exact ⟨rfl, rfl⟩

theorem mod_and (k : Nat) : k &&& 127 = k % 128 := by
  rw [show (127 : Nat) = 2 ^ 7 - 1 from rfl, Nat.and_two_pow_sub_one_eq_mod]

theorem pnum_spec (hd : 2 ≤ d) (hn : 20 ≤ n) {p : Nat} {s : Option (List UInt8)} {top : Int} (hp : PR h p s) :
    ∃ v' h', aCall Try.prog n d 154 [.pointer (some ⟨p, 0, none⟩), .int .i64 top] h = some (v', h') ∧ v' = .int .i64 (rdNum top s).1 ∧ h'.next = h.next ∧ Ext (one p) h.next h h' ∧ PR h' p (rdNum top s).2 := by
  obtain ⟨d, rfl, hd⟩ := depth hd
  obtain ⟨v, bad, l, hb, hv, hl, hcell, hs⟩ := hp
  have hlt : p < h.next := lt_next (by rw [hb]; show 0 < 2; decide)
  have L0 : h.load1 p 0 = some v := by rw [ld_cell hb (by decide)]; rfl
  -- what there is to read
  have key : rdNum top s = match rdGo (heldN top) 0 0 l with
      | none => (0, none)
      | some (a, r) => (a, some r) := by
    cases bad with
    | true => obtain ⟨rfl, rfl⟩ := hs; rfl
    | false => have : s = some l := hs; rw [this]; rfl
  rw [key]
  refine call_of t154 (Nat.le_of_ble_eq_true rfl) ?_
  simp only [c154, run, Option.map_some, Nat.reduceEqDiff, Nat.reduceAdd, Nat.zero_add, ↓reduceIte, decide_eq_true_eq, decide_true, decide_false, Bool.not_true, Bool.not_false, Bool.true_eq_false, Bool.false_eq_true, List.getElem?_cons_zero, List.getElem?_cons_succ, List.nil_append, List.cons_append, reduceCtorEq, eq_self, decide_eq_false_iff_not, not_true_eq_false, not_false_eq_true, Nat.add_zero, Nat.succ_ne_self, Nat.one_ne_zero, Nat.zero_ne_one, L0, lenB hv]
  refine w_loop (fun m E g => ∃ i acc, i + m = 9 ∧ i ≤ l.length ∧ acc < 2 ^ (7 * i) ∧ g = h ∧ E 0 = .pointer (some ⟨p, 0, none⟩) ∧ E 1 = .int .i64 top ∧ E 5 = .int .i64 (acc : Nat) ∧ E 11 = v ∧ E 12 = .int .i64 l.length ∧ E 13 = .int .i64 (i : Nat) ∧
    rdGo (heldN top) 0 0 l = rdGo (heldN top) i acc (l.drop i)) 9 (by omega) ?_ ?_
  · exact ⟨0, 0, by omega, by omega, by decide, rfl, rfl, rfl, rfl, rfl, rfl, rfl, rfl⟩
  · rintro m E g ⟨i, acc, hm, hi, hacc, rfl, e0, e1, e5, e11, e12, e13, hq⟩
    have fin : rdGo (heldN top) i acc (l.drop i) = none → ∃ v' h', aCall Try.prog n d 173 [.pointer (some ⟨p, 0, none⟩)] g = some (v', h') ∧ v' = .int .i64 (match rdGo (heldN top) 0 0 l with
      | none => ((0 : Nat), none)
      | some (a, r) => (a, some r)).1 ∧ h'.next = g.next ∧ Ext (one p) g.next g h' ∧ PR h' p (match rdGo (heldN top) 0 0 l with
      | none => ((0 : Nat), none)
      | some (a, r) => (a, some r)).2 := by
      intro hnone
      rw [hq, hnone]
      exact fail_spec (by omega) hb
    simp only [run, Option.map_some, Nat.reduceEqDiff, Nat.reduceAdd, Nat.zero_add, ↓reduceIte, decide_eq_true_eq, decide_true, decide_false, Bool.not_true, Bool.not_false, Bool.true_eq_false, Bool.false_eq_true, List.getElem?_cons_zero, List.getElem?_cons_succ, List.nil_append, List.cons_append, reduceCtorEq, eq_self, decide_eq_false_iff_not, not_true_eq_false, not_false_eq_true, Nat.add_zero, Nat.succ_ne_self, Nat.one_ne_zero, Nat.zero_ne_one, e0, e1, e5, e11, e12, e13]
    by_cases hil : i < l.length
    · have hc : (i : Int) < l.length := by omega
      obtain ⟨q, o, a1, _, a2⟩ := loadB (k := .i64) hv hil
      have hdrop : l.drop i = l[i] :: l.drop (i + 1) := List.drop_eq_getElem_cons hil
      rw [hdrop] at hq fin
      simp only [rdGo] at hq fin
      have hcl : l[i].toNat < 256 := l[i].toNat_lt
      generalize l[i].toNat = c at *
      simp only [hc, run, Option.map_some, Nat.reduceEqDiff, Nat.reduceAdd, Nat.zero_add, ↓reduceIte, decide_eq_true_eq, decide_true, decide_false, Bool.not_true, Bool.not_false, Bool.true_eq_false, Bool.false_eq_true, List.getElem?_cons_zero, List.getElem?_cons_succ, List.nil_append, List.cons_append, reduceCtorEq, eq_self, decide_eq_false_iff_not, not_true_eq_false, not_false_eq_true, Nat.add_zero, Nat.succ_ne_self, Nat.one_ne_zero, Nat.zero_ne_one, e0, e1, e5, e11, e12, e13, a1, a2]
      by_cases h8 : 8 < i
      · have hc8 : (8 : Int) < i := by omega
        simp only [hc8, run, Option.map_some, Nat.reduceEqDiff, Nat.reduceAdd, Nat.zero_add, ↓reduceIte, decide_eq_true_eq, decide_true, decide_false, Bool.not_true, Bool.not_false, Bool.true_eq_false, Bool.false_eq_true, List.getElem?_cons_zero, List.getElem?_cons_succ, List.nil_append, List.cons_append, reduceCtorEq, eq_self, decide_eq_false_iff_not, not_true_eq_false, not_false_eq_true, Nat.add_zero, Nat.succ_ne_self, Nat.one_ne_zero, Nat.zero_ne_one, e0]
        rw [if_pos (.inl h8)] at fin
        refine use (fin rfl) ?_
        rintro v' h' r
        simpa only [run, Option.map_some, Nat.reduceEqDiff, Nat.reduceAdd, Nat.zero_add, ↓reduceIte, decide_eq_true_eq, decide_true, decide_false, Bool.not_true, Bool.not_false, Bool.true_eq_false, Bool.false_eq_true, List.getElem?_cons_zero, List.getElem?_cons_succ, List.nil_append, List.cons_append, reduceCtorEq, eq_self, decide_eq_false_iff_not, not_true_eq_false, not_false_eq_true, Nat.add_zero, Nat.succ_ne_self, Nat.one_ne_zero, Nat.zero_ne_one] using r
      · have hc8 : ¬ (8 : Int) < i := by omega
        by_cases hz0 : c = 0 ∧ 0 < i
        · have z1 : (c : Int) = 0 := by omega
          have z2 : (0 : Int) < i := by omega
          simp only [hc8, z1, z2, run, Option.map_some, Nat.reduceEqDiff, Nat.reduceAdd, Nat.zero_add, ↓reduceIte, decide_eq_true_eq, decide_true, decide_false, Bool.not_true, Bool.not_false, Bool.true_eq_false, Bool.false_eq_true, List.getElem?_cons_zero, List.getElem?_cons_succ, List.nil_append, List.cons_append, reduceCtorEq, eq_self, decide_eq_false_iff_not, not_true_eq_false, not_false_eq_true, Nat.add_zero, Nat.succ_ne_self, Nat.one_ne_zero, Nat.zero_ne_one, e0]
          rw [if_pos (.inr hz0)] at fin
          refine use (fin rfl) ?_
          rintro v' h' r
          simpa only [run, Option.map_some, Nat.reduceEqDiff, Nat.reduceAdd, Nat.zero_add, ↓reduceIte, decide_eq_true_eq, decide_true, decide_false, Bool.not_true, Bool.not_false, Bool.true_eq_false, Bool.false_eq_true, List.getElem?_cons_zero, List.getElem?_cons_succ, List.nil_append, List.cons_append, reduceCtorEq, eq_self, decide_eq_false_iff_not, not_true_eq_false, not_false_eq_true, Nat.add_zero, Nat.succ_ne_self, Nat.one_ne_zero, Nat.zero_ne_one] using r
        · rw [if_neg (by omega)] at hq fin
          have hpw : 2 ^ (7 * i) ≤ 2 ^ 56 := Nat.pow_le_pow_right (by decide) (by omega)
          have hpw' : 2 ^ (7 * (i + 1)) = 128 * 2 ^ (7 * i) := by rw [Nat.mul_add, Nat.pow_add]; omega
          have hcm : c % 128 * 2 ^ (7 * i) ≤ 127 * 2 ^ (7 * i) := Nat.mul_le_mul_right _ (by omega)
          have hcm2 : c % 128 * 2 ^ (7 * i) ≤ 127 * 2 ^ 56 := Nat.le_trans hcm (Nat.mul_le_mul_left _ hpw)
          have a3 : binV .and 0 (.int .u8 c) (.int .u8 127) = some (.int .u8 ((c % 128 : Nat) : Int)) := by
            rw [← mod_and]; exact b_and 0 (fits_u8 hcl) (fits_u8 (n := 127) (by decide))
          have a4 : convV .i64 (.int .u8 ((c % 128 : Nat) : Int)) = some (.int .i64 ((c % 128 : Nat) : Int)) := convN (fits_i64 (by omega))
          have a5 : binV .mul 0 (.int .i64 7) (.int .i64 i) = some (.int .i64 ((7 * i : Nat) : Int)) := b_mulN 0 (k := .i64) (a := 7) (b := i) (fits_i64 (by omega))
          have a6 : binV .shl 0 (.int .i64 ((c % 128 : Nat) : Int)) (.int .i64 ((7 * i : Nat) : Int)) = some (.int .i64 ((c % 128 * 2 ^ (7 * i) : Nat) : Int)) := b_shlN 0 (by show 7 * i ≤ 64; omega) (fits_i64 (by omega))
          have a7 : binV .or 0 (.int .i64 acc) (.int .i64 ((c % 128 * 2 ^ (7 * i) : Nat) : Int)) = some (.int .i64 ((acc + c % 128 * 2 ^ (7 * i) : Nat) : Int)) := by
            rw [← or_add hacc]; exact b_or 0 (fits_i64 (by omega)) (fits_i64 (by omega))
          have a8 : binV .add 0 (.int .i64 i) (.int .i64 1) = some (.int .i64 ((i + 1 : Nat) : Int)) := b_addN 0 (k := .i64) (a := i) (b := 1) (fits_i64 (by omega))
          have z : (((c : Int) = 0) = True ∧ ((0 : Int) < i) = False) ∨ (((c : Int) = 0) = False ∧ ((c : Int) = 0) = False) := by
            by_cases z1 : c = 0
            · left; exact ⟨eq_true (by omega), eq_false (by omega)⟩
            · right; exact ⟨eq_false (by omega), eq_false (by omega)⟩
          rcases z with ⟨z1, z2⟩ | ⟨z1, z2⟩
          all_goals
            simp only [hc8, z1, z2, run, Option.map_some, Nat.reduceEqDiff, Nat.reduceAdd, Nat.zero_add, ↓reduceIte, decide_eq_true_eq, decide_true, decide_false, Bool.not_true, Bool.not_false, Bool.true_eq_false, Bool.false_eq_true, List.getElem?_cons_zero, List.getElem?_cons_succ, List.nil_append, List.cons_append, reduceCtorEq, eq_self, decide_eq_false_iff_not, not_true_eq_false, not_false_eq_true, Nat.add_zero, Nat.succ_ne_self, Nat.one_ne_zero, Nat.zero_ne_one, e0, e1, e5, e11, e12, e13]
            simp only [a3, a4, a5, a6, a7, run, Option.map_some, Nat.reduceEqDiff, Nat.reduceAdd, Nat.zero_add, ↓reduceIte, decide_eq_true_eq, decide_true, decide_false, Bool.not_true, Bool.not_false, Bool.true_eq_false, Bool.false_eq_true, List.getElem?_cons_zero, List.getElem?_cons_succ, List.nil_append, List.cons_append, reduceCtorEq, eq_self, decide_eq_false_iff_not, not_true_eq_false, not_false_eq_true, Nat.add_zero, Nat.succ_ne_self, Nat.one_ne_zero, Nat.zero_ne_one, e0, e1, e5, e11, e12, e13]
            by_cases h128 : 128 ≤ c
            · have hc9 : (128 : Int) ≤ c := by omega
              rw [if_pos h128] at hq
              simp only [hc9, run, Option.map_some, Nat.reduceEqDiff, Nat.reduceAdd, Nat.zero_add, ↓reduceIte, decide_eq_true_eq, decide_true, decide_false, Bool.not_true, Bool.not_false, Bool.true_eq_false, Bool.false_eq_true, List.getElem?_cons_zero, List.getElem?_cons_succ, List.nil_append, List.cons_append, reduceCtorEq, eq_self, decide_eq_false_iff_not, not_true_eq_false, not_false_eq_true, Nat.add_zero, Nat.succ_ne_self, Nat.one_ne_zero, Nat.zero_ne_one, a8, e0, e1, e5, e11, e12, e13]
              exact ⟨m - 1, by omega, i + 1, acc + c % 128 * 2 ^ (7 * i), by omega, by omega, by omega, (by first | rfl | trivial), (by first | rfl | trivial), (by first | rfl | trivial), (by first | rfl | trivial), (by first | rfl | trivial), (by first | rfl | trivial), (by first | rfl | trivial), hq⟩
            · have hc9 : ¬ (128 : Int) ≤ c := by omega
              rw [if_neg h128] at hq fin
              simp only [hc9, run, Option.map_some, Nat.reduceEqDiff, Nat.reduceAdd, Nat.zero_add, ↓reduceIte, decide_eq_true_eq, decide_true, decide_false, Bool.not_true, Bool.not_false, Bool.true_eq_false, Bool.false_eq_true, List.getElem?_cons_zero, List.getElem?_cons_succ, List.nil_append, List.cons_append, reduceCtorEq, eq_self, decide_eq_false_iff_not, not_true_eq_false, not_false_eq_true, Nat.add_zero, Nat.succ_ne_self, Nat.one_ne_zero, Nat.zero_ne_one, e0, e1, e5, e11, e12, e13]
              refine useE (held_spec (by omega) top _) ?_
              simp only [run, Option.map_some, Nat.reduceEqDiff, Nat.reduceAdd, Nat.zero_add, ↓reduceIte, decide_eq_true_eq, decide_true, decide_false, Bool.not_true, Bool.not_false, Bool.true_eq_false, Bool.false_eq_true, List.getElem?_cons_zero, List.getElem?_cons_succ, List.nil_append, List.cons_append, reduceCtorEq, eq_self, decide_eq_false_iff_not, not_true_eq_false, not_false_eq_true, Nat.add_zero, Nat.succ_ne_self, Nat.one_ne_zero, Nat.zero_ne_one, e0, e1, e5, e11, e12, e13]
              by_cases htop : heldN top < acc + c % 128 * 2 ^ (7 * i)
              · have hc10 : ((heldN top : Nat) : Int) < ((acc + c % 128 * 2 ^ (7 * i) : Nat) : Int) := by omega
                rw [if_pos htop] at fin
                simp only [hc10, run, Option.map_some, Nat.reduceEqDiff, Nat.reduceAdd, Nat.zero_add, ↓reduceIte, decide_eq_true_eq, decide_true, decide_false, Bool.not_true, Bool.not_false, Bool.true_eq_false, Bool.false_eq_true, List.getElem?_cons_zero, List.getElem?_cons_succ, List.nil_append, List.cons_append, reduceCtorEq, eq_self, decide_eq_false_iff_not, not_true_eq_false, not_false_eq_true, Nat.add_zero, Nat.succ_ne_self, Nat.one_ne_zero, Nat.zero_ne_one, e0]
                refine use (fin rfl) ?_
                rintro v' h' r
                simpa only [run, Option.map_some, Nat.reduceEqDiff, Nat.reduceAdd, Nat.zero_add, ↓reduceIte, decide_eq_true_eq, decide_true, decide_false, Bool.not_true, Bool.not_false, Bool.true_eq_false, Bool.false_eq_true, List.getElem?_cons_zero, List.getElem?_cons_succ, List.nil_append, List.cons_append, reduceCtorEq, eq_self, decide_eq_false_iff_not, not_true_eq_false, not_false_eq_true, Nat.add_zero, Nat.succ_ne_self, Nat.one_ne_zero, Nat.zero_ne_one] using r
              · have hc10 : ¬ ((heldN top : Nat) : Int) < ((acc + c % 128 * 2 ^ (7 * i) : Nat) : Int) := by omega
                rw [if_neg htop] at hq
                obtain ⟨v2, b1, b2⟩ := cutB hv (a := i + 1) (b := l.length) (by omega) (Nat.le_refl _)
                rw [List.take_of_length_le (by simp)] at b1
                simp only [hc10, run, Option.map_some, Nat.reduceEqDiff, Nat.reduceAdd, Nat.zero_add, ↓reduceIte, decide_eq_true_eq, decide_true, decide_false, Bool.not_true, Bool.not_false, Bool.true_eq_false, Bool.false_eq_true, List.getElem?_cons_zero, List.getElem?_cons_succ, List.nil_append, List.cons_append, reduceCtorEq, eq_self, decide_eq_false_iff_not, not_true_eq_false, not_false_eq_true, Nat.add_zero, Nat.succ_ne_self, Nat.one_ne_zero, Nat.zero_ne_one, e0, L0, e5, e11, e12, e13, a8, b2 (some (.int .i64 ((i + 1 : Nat) : Int))) none (.inl rfl) (.inr ⟨rfl, rfl⟩)]
                refine use1 (st_cell hb b1.cell (by simp)) ?_
                simp only [run, Option.map_some, Nat.reduceEqDiff, Nat.reduceAdd, Nat.zero_add, ↓reduceIte, decide_eq_true_eq, decide_true, decide_false, Bool.not_true, Bool.not_false, Bool.true_eq_false, Bool.false_eq_true, List.getElem?_cons_zero, List.getElem?_cons_succ, List.nil_append, List.cons_append, reduceCtorEq, eq_self, decide_eq_false_iff_not, not_true_eq_false, not_false_eq_true, Nat.add_zero, Nat.succ_ne_self, Nat.one_ne_zero, Nat.zero_ne_one, hq, upd_next, true_and]
                have x1 : Ext (one p) g.next g (g.upd p ⟨[v, .bool bad].set 0 v2, 2, 0, none⟩) := (Ext.refl (one p) _ _).upd (.inr rfl) _
                refine ⟨x1, v2, bad, l.drop (i + 1), get_upd_self _ hlt, b1.ext x1 (by omega) (by intro m hm1 hm2 (hm3 : m = p); omega), by simp; omega, b1.cell, ?_⟩
                cases bad with
                | true =>
                  obtain ⟨_, rfl⟩ := hs
                  simp at hil
                | false => rfl
    · have hc : ¬ (i : Int) < l.length := by omega
      simp only [hc, run, Option.map_some, Nat.reduceEqDiff, Nat.reduceAdd, Nat.zero_add, ↓reduceIte, decide_eq_true_eq, decide_true, decide_false, Bool.not_true, Bool.not_false, Bool.true_eq_false, Bool.false_eq_true, List.getElem?_cons_zero, List.getElem?_cons_succ, List.nil_append, List.cons_append, reduceCtorEq, eq_self, decide_eq_false_iff_not, not_true_eq_false, not_false_eq_true, Nat.add_zero, Nat.succ_ne_self, Nat.one_ne_zero, Nat.zero_ne_one, e0]
      refine use (fin (by rw [List.drop_eq_nil_of_le (by omega)]; rfl)) ?_
      rintro v' h' r
      simpa only [run, Option.map_some, Nat.reduceEqDiff, Nat.reduceAdd, Nat.zero_add, ↓reduceIte, decide_eq_true_eq, decide_true, decide_false, Bool.not_true, Bool.not_false, Bool.true_eq_false, Bool.false_eq_true, List.getElem?_cons_zero, List.getElem?_cons_succ, List.nil_append, List.cons_append, reduceCtorEq, eq_self, decide_eq_false_iff_not, not_true_eq_false, not_false_eq_true, Nat.add_zero, Nat.succ_ne_self, Nat.one_ne_zero, Nat.zero_ne_one] using r

end Go.Proofs.Ytapmpenkceomdaa
/- The program's reader: bytes, its ends. -/
set_option linter.unusedSimpArgs false
set_option linter.unusedVariables false
set_option maxRecDepth 20000
namespace Go.Proofs.Ytapmpenkceomdaa
open Go.Ab

variable {n d : Nat} {h : AHeap}

theorem PR.lt {p : Nat} {s : Option (List UInt8)} (r : PR h p s) : p < h.next := by
  obtain ⟨v, bad, l, hb, _⟩ := r
  exact lt_next (by rw [hb]; show 0 < 2; decide)
theorem PR.ext {p : Nat} {s : Option (List UInt8)} {S : Nat → Prop} {lo : Nat} {h' : AHeap} (r : PR h p s) (x : Ext S lo h h') (hl : p < lo) (hs : ∀ m, m ≤ p → ¬ S m) : PR h' p s := by
  obtain ⟨v, bad, l, hb, hv, hr⟩ := r
  exact ⟨v, bad, l, by rw [x.get p hl (hs p (Nat.le_refl _))]; exact hb, hv.ext x (by omega) (fun m _ hm => hs m (by omega)), hr⟩

theorem read_spec (hd : 2 ≤ d) {v : Value} {l : List UInt8} (hv : Bytes 0 h.next h v l) (hl : l.length ≤ 2 ^ 45) :
    ∃ v' h', aCall Try.prog n d 153 [v] h = some (v', h') ∧ ∃ p, v' = .pointer (some ⟨p, 0, none⟩) ∧ h.next ≤ p ∧ Ext no h.next h h' ∧ h'.next = p + 1 ∧ PR h' p (some l) := by
  obtain ⟨d, rfl, hd⟩ := depth hd
  refine call_of t153 (Nat.le_of_ble_eq_true rfl) ?_
  simp only [c153, run, Option.map_some, Nat.reduceEqDiff, Nat.reduceAdd, Nat.zero_add, ↓reduceIte, decide_eq_true_eq, decide_true, decide_false, Bool.not_true, Bool.not_false, Bool.true_eq_false, Bool.false_eq_true, List.getElem?_cons_zero, List.getElem?_cons_succ, List.nil_append, List.cons_append, reduceCtorEq, eq_self, decide_eq_false_iff_not, not_true_eq_false, not_false_eq_true, Nat.add_zero, Nat.succ_ne_self, Nat.one_ne_zero, Nat.zero_ne_one]
  refine use (clone_spec (by omega) hv (by omega)) ?_
  rintro v1 h1 ⟨x1, o1⟩
  have e : fillV [.slice none 0 0, .bool false] [(0, 1, v1)] = some [v1, .bool false] := by
    simp [fillV, cells_of o1.sl.cell, splice]
  simp only [run, Option.map_some, Nat.reduceEqDiff, Nat.reduceAdd, Nat.zero_add, ↓reduceIte, decide_eq_true_eq, decide_true, decide_false, Bool.not_true, Bool.not_false, Bool.true_eq_false, Bool.false_eq_true, List.getElem?_cons_zero, List.getElem?_cons_succ, List.nil_append, List.cons_append, reduceCtorEq, eq_self, decide_eq_false_iff_not, not_true_eq_false, not_false_eq_true, Nat.add_zero, Nat.succ_ne_self, Nat.one_ne_zero, Nat.zero_ne_one, e]
  refine ⟨h1.next, rfl, x1.next, x1.trans ((Ext.new _ _ _).less x1.next) (Nat.le_refl _), rfl, v1, false, l, ?_, ?_, hl, o1.sl.cell, rfl⟩
  · rw [get_alloc, if_pos rfl]; rfl
  · exact (o1.sl.more (Nat.zero_le _) (Nat.le_refl _)).keep (Ext.new _ _ _) (Nat.le_refl _)

theorem ok_spec (hd : 1 ≤ d) {p : Nat} {s : Option (List UInt8)} (hp : PR h p s) : aCall Try.prog n d 174 [.pointer (some ⟨p, 0, none⟩)] h = some (.bool s.isSome, h) := by
  obtain ⟨d, rfl, hd⟩ := depth hd
  obtain ⟨v, bad, l, hb, hv, hl, hcell, hs⟩ := hp
  have L1 : h.load1 p 1 = some (.bool bad) := by rw [ld_cell hb (by decide)]; rfl
  obtain ⟨v', h', e, r⟩ := call_of (n := n) (d := d) (args := [.pointer (some ⟨p, 0, none⟩)]) (h := h) (R := fun v' h' => v' = .bool s.isSome ∧ h' = h) t174 (Nat.le_of_ble_eq_true rfl) (by
    simp only [c174, run, Option.map_some, Nat.reduceEqDiff, Nat.reduceAdd, Nat.zero_add, ↓reduceIte, decide_eq_true_eq, decide_true, decide_false, Bool.not_true, Bool.not_false, Bool.true_eq_false, Bool.false_eq_true, List.getElem?_cons_zero, List.getElem?_cons_succ, List.nil_append, List.cons_append, reduceCtorEq, eq_self, decide_eq_false_iff_not, not_true_eq_false, not_false_eq_true, Nat.add_zero, Nat.succ_ne_self, Nat.one_ne_zero, Nat.zero_ne_one, L1, and_true]
    cases bad with
    | true => obtain ⟨rfl, _⟩ := hs; rfl
    | false => have : s = some l := hs; rw [this]; rfl)
  obtain ⟨rfl, rfl⟩ := r
  exact e

theorem end_spec (hd : 1 ≤ d) {p : Nat} {s : Option (List UInt8)} (hp : PR h p s) : aCall Try.prog n d 158 [.pointer (some ⟨p, 0, none⟩)] h = some (.bool (decide (s = some [])), h) := by
  obtain ⟨d, rfl, hd⟩ := depth hd
  obtain ⟨v, bad, l, hb, hv, hl, hcell, hs⟩ := hp
  have L0 : h.load1 p 0 = some v := by rw [ld_cell hb (by decide)]; rfl
  have L1 : h.load1 p 1 = some (.bool bad) := by rw [ld_cell hb (by decide)]; rfl
  obtain ⟨v', h', e, r⟩ := call_of (n := n) (d := d) (args := [.pointer (some ⟨p, 0, none⟩)]) (h := h) (R := fun v' h' => v' = .bool (decide (s = some [])) ∧ h' = h) t158 (Nat.le_of_ble_eq_true rfl) (by
    cases bad with
    | true =>
      obtain ⟨rfl, _⟩ := hs
      simp only [c158, run, Option.map_some, Nat.reduceEqDiff, Nat.reduceAdd, Nat.zero_add, ↓reduceIte, decide_eq_true_eq, decide_true, decide_false, Bool.not_true, Bool.not_false, Bool.true_eq_false, Bool.false_eq_true, List.getElem?_cons_zero, List.getElem?_cons_succ, List.nil_append, List.cons_append, reduceCtorEq, eq_self, decide_eq_false_iff_not, not_true_eq_false, not_false_eq_true, Nat.add_zero, Nat.succ_ne_self, Nat.one_ne_zero, Nat.zero_ne_one, L1, and_true]
    | false =>
      have : s = some l := hs
      rw [this]
      simp only [c158, run, Option.map_some, Nat.reduceEqDiff, Nat.reduceAdd, Nat.zero_add, ↓reduceIte, decide_eq_true_eq, decide_true, decide_false, Bool.not_true, Bool.not_false, Bool.true_eq_false, Bool.false_eq_true, List.getElem?_cons_zero, List.getElem?_cons_succ, List.nil_append, List.cons_append, reduceCtorEq, eq_self, decide_eq_false_iff_not, not_true_eq_false, not_false_eq_true, Nat.add_zero, Nat.succ_ne_self, Nat.one_ne_zero, Nat.zero_ne_one, L1, L0, lenB hv, and_true]
      cases l <;> simp <;> omega)
  obtain ⟨rfl, rfl⟩ := r
  exact e

theorem pbytes_spec (hd : 3 ≤ d) (hn : 20 ≤ n) {p : Nat} {s : Option (List UInt8)} {top : Int} (hp : PR h p s) :
    ∃ v' h', aCall Try.prog n d 155 [.pointer (some ⟨p, 0, none⟩), .int .i64 top] h = some (v', h') ∧ OwnB h.next h' v' (rdBytes top s).1 ∧ Ext (one p) h.next h h' ∧ PR h' p (rdBytes top s).2 := by
  obtain ⟨d, rfl, hd⟩ := depth hd
  have hlt := hp.lt
  refine call_of t155 (Nat.le_of_ble_eq_true rfl) ?_
  simp only [c155, run, Option.map_some, Nat.reduceEqDiff, Nat.reduceAdd, Nat.zero_add, ↓reduceIte, decide_eq_true_eq, decide_true, decide_false, Bool.not_true, Bool.not_false, Bool.true_eq_false, Bool.false_eq_true, List.getElem?_cons_zero, List.getElem?_cons_succ, List.nil_append, List.cons_append, reduceCtorEq, eq_self, decide_eq_false_iff_not, not_true_eq_false, not_false_eq_true, Nat.add_zero, Nat.succ_ne_self, Nat.one_ne_zero, Nat.zero_ne_one]
  refine use (pnum_spec (by omega) hn hp) ?_
  rintro v1 h1 ⟨rfl, hn1, x1, r1⟩
  unfold rdBytes
  generalize rdNum top s = q at *
  obtain ⟨a, s1⟩ := q
  simp only at r1 ⊢
  have r1' := r1
  obtain ⟨v, bad, l, hb, hv, hl, hcell, hs⟩ := r1
  have L0 : h1.load1 p 0 = some v := by rw [ld_cell hb (by decide)]; rfl
  simp only [run, Option.map_some, Nat.reduceEqDiff, Nat.reduceAdd, Nat.zero_add, ↓reduceIte, decide_eq_true_eq, decide_true, decide_false, Bool.not_true, Bool.not_false, Bool.true_eq_false, Bool.false_eq_true, List.getElem?_cons_zero, List.getElem?_cons_succ, List.nil_append, List.cons_append, reduceCtorEq, eq_self, decide_eq_false_iff_not, not_true_eq_false, not_false_eq_true, Nat.add_zero, Nat.succ_ne_self, Nat.one_ne_zero, Nat.zero_ne_one, L0, lenB hv]
  by_cases ha : l.length < a
  · have hc : (l.length : Int) < a := by omega
    simp only [run, Option.map_some, Nat.reduceEqDiff, Nat.reduceAdd, Nat.zero_add, ↓reduceIte, decide_eq_true_eq, decide_true, decide_false, Bool.not_true, Bool.not_false, Bool.true_eq_false, Bool.false_eq_true, List.getElem?_cons_zero, List.getElem?_cons_succ, List.nil_append, List.cons_append, reduceCtorEq, eq_self, decide_eq_false_iff_not, not_true_eq_false, not_false_eq_true, Nat.add_zero, Nat.succ_ne_self, Nat.one_ne_zero, Nat.zero_ne_one, hc]
    refine use (fail_spec (by omega) hb) ?_
    rintro v2 h2 ⟨_, hn2, x2, r2⟩
    (try simp only [run, Option.map_some, Nat.reduceEqDiff, Nat.reduceAdd, Nat.zero_add, ↓reduceIte, decide_eq_true_eq, decide_true, decide_false, Bool.not_true, Bool.not_false, Bool.true_eq_false, Bool.false_eq_true, List.getElem?_cons_zero, List.getElem?_cons_succ, List.nil_append, List.cons_append, reduceCtorEq, eq_self, decide_eq_false_iff_not, not_true_eq_false, not_false_eq_true, Nat.add_zero, Nat.succ_ne_self, Nat.one_ne_zero, Nat.zero_ne_one])
    have x3 : Ext (one p) h.next h h2 := x1.trans (x2.less (by omega)) (Nat.le_refl _)
    cases s1 with
    | none => exact ⟨Own.nil, x3, r2⟩
    | some r =>
      have : r = l := by
        cases bad with
        | true => obtain ⟨h, _⟩ := hs; cases h
        | false => have h : some r = some l := hs; cases h; rfl
      subst this
      simp only [if_pos ha]
      exact ⟨Own.nil, x3, r2⟩
  · have hc : ¬ (l.length : Int) < a := by omega
    simp only [run, Option.map_some, Nat.reduceEqDiff, Nat.reduceAdd, Nat.zero_add, ↓reduceIte, decide_eq_true_eq, decide_true, decide_false, Bool.not_true, Bool.not_false, Bool.true_eq_false, Bool.false_eq_true, List.getElem?_cons_zero, List.getElem?_cons_succ, List.nil_append, List.cons_append, reduceCtorEq, eq_self, decide_eq_false_iff_not, not_true_eq_false, not_false_eq_true, Nat.add_zero, Nat.succ_ne_self, Nat.one_ne_zero, Nat.zero_ne_one, hc, L0]
    obtain ⟨v2, b1, b2⟩ := cutB hv (a := 0) (b := a) (by omega) (by omega)
    rw [b2 none (some (.int .i64 a)) (.inr ⟨rfl, rfl⟩) (.inl rfl)]
    simp only [run, Option.map_some, Nat.reduceEqDiff, Nat.reduceAdd, Nat.zero_add, ↓reduceIte, decide_eq_true_eq, decide_true, decide_false, Bool.not_true, Bool.not_false, Bool.true_eq_false, Bool.false_eq_true, List.getElem?_cons_zero, List.getElem?_cons_succ, List.nil_append, List.cons_append, reduceCtorEq, eq_self, decide_eq_false_iff_not, not_true_eq_false, not_false_eq_true, Nat.add_zero, Nat.succ_ne_self, Nat.one_ne_zero, Nat.zero_ne_one]
    refine use (clone_spec (by omega) (b1.more (Nat.le_refl _) (by omega)) (by simp; omega)) ?_
    rintro v3 h3 ⟨x3, o3⟩
    have hb3 : h3.get p = ⟨[v, .bool bad], 2, 0, none⟩ := by rw [x3.get p (by omega) (fun x => x)]; exact hb
    have L3 : h3.load1 p 0 = some v := by rw [ld_cell hb3 (by decide)]; rfl
    obtain ⟨v4, d1, d2⟩ := cutB (hv.keep x3 (by omega)) (a := a) (b := l.length) (by omega) (Nat.le_refl _)
    rw [List.take_of_length_le (by simp)] at d1
    simp only [run, Option.map_some, Nat.reduceEqDiff, Nat.reduceAdd, Nat.zero_add, ↓reduceIte, decide_eq_true_eq, decide_true, decide_false, Bool.not_true, Bool.not_false, Bool.true_eq_false, Bool.false_eq_true, List.getElem?_cons_zero, List.getElem?_cons_succ, List.nil_append, List.cons_append, reduceCtorEq, eq_self, decide_eq_false_iff_not, not_true_eq_false, not_false_eq_true, Nat.add_zero, Nat.succ_ne_self, Nat.one_ne_zero, Nat.zero_ne_one, L3, d2 (some (.int .i64 a)) none (.inl rfl) (.inr ⟨rfl, rfl⟩)]
    refine use1 (st_cell hb3 d1.cell (by simp)) ?_
    (try simp only [run, Option.map_some, Nat.reduceEqDiff, Nat.reduceAdd, Nat.zero_add, ↓reduceIte, decide_eq_true_eq, decide_true, decide_false, Bool.not_true, Bool.not_false, Bool.true_eq_false, Bool.false_eq_true, List.getElem?_cons_zero, List.getElem?_cons_succ, List.nil_append, List.cons_append, reduceCtorEq, eq_self, decide_eq_false_iff_not, not_true_eq_false, not_false_eq_true, Nat.add_zero, Nat.succ_ne_self, Nat.one_ne_zero, Nat.zero_ne_one])
    have x4 : Ext (one p) h3.next h3 (h3.upd p ⟨[v, .bool bad].set 0 v4, 2, 0, none⟩) := (Ext.refl (one p) _ _).upd (.inr rfl) _
    have x5 : Ext (one p) h.next h (h3.upd p ⟨[v, .bool bad].set 0 v4, 2, 0, none⟩) :=
      x1.trans ((x3.wk (lo' := h.next) (by omega) (fun _ _ x => x.elim)).trans (x4.less (by have := x3.next; omega)) (Nat.le_refl _)) (Nat.le_refl _)
    have o5 : OwnB h.next (h3.upd p ⟨[v, .bool bad].set 0 v4, 2, 0, none⟩) v3 (l.take a) := by
      have := (o3.less (lo' := h.next) (by omega)).ext x4 (Nat.le_refl _) (by intro m hm1 hm2 (hm3 : m = p); omega)
      simpa using this
    have pr5 : PR (h3.upd p ⟨[v, .bool bad].set 0 v4, 2, 0, none⟩) p (if bad then none else some (l.drop a)) := by
      refine ⟨v4, bad, l.drop a, get_upd_self _ (by have := x3.next; omega), d1.ext x4 (by have := x3.next; omega) (by intro m hm1 hm2 (hm3 : m = p); omega), by simp; omega, d1.cell, ?_⟩
      cases bad with
      | true => obtain ⟨_, rfl⟩ := hs; simp
      | false => rfl
    cases bad with
    | true =>
      obtain ⟨rfl, rfl⟩ := hs
      simp at o5
      exact ⟨o5, x5, pr5⟩
    | false =>
      have h : s1 = some l := hs
      subst h
      simp only [if_neg ha]
      exact ⟨o5, x5, pr5⟩

end Go.Proofs.Ytapmpenkceomdaa
/- The document's reader. -/
set_option linter.unusedSimpArgs false
set_option linter.unusedVariables false
set_option maxRecDepth 20000
namespace Go.Proofs.Ytapmpenkceomdaa
open Go.Ab

variable {n d : Nat} {h : AHeap}

theorem RR.lt {p : Nat} {s : Option (List UInt8)} (r : RR h p s) : p < h.next := by
  obtain ⟨v, bad, l, hb, _⟩ := r
  exact lt_next (by rw [hb]; show 0 < 2; decide)
theorem RR.ext {p : Nat} {s : Option (List UInt8)} {S : Nat → Prop} {lo : Nat} {h' : AHeap} (r : RR h p s) (x : Ext S lo h h') (hl : p < lo) (hs : ∀ m, m ≤ p → ¬ S m) : RR h' p s := by
  obtain ⟨v, bad, l, hb, hv, hr⟩ := r
  exact ⟨v, bad, l, by rw [x.get p hl (hs p (Nat.le_refl _))]; exact hb, hv.ext x (by omega) (fun m _ hm => hs m (by omega)), hr⟩

theorem RR.bad {p : Nat} {v : Value} {b : Bool} {l : List UInt8} (hb : h.get p = ⟨[v, .bool b], 2, 0, none⟩) (hv : Bytes 0 p h v l) (hl : l.length ≤ 2 ^ 45) (hc : isCell v = true) :
    Ext (one p) h.next h (h.upd p ⟨[v, .bool b].set 1 (.bool true), 2, 0, none⟩) ∧ RR (h.upd p ⟨[v, .bool b].set 1 (.bool true), 2, 0, none⟩) p none := by
  have hlt : p < h.next := lt_next (by rw [hb]; show 0 < 2; decide)
  have x1 : Ext (one p) h.next h (h.upd p ⟨[v, .bool b].set 1 (.bool true), 2, 0, none⟩) := (Ext.refl (one p) _ _).upd (.inr rfl) _
  exact ⟨x1, v, true, l, get_upd_self _ hlt, hv.ext x1 (by omega) (by intro m hm1 hm2 (hm3 : m = p); omega), hl, hc, rfl⟩

theorem rrnum_spec (hd : 1 ≤ d) (hn : 20 ≤ n) {p : Nat} {s : Option (List UInt8)} {top : Int} (hp : RR h p s) :
    ∃ v' h', aCall Try.prog n d 105 [.pointer (some ⟨p, 0, none⟩), .int .i64 top] h = some (v', h') ∧ v' = .int .i64 (rdNum top s).1 ∧ h'.next = h.next ∧ Ext (one p) h.next h h' ∧ RR h' p (rdNum top s).2 := by
  obtain ⟨d, rfl, hd⟩ := depth hd
  obtain ⟨v, bad, l, hb, hv, hl, hcell, hs⟩ := hp
  have hlt : p < h.next := lt_next (by rw [hb]; show 0 < 2; decide)
  have L0 : h.load1 p 0 = some v := by rw [ld_cell hb (by decide)]; rfl
  have L1 : h.load1 p 1 = some (.bool bad) := by rw [ld_cell hb (by decide)]; rfl
  refine call_of t105 (Nat.le_of_ble_eq_true rfl) ?_
  simp only [c105, run, Option.map_some, Nat.reduceEqDiff, Nat.reduceAdd, Nat.zero_add, ↓reduceIte, decide_eq_true_eq, decide_true, decide_false, Bool.not_true, Bool.not_false, Bool.true_eq_false, Bool.false_eq_true, List.getElem?_cons_zero, List.getElem?_cons_succ, List.nil_append, List.cons_append, reduceCtorEq, eq_self, decide_eq_false_iff_not, not_true_eq_false, not_false_eq_true, Nat.add_zero, Nat.succ_ne_self, Nat.one_ne_zero, Nat.zero_ne_one]
  refine w_loop (fun m E g => ∃ i acc, i + m = 9 ∧ i ≤ l.length ∧ acc < 2 ^ (7 * i) ∧ g = h ∧ E 0 = .pointer (some ⟨p, 0, none⟩) ∧ E 1 = .int .i64 top ∧ E 5 = .int .u64 (acc : Nat) ∧ E 6 = .int .i64 (i : Nat) ∧
    rdGo (heldN top) 0 0 l = rdGo (heldN top) i acc (l.drop i)) 9 (by omega) ?_ ?_
  · exact ⟨0, 0, by omega, by omega, by decide, rfl, rfl, rfl, rfl, rfl, rfl⟩
  · rintro m E g ⟨i, acc, hm, hi, hacc, rfl, e0, e1, e5, e6, hq⟩
    simp only [run, Option.map_some, Nat.reduceEqDiff, Nat.reduceAdd, Nat.zero_add, ↓reduceIte, decide_eq_true_eq, decide_true, decide_false, Bool.not_true, Bool.not_false, Bool.true_eq_false, Bool.false_eq_true, List.getElem?_cons_zero, List.getElem?_cons_succ, List.nil_append, List.cons_append, reduceCtorEq, eq_self, decide_eq_false_iff_not, not_true_eq_false, not_false_eq_true, Nat.add_zero, Nat.succ_ne_self, Nat.one_ne_zero, Nat.zero_ne_one, e0, e1, e5, e6, L1]
    cases bad with
    | true =>
      have h : s = none := hs
      subst h
      simp only [run, Option.map_some, Nat.reduceEqDiff, Nat.reduceAdd, Nat.zero_add, ↓reduceIte, decide_eq_true_eq, decide_true, decide_false, Bool.not_true, Bool.not_false, Bool.true_eq_false, Bool.false_eq_true, List.getElem?_cons_zero, List.getElem?_cons_succ, List.nil_append, List.cons_append, reduceCtorEq, eq_self, decide_eq_false_iff_not, not_true_eq_false, not_false_eq_true, Nat.add_zero, Nat.succ_ne_self, Nat.one_ne_zero, Nat.zero_ne_one, rdNum]
      exact ⟨(by first | rfl | trivial), (by first | rfl | trivial), Ext.refl _ _ _, v, true, l, hb, hv, hl, hcell, rfl⟩
    | false =>
      have h : s = some l := hs
      subst h
      have fin : rdGo (heldN top) i acc (l.drop i) = none → (oneP (stV 1 (.pointer (some ⟨p, 1, none⟩)) (.bool true) g) fun h' =>
          Value.int .i64 0 = .int .i64 (rdNum top (some l)).1 ∧ h'.next = g.next ∧ Ext (one p) g.next g h' ∧ RR h' p (rdNum top (some l)).2) := by
        intro hnone
        refine use1 (st_cell hb rfl (by simp)) ?_
        simp only [rdNum, hq, hnone]
        exact ⟨rfl, rfl, RR.bad hb hv hl hcell⟩
      simp only [run, Option.map_some, Nat.reduceEqDiff, Nat.reduceAdd, Nat.zero_add, ↓reduceIte, decide_eq_true_eq, decide_true, decide_false, Bool.not_true, Bool.not_false, Bool.true_eq_false, Bool.false_eq_true, List.getElem?_cons_zero, List.getElem?_cons_succ, List.nil_append, List.cons_append, reduceCtorEq, eq_self, decide_eq_false_iff_not, not_true_eq_false, not_false_eq_true, Nat.add_zero, Nat.succ_ne_self, Nat.one_ne_zero, Nat.zero_ne_one, e0, e1, e5, e6, L0, lenB hv]
      by_cases hil : i < l.length
      · have hc : ¬ (l.length : Int) ≤ i := by omega
        by_cases h8 : 8 < i
        · have hc8 : (8 : Int) < i := by omega
          simp only [hc, hc8, run, Option.map_some, Nat.reduceEqDiff, Nat.reduceAdd, Nat.zero_add, ↓reduceIte, decide_eq_true_eq, decide_true, decide_false, Bool.not_true, Bool.not_false, Bool.true_eq_false, Bool.false_eq_true, List.getElem?_cons_zero, List.getElem?_cons_succ, List.nil_append, List.cons_append, reduceCtorEq, eq_self, decide_eq_false_iff_not, not_true_eq_false, not_false_eq_true, Nat.add_zero, Nat.succ_ne_self, Nat.one_ne_zero, Nat.zero_ne_one, e0, e1, e5, e6, L0, lenB hv]
          refine (fin ?_)
          rw [List.drop_eq_getElem_cons hil]
          simp only [rdGo]
          rw [if_pos (.inl h8)]
        · have hc8 : ¬ (8 : Int) < i := by omega
          obtain ⟨q, o, a1, _, a2⟩ := loadB (k := .i64) hv hil
          have hdrop : l.drop i = l[i] :: l.drop (i + 1) := List.drop_eq_getElem_cons hil
          rw [hdrop] at hq fin
          simp only [rdGo] at hq fin
          have hcl : l[i].toNat < 256 := l[i].toNat_lt
          generalize l[i].toNat = c at *
          have hpw : 2 ^ (7 * i) ≤ 2 ^ 56 := Nat.pow_le_pow_right (by decide) (by omega)
          have hpw' : 2 ^ (7 * (i + 1)) = 128 * 2 ^ (7 * i) := by rw [Nat.mul_add, Nat.pow_add]; omega
          have hcm : c % 128 * 2 ^ (7 * i) ≤ 127 * 2 ^ (7 * i) := Nat.mul_le_mul_right _ (by omega)
          have hcm2 : c % 128 * 2 ^ (7 * i) ≤ 127 * 2 ^ 56 := Nat.le_trans hcm (Nat.mul_le_mul_left _ hpw)
          have a3 : binV .and 0 (.int .u8 c) (.int .u8 127) = some (.int .u8 ((c % 128 : Nat) : Int)) := by
            rw [← mod_and]; exact b_and 0 (fits_u8 hcl) (fits_u8 (n := 127) (by decide))
          have a4 : convV .u64 (.int .u8 ((c % 128 : Nat) : Int)) = some (.int .u64 ((c % 128 : Nat) : Int)) := convN (fits_u64 (by omega))
          have a5 : binV .mul 0 (.int .i64 7) (.int .i64 i) = some (.int .i64 ((7 * i : Nat) : Int)) := b_mulN 0 (k := .i64) (a := 7) (b := i) (fits_i64 (by omega))
          have a5' : convV .u64 (.int .i64 ((7 * i : Nat) : Int)) = some (.int .u64 ((7 * i : Nat) : Int)) := convN (fits_u64 (by omega))
          have a6 : binV .shl 0 (.int .u64 ((c % 128 : Nat) : Int)) (.int .u64 ((7 * i : Nat) : Int)) = some (.int .u64 ((c % 128 * 2 ^ (7 * i) : Nat) : Int)) := b_shlN 0 (by show 7 * i ≤ 64; omega) (fits_u64 (by omega))
          have a7 : binV .or 0 (.int .u64 acc) (.int .u64 ((c % 128 * 2 ^ (7 * i) : Nat) : Int)) = some (.int .u64 ((acc + c % 128 * 2 ^ (7 * i) : Nat) : Int)) := by
            rw [← or_add hacc]; exact b_or 0 (fits_u64 (by omega)) (fits_u64 (by omega))
          have a8 : binV .add 0 (.int .i64 i) (.int .i64 1) = some (.int .i64 ((i + 1 : Nat) : Int)) := b_addN 0 (k := .i64) (a := i) (b := 1) (fits_i64 (by omega))
          simp only [hc, hc8, run, Option.map_some, Nat.reduceEqDiff, Nat.reduceAdd, Nat.zero_add, ↓reduceIte, decide_eq_true_eq, decide_true, decide_false, Bool.not_true, Bool.not_false, Bool.true_eq_false, Bool.false_eq_true, List.getElem?_cons_zero, List.getElem?_cons_succ, List.nil_append, List.cons_append, reduceCtorEq, eq_self, decide_eq_false_iff_not, not_true_eq_false, not_false_eq_true, Nat.add_zero, Nat.succ_ne_self, Nat.one_ne_zero, Nat.zero_ne_one, e0, e1, e5, e6, L0, a1, a2, a3, a4, a5, a5', a6, a7, a8]
          by_cases h128 : 128 ≤ c
          · have hc9 : ¬ (c : Int) < 128 := by omega
            rw [if_neg (by omega), if_pos h128] at hq
            simp only [hc9, run, Option.map_some, Nat.reduceEqDiff, Nat.reduceAdd, Nat.zero_add, ↓reduceIte, decide_eq_true_eq, decide_true, decide_false, Bool.not_true, Bool.not_false, Bool.true_eq_false, Bool.false_eq_true, List.getElem?_cons_zero, List.getElem?_cons_succ, List.nil_append, List.cons_append, reduceCtorEq, eq_self, decide_eq_false_iff_not, not_true_eq_false, not_false_eq_true, Nat.add_zero, Nat.succ_ne_self, Nat.one_ne_zero, Nat.zero_ne_one, e0, e1, e5, e6, a8]
            exact ⟨m - 1, by omega, i + 1, acc + c % 128 * 2 ^ (7 * i), by omega, by omega, by omega, (by first | rfl | trivial), (by first | rfl | trivial), (by first | rfl | trivial), (by first | rfl | trivial), (by first | rfl | trivial), hq⟩
          · have hc9 : (c : Int) < 128 := by omega
            have hheld := heldN_le top
            have a9 : convV .u64 (.int .i64 (heldN top)) = some (.int .u64 (heldN top)) := convN (fits_u64 (by omega))
            by_cases hz0 : c = 0 ∧ 0 < i
            · have z1 : ((c : Int) = 0) = True := eq_true (by omega)
              have z2 : (1 : Int) < ((i + 1 : Nat) : Int) := by omega
              simp only [hc9, z1, z2, run, Option.map_some, Nat.reduceEqDiff, Nat.reduceAdd, Nat.zero_add, ↓reduceIte, decide_eq_true_eq, decide_true, decide_false, Bool.not_true, Bool.not_false, Bool.true_eq_false, Bool.false_eq_true, List.getElem?_cons_zero, List.getElem?_cons_succ, List.nil_append, List.cons_append, reduceCtorEq, eq_self, decide_eq_false_iff_not, not_true_eq_false, not_false_eq_true, Nat.add_zero, Nat.succ_ne_self, Nat.one_ne_zero, Nat.zero_ne_one, e0, e1, e5, e6, heldN_cast, a9, a8]
              exact fin (by rw [if_pos (.inr hz0)])
            · have hnz : ¬ (8 < i ∨ (c = 0 ∧ 0 < i)) := by omega
              rw [if_neg hnz, if_neg h128] at hq
              have fin' := fin
              rw [if_neg hnz, if_neg h128] at fin'
              have z : (((c : Int) = 0) = True ∧ ((1 : Int) < ((i + 1 : Nat) : Int)) = False) ∨ (((c : Int) = 0) = False ∧ ((c : Int) = 0) = False) := by
                by_cases z1 : c = 0
                · left; exact ⟨eq_true (by omega), eq_false (by omega)⟩
                · right; exact ⟨eq_false (by omega), eq_false (by omega)⟩
              rcases z with ⟨z1, z2⟩ | ⟨z1, z2⟩
              all_goals
                simp only [hc9, z1, z2, run, Option.map_some, Nat.reduceEqDiff, Nat.reduceAdd, Nat.zero_add, ↓reduceIte, decide_eq_true_eq, decide_true, decide_false, Bool.not_true, Bool.not_false, Bool.true_eq_false, Bool.false_eq_true, List.getElem?_cons_zero, List.getElem?_cons_succ, List.nil_append, List.cons_append, reduceCtorEq, eq_self, decide_eq_false_iff_not, not_true_eq_false, not_false_eq_true, Nat.add_zero, Nat.succ_ne_self, Nat.one_ne_zero, Nat.zero_ne_one, e0, e1, e5, e6, heldN_cast, a9]
                by_cases htop : heldN top < acc + c % 128 * 2 ^ (7 * i)
                · have hc10 : ((heldN top : Nat) : Int) < ((acc + c % 128 * 2 ^ (7 * i) : Nat) : Int) := by omega
                  simp only [hc10, run, Option.map_some, Nat.reduceEqDiff, Nat.reduceAdd, Nat.zero_add, ↓reduceIte, decide_eq_true_eq, decide_true, decide_false, Bool.not_true, Bool.not_false, Bool.true_eq_false, Bool.false_eq_true, List.getElem?_cons_zero, List.getElem?_cons_succ, List.nil_append, List.cons_append, reduceCtorEq, eq_self, decide_eq_false_iff_not, not_true_eq_false, not_false_eq_true, Nat.add_zero, Nat.succ_ne_self, Nat.one_ne_zero, Nat.zero_ne_one, e0, e1, e5, e6]
                  exact fin' (by rw [if_pos htop])
                · have hc10 : ¬ ((heldN top : Nat) : Int) < ((acc + c % 128 * 2 ^ (7 * i) : Nat) : Int) := by omega
                  rw [if_neg htop] at hq
                  obtain ⟨v2, b1, b2⟩ := cutB hv (a := i + 1) (b := l.length) (by omega) (Nat.le_refl _)
                  rw [List.take_of_length_le (by simp)] at b1
                  have a10 : convV .i64 (.int .u64 ((acc + c % 128 * 2 ^ (7 * i) : Nat) : Int)) = some (.int .i64 ((acc + c % 128 * 2 ^ (7 * i) : Nat) : Int)) := convN (fits_i64 (by omega))
                  simp only [hc10, run, Option.map_some, Nat.reduceEqDiff, Nat.reduceAdd, Nat.zero_add, ↓reduceIte, decide_eq_true_eq, decide_true, decide_false, Bool.not_true, Bool.not_false, Bool.true_eq_false, Bool.false_eq_true, List.getElem?_cons_zero, List.getElem?_cons_succ, List.nil_append, List.cons_append, reduceCtorEq, eq_self, decide_eq_false_iff_not, not_true_eq_false, not_false_eq_true, Nat.add_zero, Nat.succ_ne_self, Nat.one_ne_zero, Nat.zero_ne_one, e0, e1, e5, e6, L0, a8, a10, b2 (some (.int .i64 ((i + 1 : Nat) : Int))) none (.inl rfl) (.inr ⟨rfl, rfl⟩)]
                  refine use1 (st_cell hb b1.cell (by simp)) ?_
                  simp only [run, Option.map_some, Nat.reduceEqDiff, Nat.reduceAdd, Nat.zero_add, ↓reduceIte, decide_eq_true_eq, decide_true, decide_false, Bool.not_true, Bool.not_false, Bool.true_eq_false, Bool.false_eq_true, List.getElem?_cons_zero, List.getElem?_cons_succ, List.nil_append, List.cons_append, reduceCtorEq, eq_self, decide_eq_false_iff_not, not_true_eq_false, not_false_eq_true, Nat.add_zero, Nat.succ_ne_self, Nat.one_ne_zero, Nat.zero_ne_one, rdNum, hq, upd_next, true_and, a10]
                  have x1 : Ext (one p) g.next g (g.upd p ⟨[v, .bool false].set 0 v2, 2, 0, none⟩) := (Ext.refl (one p) _ _).upd (.inr rfl) _
                  exact ⟨x1, v2, false, l.drop (i + 1), get_upd_self _ hlt, b1.ext x1 (by omega) (by intro m hm1 hm2 (hm3 : m = p); omega), by simp; omega, b1.cell, rfl⟩
      · have hc : (l.length : Int) ≤ i := by omega
        simp only [hc, run, Option.map_some, Nat.reduceEqDiff, Nat.reduceAdd, Nat.zero_add, ↓reduceIte, decide_eq_true_eq, decide_true, decide_false, Bool.not_true, Bool.not_false, Bool.true_eq_false, Bool.false_eq_true, List.getElem?_cons_zero, List.getElem?_cons_succ, List.nil_append, List.cons_append, reduceCtorEq, eq_self, decide_eq_false_iff_not, not_true_eq_false, not_false_eq_true, Nat.add_zero, Nat.succ_ne_self, Nat.one_ne_zero, Nat.zero_ne_one, e0, e1, e5, e6]
        exact fin (by rw [List.drop_eq_nil_of_le (by omega)]; rfl)

theorem rrend_spec (hd : 1 ≤ d) {p : Nat} {s : Option (List UInt8)} (hp : RR h p s) : aCall Try.prog n d 109 [.pointer (some ⟨p, 0, none⟩)] h = some (.bool (decide (s = some [])), h) := by
  obtain ⟨d, rfl, hd⟩ := depth hd
  obtain ⟨v, bad, l, hb, hv, hl, hcell, hs⟩ := hp
  have L0 : h.load1 p 0 = some v := by rw [ld_cell hb (by decide)]; rfl
  have L1 : h.load1 p 1 = some (.bool bad) := by rw [ld_cell hb (by decide)]; rfl
  obtain ⟨v', h', e, r⟩ := call_of (n := n) (d := d) (args := [.pointer (some ⟨p, 0, none⟩)]) (h := h) (R := fun v' h' => v' = .bool (decide (s = some [])) ∧ h' = h) t109 (Nat.le_of_ble_eq_true rfl) (by
    cases bad with
    | true =>
      have : s = none := hs
      subst this
      simp only [c109, run, Option.map_some, Nat.reduceEqDiff, Nat.reduceAdd, Nat.zero_add, ↓reduceIte, decide_eq_true_eq, decide_true, decide_false, Bool.not_true, Bool.not_false, Bool.true_eq_false, Bool.false_eq_true, List.getElem?_cons_zero, List.getElem?_cons_succ, List.nil_append, List.cons_append, reduceCtorEq, eq_self, decide_eq_false_iff_not, not_true_eq_false, not_false_eq_true, Nat.add_zero, Nat.succ_ne_self, Nat.one_ne_zero, Nat.zero_ne_one, L1, and_true]
    | false =>
      have : s = some l := hs
      rw [this]
      simp only [c109, run, Option.map_some, Nat.reduceEqDiff, Nat.reduceAdd, Nat.zero_add, ↓reduceIte, decide_eq_true_eq, decide_true, decide_false, Bool.not_true, Bool.not_false, Bool.true_eq_false, Bool.false_eq_true, List.getElem?_cons_zero, List.getElem?_cons_succ, List.nil_append, List.cons_append, reduceCtorEq, eq_self, decide_eq_false_iff_not, not_true_eq_false, not_false_eq_true, Nat.add_zero, Nat.succ_ne_self, Nat.one_ne_zero, Nat.zero_ne_one, L1, L0, lenB hv, and_true]
      cases l <;> simp <;> omega)
  obtain ⟨rfl, rfl⟩ := r
  exact e

theorem rrbytes_spec (hd : 2 ≤ d) (hn : 20 ≤ n) {p : Nat} {s : Option (List UInt8)} {top : Int} (hp : RR h p s) :
    ∃ v' h', aCall Try.prog n d 106 [.pointer (some ⟨p, 0, none⟩), .int .i64 top] h = some (v', h') ∧ OwnB h.next h' v' (rdBytes top s).1 ∧ Ext (one p) h.next h h' ∧ RR h' p (rdBytes top s).2 := by
  obtain ⟨d, rfl, hd⟩ := depth hd
  have hlt := hp.lt
  refine call_of t106 (Nat.le_of_ble_eq_true rfl) ?_
  obtain ⟨v0, bad0, l0, hb0, hv0, hl0, hcell0, hs0⟩ := id hp
  have L00 : h.load1 p 0 = some v0 := by rw [ld_cell hb0 (by decide)]; rfl
  simp only [c106, run, Option.map_some, Nat.reduceEqDiff, Nat.reduceAdd, Nat.zero_add, ↓reduceIte, decide_eq_true_eq, decide_true, decide_false, Bool.not_true, Bool.not_false, Bool.true_eq_false, Bool.false_eq_true, List.getElem?_cons_zero, List.getElem?_cons_succ, List.nil_append, List.cons_append, reduceCtorEq, eq_self, decide_eq_false_iff_not, not_true_eq_false, not_false_eq_true, Nat.add_zero, Nat.succ_ne_self, Nat.one_ne_zero, Nat.zero_ne_one, L00]
  refine use (rrnum_spec (by omega) hn hp) ?_
  rintro v1 h1 ⟨rfl, hn1, x1, r1⟩
  unfold rdBytes
  generalize hqq : rdNum top s = q at *
  obtain ⟨a, s1⟩ := q
  simp only at r1 ⊢
  have r1' := r1
  obtain ⟨v, bad, l, hb, hv, hl, hcell, hs⟩ := r1
  have L0 : h1.load1 p 0 = some v := by rw [ld_cell hb (by decide)]; rfl
  have L1 : h1.load1 p 1 = some (.bool bad) := by rw [ld_cell hb (by decide)]; rfl
  have hv1 : Bytes 0 p h1 v0 l0 := hv0.ext x1 (by omega) (by intro m hm1 hm2 (hm3 : m = p); omega)
  have h2 := get_upd_self (h := h1) (m := p) ⟨[v, Value.bool bad].set 1 (.bool true), 2, 0, none⟩ (by omega)
  have x2 : Ext (one p) h1.next h1 ((h1.upd p ⟨[v, Value.bool bad].set 1 (.bool true), 2, 0, none⟩).upd p ⟨([v, Value.bool bad].set 1 (.bool true)).set 0 v0, 2, 0, none⟩) :=
    ((Ext.refl (one p) _ _).upd (.inr rfl) _).upd (.inr rfl) _
  have rr : RR ((h1.upd p ⟨[v, Value.bool bad].set 1 (.bool true), 2, 0, none⟩).upd p ⟨([v, Value.bool bad].set 1 (.bool true)).set 0 v0, 2, 0, none⟩) p none :=
    ⟨v0, true, l0, get_upd_self _ (by rw [upd_next]; omega), hv1.ext x2 (by omega) (by intro m hm1 hm2 (hm3 : m = p); omega), hl0, hcell0, rfl⟩
  have x22 := x1.trans (x2.less (by omega : h.next ≤ h1.next)) (Nat.le_refl _)
  cases bad with
  | true =>
    simp only [run, Option.map_some, Nat.reduceEqDiff, Nat.reduceAdd, Nat.zero_add, ↓reduceIte, decide_eq_true_eq, decide_true, decide_false, Bool.not_true, Bool.not_false, Bool.true_eq_false, Bool.false_eq_true, List.getElem?_cons_zero, List.getElem?_cons_succ, List.nil_append, List.cons_append, reduceCtorEq, eq_self, decide_eq_false_iff_not, not_true_eq_false, not_false_eq_true, Nat.add_zero, Nat.succ_ne_self, Nat.one_ne_zero, Nat.zero_ne_one, L1]
    refine use1 (st_cell hb rfl (by simp)) ?_
    (try simp only [run, Option.map_some, Nat.reduceEqDiff, Nat.reduceAdd, Nat.zero_add, ↓reduceIte, decide_eq_true_eq, decide_true, decide_false, Bool.not_true, Bool.not_false, Bool.true_eq_false, Bool.false_eq_true, List.getElem?_cons_zero, List.getElem?_cons_succ, List.nil_append, List.cons_append, reduceCtorEq, eq_self, decide_eq_false_iff_not, not_true_eq_false, not_false_eq_true, Nat.add_zero, Nat.succ_ne_self, Nat.one_ne_zero, Nat.zero_ne_one])
    refine use1 (st_cell h2 hcell0 (by simp)) ?_
    (try simp only [run, Option.map_some, Nat.reduceEqDiff, Nat.reduceAdd, Nat.zero_add, ↓reduceIte, decide_eq_true_eq, decide_true, decide_false, Bool.not_true, Bool.not_false, Bool.true_eq_false, Bool.false_eq_true, List.getElem?_cons_zero, List.getElem?_cons_succ, List.nil_append, List.cons_append, reduceCtorEq, eq_self, decide_eq_false_iff_not, not_true_eq_false, not_false_eq_true, Nat.add_zero, Nat.succ_ne_self, Nat.one_ne_zero, Nat.zero_ne_one])
    have : s1 = none := hs
    subst this
    exact ⟨Own.nil, x22, rr⟩
  | false =>
    have : s1 = some l := hs
    subst this
    simp only [run, Option.map_some, Nat.reduceEqDiff, Nat.reduceAdd, Nat.zero_add, ↓reduceIte, decide_eq_true_eq, decide_true, decide_false, Bool.not_true, Bool.not_false, Bool.true_eq_false, Bool.false_eq_true, List.getElem?_cons_zero, List.getElem?_cons_succ, List.nil_append, List.cons_append, reduceCtorEq, eq_self, decide_eq_false_iff_not, not_true_eq_false, not_false_eq_true, Nat.add_zero, Nat.succ_ne_self, Nat.one_ne_zero, Nat.zero_ne_one, L1, L0, lenB hv]
    by_cases ha : l.length < a
    · have hc : (l.length : Int) < a := by omega
      simp only [run, Option.map_some, Nat.reduceEqDiff, Nat.reduceAdd, Nat.zero_add, ↓reduceIte, decide_eq_true_eq, decide_true, decide_false, Bool.not_true, Bool.not_false, Bool.true_eq_false, Bool.false_eq_true, List.getElem?_cons_zero, List.getElem?_cons_succ, List.nil_append, List.cons_append, reduceCtorEq, eq_self, decide_eq_false_iff_not, not_true_eq_false, not_false_eq_true, Nat.add_zero, Nat.succ_ne_self, Nat.one_ne_zero, Nat.zero_ne_one, hc]
      refine use1 (st_cell hb rfl (by simp)) ?_
      (try simp only [run, Option.map_some, Nat.reduceEqDiff, Nat.reduceAdd, Nat.zero_add, ↓reduceIte, decide_eq_true_eq, decide_true, decide_false, Bool.not_true, Bool.not_false, Bool.true_eq_false, Bool.false_eq_true, List.getElem?_cons_zero, List.getElem?_cons_succ, List.nil_append, List.cons_append, reduceCtorEq, eq_self, decide_eq_false_iff_not, not_true_eq_false, not_false_eq_true, Nat.add_zero, Nat.succ_ne_self, Nat.one_ne_zero, Nat.zero_ne_one])
      refine use1 (st_cell h2 hcell0 (by simp)) ?_
      simp only [run, Option.map_some, Nat.reduceEqDiff, Nat.reduceAdd, Nat.zero_add, ↓reduceIte, decide_eq_true_eq, decide_true, decide_false, Bool.not_true, Bool.not_false, Bool.true_eq_false, Bool.false_eq_true, List.getElem?_cons_zero, List.getElem?_cons_succ, List.nil_append, List.cons_append, reduceCtorEq, eq_self, decide_eq_false_iff_not, not_true_eq_false, not_false_eq_true, Nat.add_zero, Nat.succ_ne_self, Nat.one_ne_zero, Nat.zero_ne_one, if_pos ha]
      exact ⟨Own.nil, x22, rr⟩
    · have hc : ¬ (l.length : Int) < a := by omega
      simp only [run, Option.map_some, Nat.reduceEqDiff, Nat.reduceAdd, Nat.zero_add, ↓reduceIte, decide_eq_true_eq, decide_true, decide_false, Bool.not_true, Bool.not_false, Bool.true_eq_false, Bool.false_eq_true, List.getElem?_cons_zero, List.getElem?_cons_succ, List.nil_append, List.cons_append, reduceCtorEq, eq_self, decide_eq_false_iff_not, not_true_eq_false, not_false_eq_true, Nat.add_zero, Nat.succ_ne_self, Nat.one_ne_zero, Nat.zero_ne_one, hc, L0, if_neg ha]
      refine useE (bslice_zero _ _ _ rfl (by decide)) ?_
      have x2 : Ext no h1.next h1 (h1.alloc ⟨[], 1, 0, none⟩) := Ext.new _ _ _
      have hb2 : (h1.alloc ⟨[], 1, 0, none⟩).get p = ⟨[v, .bool false], 2, 0, none⟩ := by rw [x2.get p (by omega) (fun x => x)]; exact hb
      have L2 : (h1.alloc ⟨[], 1, 0, none⟩).load1 p 0 = some v := by rw [ld_cell hb2 (by decide)]; rfl
      obtain ⟨v2, b1, b2⟩ := cutB (hv.keep x2 (by omega)) (a := 0) (b := a) (by omega) (by omega)
      simp only [run, Option.map_some, Nat.reduceEqDiff, Nat.reduceAdd, Nat.zero_add, ↓reduceIte, decide_eq_true_eq, decide_true, decide_false, Bool.not_true, Bool.not_false, Bool.true_eq_false, Bool.false_eq_true, List.getElem?_cons_zero, List.getElem?_cons_succ, List.nil_append, List.cons_append, reduceCtorEq, eq_self, decide_eq_false_iff_not, not_true_eq_false, not_false_eq_true, Nat.add_zero, Nat.succ_ne_self, Nat.one_ne_zero, Nat.zero_ne_one, L2, b2 none (some (.int .i64 a)) (.inr ⟨rfl, rfl⟩) (.inl rfl)]
      refine use (appendB (n := 2 ^ 46) (Own.mk (lo := h1.next) (sz := 1) (cs := bsv []) (len := 0) (Nat.le_refl _) rfl) (Nat.le_succ _) b1 (by simp; omega) (by decide)) ?_
      rintro v3 h3 ⟨x3', o3⟩
      have x3 : Ext no h1.next h1 h3 := x2.trans x3' (Nat.le_refl _)
      have hb3 : h3.get p = ⟨[v, .bool false], 2, 0, none⟩ := by rw [x3.get p (by omega) (fun x => x)]; exact hb
      have L3 : h3.load1 p 0 = some v := by rw [ld_cell hb3 (by decide)]; rfl
      obtain ⟨v4, d1, d2⟩ := cutB (hv.keep x3 (by omega)) (a := a) (b := l.length) (by omega) (Nat.le_refl _)
      rw [List.take_of_length_le (by simp)] at d1
      simp only [run, Option.map_some, Nat.reduceEqDiff, Nat.reduceAdd, Nat.zero_add, ↓reduceIte, decide_eq_true_eq, decide_true, decide_false, Bool.not_true, Bool.not_false, Bool.true_eq_false, Bool.false_eq_true, List.getElem?_cons_zero, List.getElem?_cons_succ, List.nil_append, List.cons_append, reduceCtorEq, eq_self, decide_eq_false_iff_not, not_true_eq_false, not_false_eq_true, Nat.add_zero, Nat.succ_ne_self, Nat.one_ne_zero, Nat.zero_ne_one, L3, d2 (some (.int .i64 a)) none (.inl rfl) (.inr ⟨rfl, rfl⟩)]
      refine use1 (st_cell hb3 d1.cell (by simp)) ?_
      simp only [run, Option.map_some, Nat.reduceEqDiff, Nat.reduceAdd, Nat.zero_add, ↓reduceIte, decide_eq_true_eq, decide_true, decide_false, Bool.not_true, Bool.not_false, Bool.true_eq_false, Bool.false_eq_true, List.getElem?_cons_zero, List.getElem?_cons_succ, List.nil_append, List.cons_append, reduceCtorEq, eq_self, decide_eq_false_iff_not, not_true_eq_false, not_false_eq_true, Nat.add_zero, Nat.succ_ne_self, Nat.one_ne_zero, Nat.zero_ne_one, if_neg ha]
      have x4 : Ext (one p) h3.next h3 (h3.upd p ⟨[v, .bool false].set 0 v4, 2, 0, none⟩) := (Ext.refl (one p) _ _).upd (.inr rfl) _
      have x5 : Ext (one p) h.next h (h3.upd p ⟨[v, .bool false].set 0 v4, 2, 0, none⟩) :=
        x1.trans ((x3.wk (lo' := h.next) (by omega) (fun _ _ x => x.elim)).trans (x4.less (by have := x3.next; omega)) (Nat.le_refl _)) (Nat.le_refl _)
      have o5 : OwnB h.next (h3.upd p ⟨[v, .bool false].set 0 v4, 2, 0, none⟩) v3 (l.take a) := by
        have := (o3.less (lo' := h.next) (by omega)).ext x4 (Nat.le_refl _) (by intro m hm1 hm2 (hm3 : m = p); omega)
        simpa using this
      refine ⟨o5, x5, v4, false, l.drop a, get_upd_self _ (by have := x3.next; omega), d1.ext x4 (by have := x3.next; omega) (by intro m hm1 hm2 (hm3 : m = p); omega), by simp; omega, d1.cell, rfl⟩

end Go.Proofs.Ytapmpenkceomdaa
/- Sums of bytes; bytes and rows of numbers that are the same. -/
set_option linter.unusedSimpArgs false
set_option linter.unusedVariables false
set_option maxRecDepth 20000
namespace Go.Proofs.Ytapmpenkceomdaa
open Go.Ab

variable {n d : Nat} {h : AHeap}

/-! Sums -/
def crcStep (c : Nat) : Nat := if c % 2 = 1 then c / 2 ^^^ 3988292384 else c / 2
def crcIt : Nat → Nat → Nat
  | 0, c => c
  | m + 1, c => crcIt m (crcStep c)
def crcNext (c : Nat) (b : UInt8) : Nat := crcIt 8 (c ^^^ b.toNat)
def crcSum (l : List UInt8) : Nat := l.foldl crcNext 4294967295 ^^^ 4294967295
theorem crcStep_lt {c : Nat} (h : c < 4294967296) : crcStep c < 4294967296 := by
  unfold crcStep
  split
  · exact Nat.xor_lt_two_pow (n := 32) (by omega) (by decide)
  · omega
theorem crcIt_lt : ∀ (m c : Nat), c < 4294967296 → crcIt m c < 4294967296
  | 0, _, h => h
  | m + 1, _, h => crcIt_lt m _ (crcStep_lt h)
theorem crcNext_lt {c : Nat} (b : UInt8) (h : c < 4294967296) : crcNext c b < 4294967296 := crcIt_lt _ _ (Nat.xor_lt_two_pow (n := 32) h (by have := b.toNat_lt; omega))
theorem crcFold_lt : ∀ (l : List UInt8) (c : Nat), c < 4294967296 → l.foldl crcNext c < 4294967296
  | [], _, h => h
  | b :: l, _, h => crcFold_lt l _ (crcNext_lt b h)
theorem crcSum_lt (l : List UInt8) : crcSum l < 4294967296 := Nat.xor_lt_two_pow (n := 32) (crcFold_lt l _ (by decide)) (by decide)

theorem and_one (k : Nat) : k &&& 1 = k % 2 := by
  rw [show (1 : Nat) = 2 ^ 1 - 1 from rfl, Nat.and_two_pow_sub_one_eq_mod]

theorem next178_spec (hd : 1 ≤ d) (hn : 20 ≤ n) {c : Nat} {b : UInt8} (hc : c < 4294967296) : aCall Try.prog n d 178 [.int .u32 c, .int .u8 b.toNat] h = some (.int .u32 (crcNext c b), h) := by
  obtain ⟨d, rfl, hd⟩ := depth hd
  have hbl := b.toNat_lt
  obtain ⟨v', h', e, r⟩ := call_of (n := n) (d := d) (args := [.int .u32 c, .int .u8 b.toNat]) (h := h) (R := fun v' h' => v' = .int .u32 (crcNext c b) ∧ h' = h) t178 (Nat.le_of_ble_eq_true rfl) (by
    have a1 : convV .u32 (.int .u8 b.toNat) = some (.int .u32 b.toNat) := convN (fits_u32 (by omega))
    have a2 : binV .xor 0 (.int .u32 c) (.int .u32 b.toNat) = some (.int .u32 ((c ^^^ b.toNat : Nat) : Int)) := b_xor 0 (fits_u32 hc) (fits_u32 (by omega))
    simp only [c178, run, Option.map_some, Nat.reduceEqDiff, Nat.reduceAdd, Nat.zero_add, ↓reduceIte, decide_eq_true_eq, decide_true, decide_false, Bool.not_true, Bool.not_false, Bool.true_eq_false, Bool.false_eq_true, List.getElem?_cons_zero, List.getElem?_cons_succ, List.nil_append, List.cons_append, reduceCtorEq, eq_self, decide_eq_false_iff_not, not_true_eq_false, not_false_eq_true, Nat.add_zero, Nat.succ_ne_self, Nat.one_ne_zero, Nat.zero_ne_one, a1, a2]
    refine w_loop (fun m E g => ∃ x, m ≤ 8 ∧ x < 4294967296 ∧ g = h ∧ E 0 = .int .u32 (x : Nat) ∧ E 10 = .int .i64 ((8 - m : Nat) : Int) ∧ crcIt m x = crcNext c b) 8 (by omega) ?_ ?_
    · exact ⟨c ^^^ b.toNat, by omega, Nat.xor_lt_two_pow (n := 32) hc (by omega), rfl, rfl, rfl, rfl⟩
    · rintro m E g ⟨x, hm, hx, rfl, e0, e1, hq⟩
      simp only [run, Option.map_some, Nat.reduceEqDiff, Nat.reduceAdd, Nat.zero_add, ↓reduceIte, decide_eq_true_eq, decide_true, decide_false, Bool.not_true, Bool.not_false, Bool.true_eq_false, Bool.false_eq_true, List.getElem?_cons_zero, List.getElem?_cons_succ, List.nil_append, List.cons_append, reduceCtorEq, eq_self, decide_eq_false_iff_not, not_true_eq_false, not_false_eq_true, Nat.add_zero, Nat.succ_ne_self, Nat.one_ne_zero, Nat.zero_ne_one, e0, e1]
      by_cases hm0 : m = 0
      · subst hm0
        simp only [run, Option.map_some, Nat.reduceEqDiff, Nat.reduceAdd, Nat.zero_add, ↓reduceIte, decide_eq_true_eq, decide_true, decide_false, Bool.not_true, Bool.not_false, Bool.true_eq_false, Bool.false_eq_true, List.getElem?_cons_zero, List.getElem?_cons_succ, List.nil_append, List.cons_append, reduceCtorEq, eq_self, decide_eq_false_iff_not, not_true_eq_false, not_false_eq_true, Nat.add_zero, Nat.succ_ne_self, Nat.one_ne_zero, Nat.zero_ne_one, Int.reduceLT, e0, and_true, Nat.sub_zero, show ¬ (((8 - 0 : Nat) : Int) < 8) by decide]
        rw [← hq]; rfl
      · have hlt : (((8 - m : Nat) : Int) < 8) = True := eq_true (by omega)
        have a3 : binV .and 0 (.int .u32 x) (.int .u32 1) = some (.int .u32 ((x % 2 : Nat) : Int)) := by rw [← and_one]; exact b_and 0 (fits_u32 hx) (fits_u32 (n := 1) (by decide))
        have a4 : binV .shr 0 (.int .u32 x) (.int .u64 1) = some (.int .u32 ((x / 2 : Nat) : Int)) := b_shrN 0 (k := .u32) (j := .u64) (a := x) (s := 1) (by decide)
        have a5 : binV .xor 0 (.int .u32 ((x / 2 : Nat) : Int)) (.int .u32 3988292384) = some (.int .u32 ((x / 2 ^^^ 3988292384 : Nat) : Int)) := b_xor 0 (fits_u32 (by omega)) (fits_u32 (n := 3988292384) (by decide))
        have a6 : binV .add 0 (.int .i64 ((8 - m : Nat) : Int)) (.int .i64 1) = some (.int .i64 ((8 - (m - 1) : Nat) : Int)) := by
          have := b_addN 0 (k := .i64) (a := 8 - m) (b := 1) (fits_i64 (by omega))
          rw [show 8 - (m - 1) = 8 - m + 1 by omega]; exact this
        have hq' : crcIt (m - 1) (crcStep x) = crcNext c b := by
          rw [← hq]
          obtain ⟨k, rfl⟩ : ∃ k, m = k + 1 := ⟨m - 1, by omega⟩
          rfl
        simp only [run, Option.map_some, Nat.reduceEqDiff, Nat.reduceAdd, Nat.zero_add, ↓reduceIte, decide_eq_true_eq, decide_true, decide_false, Bool.not_true, Bool.not_false, Bool.true_eq_false, Bool.false_eq_true, List.getElem?_cons_zero, List.getElem?_cons_succ, List.nil_append, List.cons_append, reduceCtorEq, eq_self, decide_eq_false_iff_not, not_true_eq_false, not_false_eq_true, Nat.add_zero, Nat.succ_ne_self, Nat.one_ne_zero, Nat.zero_ne_one, hlt, a3, a4, e0, e1]
        by_cases h1 : x % 2 = 1
        · have h1' : (((x % 2 : Nat) : Int) = 1) = True := eq_true (by omega)
          simp only [run, Option.map_some, Nat.reduceEqDiff, Nat.reduceAdd, Nat.zero_add, ↓reduceIte, decide_eq_true_eq, decide_true, decide_false, Bool.not_true, Bool.not_false, Bool.true_eq_false, Bool.false_eq_true, List.getElem?_cons_zero, List.getElem?_cons_succ, List.nil_append, List.cons_append, reduceCtorEq, eq_self, decide_eq_false_iff_not, not_true_eq_false, not_false_eq_true, Nat.add_zero, Nat.succ_ne_self, Nat.one_ne_zero, Nat.zero_ne_one, h1', a5, a6, e1]
          exact ⟨m - 1, by omega, crcStep x, by omega, crcStep_lt hx, (by first | rfl | trivial), by unfold crcStep; rw [if_pos h1], (by first | rfl | trivial), hq'⟩
        · have h1' : (((x % 2 : Nat) : Int) = 1) = False := eq_false (by omega)
          simp only [run, Option.map_some, Nat.reduceEqDiff, Nat.reduceAdd, Nat.zero_add, ↓reduceIte, decide_eq_true_eq, decide_true, decide_false, Bool.not_true, Bool.not_false, Bool.true_eq_false, Bool.false_eq_true, List.getElem?_cons_zero, List.getElem?_cons_succ, List.nil_append, List.cons_append, reduceCtorEq, eq_self, decide_eq_false_iff_not, not_true_eq_false, not_false_eq_true, Nat.add_zero, Nat.succ_ne_self, Nat.one_ne_zero, Nat.zero_ne_one, h1', a6, e1]
          exact ⟨m - 1, by omega, crcStep x, by omega, crcStep_lt hx, (by first | rfl | trivial), by unfold crcStep; rw [if_neg h1], (by first | rfl | trivial), hq'⟩)
  obtain ⟨rfl, rfl⟩ := r
  exact e

theorem next164_spec (hd : 1 ≤ d) (hn : 20 ≤ n) {c : Nat} {b : UInt8} (hc : c < 4294967296) : aCall Try.prog n d 164 [.int .u32 c, .int .u8 b.toNat] h = some (.int .u32 (crcNext c b), h) := by
  obtain ⟨d, rfl, hd⟩ := depth hd
  have hbl := b.toNat_lt
  obtain ⟨v', h', e, r⟩ := call_of (n := n) (d := d) (args := [.int .u32 c, .int .u8 b.toNat]) (h := h) (R := fun v' h' => v' = .int .u32 (crcNext c b) ∧ h' = h) t164 (Nat.le_of_ble_eq_true rfl) (by
    have a1 : convV .u32 (.int .u8 b.toNat) = some (.int .u32 b.toNat) := convN (fits_u32 (by omega))
    have a2 : binV .xor 0 (.int .u32 c) (.int .u32 b.toNat) = some (.int .u32 ((c ^^^ b.toNat : Nat) : Int)) := b_xor 0 (fits_u32 hc) (fits_u32 (by omega))
    simp only [c164, run, Option.map_some, Nat.reduceEqDiff, Nat.reduceAdd, Nat.zero_add, ↓reduceIte, decide_eq_true_eq, decide_true, decide_false, Bool.not_true, Bool.not_false, Bool.true_eq_false, Bool.false_eq_true, List.getElem?_cons_zero, List.getElem?_cons_succ, List.nil_append, List.cons_append, reduceCtorEq, eq_self, decide_eq_false_iff_not, not_true_eq_false, not_false_eq_true, Nat.add_zero, Nat.succ_ne_self, Nat.one_ne_zero, Nat.zero_ne_one, a1, a2]
    refine w_loop (fun m E g => ∃ x, m ≤ 8 ∧ x < 4294967296 ∧ g = h ∧ E 0 = .int .u32 (x : Nat) ∧ E 5 = .int .i64 ((8 - m : Nat) : Int) ∧ crcIt m x = crcNext c b) 8 (by omega) ?_ ?_
    · exact ⟨c ^^^ b.toNat, by omega, Nat.xor_lt_two_pow (n := 32) hc (by omega), rfl, rfl, rfl, rfl⟩
    · rintro m E g ⟨x, hm, hx, rfl, e0, e1, hq⟩
      simp only [run, Option.map_some, Nat.reduceEqDiff, Nat.reduceAdd, Nat.zero_add, ↓reduceIte, decide_eq_true_eq, decide_true, decide_false, Bool.not_true, Bool.not_false, Bool.true_eq_false, Bool.false_eq_true, List.getElem?_cons_zero, List.getElem?_cons_succ, List.nil_append, List.cons_append, reduceCtorEq, eq_self, decide_eq_false_iff_not, not_true_eq_false, not_false_eq_true, Nat.add_zero, Nat.succ_ne_self, Nat.one_ne_zero, Nat.zero_ne_one, e0, e1]
      by_cases hm0 : m = 0
      · subst hm0
        simp only [run, Option.map_some, Nat.reduceEqDiff, Nat.reduceAdd, Nat.zero_add, ↓reduceIte, decide_eq_true_eq, decide_true, decide_false, Bool.not_true, Bool.not_false, Bool.true_eq_false, Bool.false_eq_true, List.getElem?_cons_zero, List.getElem?_cons_succ, List.nil_append, List.cons_append, reduceCtorEq, eq_self, decide_eq_false_iff_not, not_true_eq_false, not_false_eq_true, Nat.add_zero, Nat.succ_ne_self, Nat.one_ne_zero, Nat.zero_ne_one, Int.reduceLT, e0, and_true, Nat.sub_zero, show ¬ (((8 - 0 : Nat) : Int) < 8) by decide]
        rw [← hq]; rfl
      · have hlt : (((8 - m : Nat) : Int) < 8) = True := eq_true (by omega)
        have a3 : binV .and 0 (.int .u32 x) (.int .u32 1) = some (.int .u32 ((x % 2 : Nat) : Int)) := by rw [← and_one]; exact b_and 0 (fits_u32 hx) (fits_u32 (n := 1) (by decide))
        have a4 : binV .shr 0 (.int .u32 x) (.int .u64 1) = some (.int .u32 ((x / 2 : Nat) : Int)) := b_shrN 0 (k := .u32) (j := .u64) (a := x) (s := 1) (by decide)
        have a5 : binV .xor 0 (.int .u32 ((x / 2 : Nat) : Int)) (.int .u32 3988292384) = some (.int .u32 ((x / 2 ^^^ 3988292384 : Nat) : Int)) := b_xor 0 (fits_u32 (by omega)) (fits_u32 (n := 3988292384) (by decide))
        have a6 : binV .add 0 (.int .i64 ((8 - m : Nat) : Int)) (.int .i64 1) = some (.int .i64 ((8 - (m - 1) : Nat) : Int)) := by
          have := b_addN 0 (k := .i64) (a := 8 - m) (b := 1) (fits_i64 (by omega))
          rw [show 8 - (m - 1) = 8 - m + 1 by omega]; exact this
        have hq' : crcIt (m - 1) (crcStep x) = crcNext c b := by
          rw [← hq]
          obtain ⟨k, rfl⟩ : ∃ k, m = k + 1 := ⟨m - 1, by omega⟩
          rfl
        simp only [run, Option.map_some, Nat.reduceEqDiff, Nat.reduceAdd, Nat.zero_add, ↓reduceIte, decide_eq_true_eq, decide_true, decide_false, Bool.not_true, Bool.not_false, Bool.true_eq_false, Bool.false_eq_true, List.getElem?_cons_zero, List.getElem?_cons_succ, List.nil_append, List.cons_append, reduceCtorEq, eq_self, decide_eq_false_iff_not, not_true_eq_false, not_false_eq_true, Nat.add_zero, Nat.succ_ne_self, Nat.one_ne_zero, Nat.zero_ne_one, hlt, a3, a4, e0, e1]
        by_cases h1 : x % 2 = 1
        · have h1' : (((x % 2 : Nat) : Int) = 1) = True := eq_true (by omega)
          simp only [run, Option.map_some, Nat.reduceEqDiff, Nat.reduceAdd, Nat.zero_add, ↓reduceIte, decide_eq_true_eq, decide_true, decide_false, Bool.not_true, Bool.not_false, Bool.true_eq_false, Bool.false_eq_true, List.getElem?_cons_zero, List.getElem?_cons_succ, List.nil_append, List.cons_append, reduceCtorEq, eq_self, decide_eq_false_iff_not, not_true_eq_false, not_false_eq_true, Nat.add_zero, Nat.succ_ne_self, Nat.one_ne_zero, Nat.zero_ne_one, h1', a5, a6, e1]
          exact ⟨m - 1, by omega, crcStep x, by omega, crcStep_lt hx, (by first | rfl | trivial), by unfold crcStep; rw [if_pos h1], (by first | rfl | trivial), hq'⟩
        · have h1' : (((x % 2 : Nat) : Int) = 1) = False := eq_false (by omega)
          simp only [run, Option.map_some, Nat.reduceEqDiff, Nat.reduceAdd, Nat.zero_add, ↓reduceIte, decide_eq_true_eq, decide_true, decide_false, Bool.not_true, Bool.not_false, Bool.true_eq_false, Bool.false_eq_true, List.getElem?_cons_zero, List.getElem?_cons_succ, List.nil_append, List.cons_append, reduceCtorEq, eq_self, decide_eq_false_iff_not, not_true_eq_false, not_false_eq_true, Nat.add_zero, Nat.succ_ne_self, Nat.one_ne_zero, Nat.zero_ne_one, h1', a6, e1]
          exact ⟨m - 1, by omega, crcStep x, by omega, crcStep_lt hx, (by first | rfl | trivial), by unfold crcStep; rw [if_neg h1], (by first | rfl | trivial), hq'⟩)
  obtain ⟨rfl, rfl⟩ := r
  exact e

theorem sum162_spec (hd : 2 ≤ d) {v : Value} {l : List UInt8} {lo hi : Nat} (hv : Bytes lo hi h v l) (hn : 20 ≤ n) (hl : l.length < n) (hl' : l.length ≤ 2 ^ 46) : aCall Try.prog n d 162 [v] h = some (.int .u32 (crcSum l), h) := by
  obtain ⟨d, rfl, hd⟩ := depth hd
  obtain ⟨v', h', e, r⟩ := call_of (n := n) (d := d) (args := [v]) (h := h) (R := fun v' h' => v' = .int .u32 (crcSum l) ∧ h' = h) t162 (Nat.le_of_ble_eq_true rfl) (by
    simp only [c162, run, Option.map_some, Nat.reduceEqDiff, Nat.reduceAdd, Nat.zero_add, ↓reduceIte, decide_eq_true_eq, decide_true, decide_false, Bool.not_true, Bool.not_false, Bool.true_eq_false, Bool.false_eq_true, List.getElem?_cons_zero, List.getElem?_cons_succ, List.nil_append, List.cons_append, reduceCtorEq, eq_self, decide_eq_false_iff_not, not_true_eq_false, not_false_eq_true, Nat.add_zero, Nat.succ_ne_self, Nat.one_ne_zero, Nat.zero_ne_one, lenB hv]
    refine w_loop (fun m E g => ∃ i, ∃ c, i + m = l.length ∧ c < 4294967296 ∧ g = h ∧ E 6 = v ∧ E 7 = .int .i64 l.length ∧ E 3 = .int .u32 (c : Nat) ∧ E 8 = .int .i64 (i : Nat) ∧ (l.drop i).foldl crcNext c = l.foldl crcNext 4294967295) l.length hl ?_ ?_
    · exact ⟨0, 4294967295, by omega, by decide, rfl, rfl, rfl, rfl, rfl, rfl⟩
    · rintro m E g ⟨i, c, hm, hc, rfl, e6, e7, e3, e8, hq⟩
      simp only [run, Option.map_some, Nat.reduceEqDiff, Nat.reduceAdd, Nat.zero_add, ↓reduceIte, decide_eq_true_eq, decide_true, decide_false, Bool.not_true, Bool.not_false, Bool.true_eq_false, Bool.false_eq_true, List.getElem?_cons_zero, List.getElem?_cons_succ, List.nil_append, List.cons_append, reduceCtorEq, eq_self, decide_eq_false_iff_not, not_true_eq_false, not_false_eq_true, Nat.add_zero, Nat.succ_ne_self, Nat.one_ne_zero, Nat.zero_ne_one, e3, e8, e6, e7, lenB hv]
      by_cases hi : i < l.length
      · have hi' : ((i : Int) < l.length) = True := eq_true (by omega)
        obtain ⟨q, o, a1, _, a2⟩ := loadB (k := .i64) hv hi
        have a6 : binV .add 0 (.int .i64 i) (.int .i64 1) = some (.int .i64 ((i + 1 : Nat) : Int)) := b_addN 0 (k := .i64) (a := i) (b := 1) (fits_i64 (by omega))
        simp only [run, Option.map_some, Nat.reduceEqDiff, Nat.reduceAdd, Nat.zero_add, ↓reduceIte, decide_eq_true_eq, decide_true, decide_false, Bool.not_true, Bool.not_false, Bool.true_eq_false, Bool.false_eq_true, List.getElem?_cons_zero, List.getElem?_cons_succ, List.nil_append, List.cons_append, reduceCtorEq, eq_self, decide_eq_false_iff_not, not_true_eq_false, not_false_eq_true, Nat.add_zero, Nat.succ_ne_self, Nat.one_ne_zero, Nat.zero_ne_one, hi', a1, a2, e3, e8, e6, e7]
        refine useE (next178_spec (by omega) hn hc) ?_
        simp only [run, Option.map_some, Nat.reduceEqDiff, Nat.reduceAdd, Nat.zero_add, ↓reduceIte, decide_eq_true_eq, decide_true, decide_false, Bool.not_true, Bool.not_false, Bool.true_eq_false, Bool.false_eq_true, List.getElem?_cons_zero, List.getElem?_cons_succ, List.nil_append, List.cons_append, reduceCtorEq, eq_self, decide_eq_false_iff_not, not_true_eq_false, not_false_eq_true, Nat.add_zero, Nat.succ_ne_self, Nat.one_ne_zero, Nat.zero_ne_one, e8, a6, e6, e7]
        refine ⟨m - 1, by omega, i + 1, crcNext c l[i], by omega, crcNext_lt _ hc, (by first | rfl | trivial), (by first | rfl | trivial), (by first | rfl | trivial), rfl, rfl, ?_⟩
        rw [← hq, List.drop_eq_getElem_cons hi]
        rfl
      · have hi' : ((i : Int) < l.length) = False := eq_false (by omega)
        have a5 : binV .xor 0 (.int .u32 c) (.int .u32 4294967295) = some (.int .u32 ((c ^^^ 4294967295 : Nat) : Int)) := b_xor 0 (fits_u32 hc) (fits_u32 (n := 4294967295) (by decide))
        simp only [run, Option.map_some, Nat.reduceEqDiff, Nat.reduceAdd, Nat.zero_add, ↓reduceIte, decide_eq_true_eq, decide_true, decide_false, Bool.not_true, Bool.not_false, Bool.true_eq_false, Bool.false_eq_true, List.getElem?_cons_zero, List.getElem?_cons_succ, List.nil_append, List.cons_append, reduceCtorEq, eq_self, decide_eq_false_iff_not, not_true_eq_false, not_false_eq_true, Nat.add_zero, Nat.succ_ne_self, Nat.one_ne_zero, Nat.zero_ne_one, hi', e3, a5, and_true]
        rw [List.drop_eq_nil_of_le (by omega)] at hq
        unfold crcSum
        rw [← hq]
        rfl)
  obtain ⟨rfl, rfl⟩ := r
  exact e

theorem sum117_spec (hd : 2 ≤ d) {v : Value} {l : List UInt8} {lo hi : Nat} (hv : Bytes lo hi h v l) (hn : 20 ≤ n) (hl : l.length < n) (hl' : l.length ≤ 2 ^ 46) : aCall Try.prog n d 117 [v] h = some (.int .u32 (crcSum l), h) := by
  obtain ⟨d, rfl, hd⟩ := depth hd
  obtain ⟨v', h', e, r⟩ := call_of (n := n) (d := d) (args := [v]) (h := h) (R := fun v' h' => v' = .int .u32 (crcSum l) ∧ h' = h) t117 (Nat.le_of_ble_eq_true rfl) (by
    simp only [c117, run, Option.map_some, Nat.reduceEqDiff, Nat.reduceAdd, Nat.zero_add, ↓reduceIte, decide_eq_true_eq, decide_true, decide_false, Bool.not_true, Bool.not_false, Bool.true_eq_false, Bool.false_eq_true, List.getElem?_cons_zero, List.getElem?_cons_succ, List.nil_append, List.cons_append, reduceCtorEq, eq_self, decide_eq_false_iff_not, not_true_eq_false, not_false_eq_true, Nat.add_zero, Nat.succ_ne_self, Nat.one_ne_zero, Nat.zero_ne_one, lenB hv]
    refine w_loop (fun m E g => ∃ i, ∃ c, i + m = l.length ∧ c < 4294967296 ∧ g = h ∧ E 0 = v ∧ E 3 = .int .u32 (c : Nat) ∧ E 4 = .int .i64 (i : Nat) ∧ (l.drop i).foldl crcNext c = l.foldl crcNext 4294967295) l.length hl ?_ ?_
    · exact ⟨0, 4294967295, by omega, by decide, rfl, rfl, rfl, rfl, rfl⟩
    · rintro m E g ⟨i, c, hm, hc, rfl, e0, e3, e8, hq⟩
      simp only [run, Option.map_some, Nat.reduceEqDiff, Nat.reduceAdd, Nat.zero_add, ↓reduceIte, decide_eq_true_eq, decide_true, decide_false, Bool.not_true, Bool.not_false, Bool.true_eq_false, Bool.false_eq_true, List.getElem?_cons_zero, List.getElem?_cons_succ, List.nil_append, List.cons_append, reduceCtorEq, eq_self, decide_eq_false_iff_not, not_true_eq_false, not_false_eq_true, Nat.add_zero, Nat.succ_ne_self, Nat.one_ne_zero, Nat.zero_ne_one, e3, e8, e0, lenB hv]
      by_cases hi : i < l.length
      · have hi' : ((i : Int) < l.length) = True := eq_true (by omega)
        obtain ⟨q, o, a1, _, a2⟩ := loadB (k := .i64) hv hi
        have a6 : binV .add 0 (.int .i64 i) (.int .i64 1) = some (.int .i64 ((i + 1 : Nat) : Int)) := b_addN 0 (k := .i64) (a := i) (b := 1) (fits_i64 (by omega))
        simp only [run, Option.map_some, Nat.reduceEqDiff, Nat.reduceAdd, Nat.zero_add, ↓reduceIte, decide_eq_true_eq, decide_true, decide_false, Bool.not_true, Bool.not_false, Bool.true_eq_false, Bool.false_eq_true, List.getElem?_cons_zero, List.getElem?_cons_succ, List.nil_append, List.cons_append, reduceCtorEq, eq_self, decide_eq_false_iff_not, not_true_eq_false, not_false_eq_true, Nat.add_zero, Nat.succ_ne_self, Nat.one_ne_zero, Nat.zero_ne_one, hi', a1, a2, e3, e8, e0]
        refine useE (next164_spec (by omega) hn hc) ?_
        simp only [run, Option.map_some, Nat.reduceEqDiff, Nat.reduceAdd, Nat.zero_add, ↓reduceIte, decide_eq_true_eq, decide_true, decide_false, Bool.not_true, Bool.not_false, Bool.true_eq_false, Bool.false_eq_true, List.getElem?_cons_zero, List.getElem?_cons_succ, List.nil_append, List.cons_append, reduceCtorEq, eq_self, decide_eq_false_iff_not, not_true_eq_false, not_false_eq_true, Nat.add_zero, Nat.succ_ne_self, Nat.one_ne_zero, Nat.zero_ne_one, e8, a6, e0]
        refine ⟨m - 1, by omega, i + 1, crcNext c l[i], by omega, crcNext_lt _ hc, (by first | rfl | trivial), (by first | rfl | trivial), rfl, rfl, ?_⟩
        rw [← hq, List.drop_eq_getElem_cons hi]
        rfl
      · have hi' : ((i : Int) < l.length) = False := eq_false (by omega)
        have a5 : binV .xor 0 (.int .u32 c) (.int .u32 4294967295) = some (.int .u32 ((c ^^^ 4294967295 : Nat) : Int)) := b_xor 0 (fits_u32 hc) (fits_u32 (n := 4294967295) (by decide))
        simp only [run, Option.map_some, Nat.reduceEqDiff, Nat.reduceAdd, Nat.zero_add, ↓reduceIte, decide_eq_true_eq, decide_true, decide_false, Bool.not_true, Bool.not_false, Bool.true_eq_false, Bool.false_eq_true, List.getElem?_cons_zero, List.getElem?_cons_succ, List.nil_append, List.cons_append, reduceCtorEq, eq_self, decide_eq_false_iff_not, not_true_eq_false, not_false_eq_true, Nat.add_zero, Nat.succ_ne_self, Nat.one_ne_zero, Nat.zero_ne_one, hi', e3, a5, and_true]
        rw [List.drop_eq_nil_of_le (by omega)] at hq
        unfold crcSum
        rw [← hq]
        rfl)
  obtain ⟨rfl, rfl⟩ := r
  exact e

/-! The same? -/
theorem str_eq (l m : List UInt8) : (((⟨⟨l⟩⟩ : ByteArray).toList) == ((⟨⟨m⟩⟩ : ByteArray).toList)) = decide (l = m) := by
  rw [ByteArray.toList_eq, ByteArray.toList_eq]
  show (l == m) = decide (l = m)
  rw [Bool.eq_iff_iff]; simp
theorem equal_spec (hd : 1 ≤ d) {a b : Value} {l m : List UInt8} {lo hi lo' hi' : Nat} (ha : Bytes lo hi h a l) (hb : Bytes lo' hi' h b m) : aCall Try.prog n d 175 [a, b] h = some (.bool (decide (l = m)), h) := by
  obtain ⟨d, rfl, hd⟩ := depth hd
  obtain ⟨v', h', e, r⟩ := call_of (n := n) (d := d) (args := [a, b]) (h := h) (R := fun v' h' => v' = .bool (decide (l = m)) ∧ h' = h) t175 (Nat.le_of_ble_eq_true rfl) (by
    simp only [c175, run, Option.map_some, Nat.reduceEqDiff, Nat.reduceAdd, Nat.zero_add, ↓reduceIte, decide_eq_true_eq, decide_true, decide_false, Bool.not_true, Bool.not_false, Bool.true_eq_false, Bool.false_eq_true, List.getElem?_cons_zero, List.getElem?_cons_succ, List.nil_append, List.cons_append, reduceCtorEq, eq_self, decide_eq_false_iff_not, not_true_eq_false, not_false_eq_true, Nat.add_zero, Nat.succ_ne_self, Nat.one_ne_zero, Nat.zero_ne_one, b2tB ha, b2tB hb, and_true]
    congr 1
    rw [ByteArray.toList_eq, ByteArray.toList_eq]
    show (l == m) = decide (l = m)
    rw [Bool.eq_iff_iff]; simp)
  obtain ⟨rfl, rfl⟩ := r
  exact e

theorem same41_spec (hd : 1 ≤ d) {a b : Value} {l k : List Int} {lo hi lo' hi' : Nat} (ha : Ints lo hi h a l) (hb : Ints lo' hi' h b k) (hl : l.length < n) (hl' : l.length ≤ 2 ^ 46) : aCall Try.prog n d 41 [a, b] h = some (.bool (decide (l = k)), h) := by
  obtain ⟨d, rfl, hd⟩ := depth hd
  obtain ⟨v', h', e, r⟩ := call_of (n := n) (d := d) (args := [a, b]) (h := h) (R := fun v' h' => v' = .bool (decide (l = k)) ∧ h' = h) t41 (Nat.le_of_ble_eq_true rfl) (by
    simp only [c41, run, Option.map_some, Nat.reduceEqDiff, Nat.reduceAdd, Nat.zero_add, ↓reduceIte, decide_eq_true_eq, decide_true, decide_false, Bool.not_true, Bool.not_false, Bool.true_eq_false, Bool.false_eq_true, List.getElem?_cons_zero, List.getElem?_cons_succ, List.nil_append, List.cons_append, reduceCtorEq, eq_self, decide_eq_false_iff_not, not_true_eq_false, not_false_eq_true, Nat.add_zero, Nat.succ_ne_self, Nat.one_ne_zero, Nat.zero_ne_one, lenI ha, lenI hb]
    by_cases hlen : l.length = k.length
    · have hlen' : (l.length : Int) = k.length := by omega
      simp only [run, Option.map_some, Nat.reduceEqDiff, Nat.reduceAdd, Nat.zero_add, ↓reduceIte, decide_eq_true_eq, decide_true, decide_false, Bool.not_true, Bool.not_false, Bool.true_eq_false, Bool.false_eq_true, List.getElem?_cons_zero, List.getElem?_cons_succ, List.nil_append, List.cons_append, reduceCtorEq, eq_self, decide_eq_false_iff_not, not_true_eq_false, not_false_eq_true, Nat.add_zero, Nat.succ_ne_self, Nat.one_ne_zero, Nat.zero_ne_one, hlen', ne_eq, lenI ha]
      refine w_loop (fun m E g => ∃ i, i + m = l.length ∧ g = h ∧ E 0 = a ∧ E 1 = b ∧  E 5 = .int .i64 (i : Nat) ∧ l.take i = k.take i) l.length hl ?_ ?_
      · exact ⟨0, by omega, rfl, rfl, rfl,  rfl, rfl⟩
      · rintro m E g ⟨i, hm, rfl, e0, e1,  e5, hq⟩
        simp only [run, Option.map_some, Nat.reduceEqDiff, Nat.reduceAdd, Nat.zero_add, ↓reduceIte, decide_eq_true_eq, decide_true, decide_false, Bool.not_true, Bool.not_false, Bool.true_eq_false, Bool.false_eq_true, List.getElem?_cons_zero, List.getElem?_cons_succ, List.nil_append, List.cons_append, reduceCtorEq, eq_self, decide_eq_false_iff_not, not_true_eq_false, not_false_eq_true, Nat.add_zero, Nat.succ_ne_self, Nat.one_ne_zero, Nat.zero_ne_one, e0, e1, e5,  lenI ha]
        by_cases hi : i < l.length
        · have hi' : ((i : Int) < l.length) = True := eq_true (by omega)
          have hi2 : ((i : Int) < k.length) = True := eq_true (by omega)
          have hik : i < k.length := by omega
          obtain ⟨q, o, a1, _, a2⟩ := loadI (k := .i64) ha hi
          obtain ⟨q', o', b1, _, b2⟩ := loadI (k := .i64) hb hik
          have a6 : binV .add 0 (.int .i64 i) (.int .i64 1) = some (.int .i64 ((i + 1 : Nat) : Int)) := b_addN 0 (k := .i64) (a := i) (b := 1) (fits_i64 (by omega))
          simp only [run, Option.map_some, Nat.reduceEqDiff, Nat.reduceAdd, Nat.zero_add, ↓reduceIte, decide_eq_true_eq, decide_true, decide_false, Bool.not_true, Bool.not_false, Bool.true_eq_false, Bool.false_eq_true, List.getElem?_cons_zero, List.getElem?_cons_succ, List.nil_append, List.cons_append, reduceCtorEq, eq_self, decide_eq_false_iff_not, not_true_eq_false, not_false_eq_true, Nat.add_zero, Nat.succ_ne_self, Nat.one_ne_zero, Nat.zero_ne_one, hi', hi2, a1, a2, b1, b2, e0, e1, e5, ne_eq]
          by_cases he : l[i] = k[i]
          · simp only [run, Option.map_some, Nat.reduceEqDiff, Nat.reduceAdd, Nat.zero_add, ↓reduceIte, decide_eq_true_eq, decide_true, decide_false, Bool.not_true, Bool.not_false, Bool.true_eq_false, Bool.false_eq_true, List.getElem?_cons_zero, List.getElem?_cons_succ, List.nil_append, List.cons_append, reduceCtorEq, eq_self, decide_eq_false_iff_not, not_true_eq_false, not_false_eq_true, Nat.add_zero, Nat.succ_ne_self, Nat.one_ne_zero, Nat.zero_ne_one, he, e5, a6]
            refine ⟨m - 1, by omega, i + 1, by omega, (by first | rfl | trivial), (by first | rfl | trivial), (by first | rfl | trivial),  rfl, ?_⟩
            rw [List.take_succ_eq_append_getElem hi, List.take_succ_eq_append_getElem hik, hq, he]
          · simp only [run, Option.map_some, Nat.reduceEqDiff, Nat.reduceAdd, Nat.zero_add, ↓reduceIte, decide_eq_true_eq, decide_true, decide_false, Bool.not_true, Bool.not_false, Bool.true_eq_false, Bool.false_eq_true, List.getElem?_cons_zero, List.getElem?_cons_succ, List.nil_append, List.cons_append, reduceCtorEq, eq_self, decide_eq_false_iff_not, not_true_eq_false, not_false_eq_true, Nat.add_zero, Nat.succ_ne_self, Nat.one_ne_zero, Nat.zero_ne_one, he, e5, and_true]
            have : ¬ l = k := fun x => he (by subst x; rfl)
            simp [this]
        · have hi' : ((i : Int) < l.length) = False := eq_false (by omega)
          have hi2 : ((i : Int) < k.length) = False := eq_false (by omega)
          simp only [run, Option.map_some, Nat.reduceEqDiff, Nat.reduceAdd, Nat.zero_add, ↓reduceIte, decide_eq_true_eq, decide_true, decide_false, Bool.not_true, Bool.not_false, Bool.true_eq_false, Bool.false_eq_true, List.getElem?_cons_zero, List.getElem?_cons_succ, List.nil_append, List.cons_append, reduceCtorEq, eq_self, decide_eq_false_iff_not, not_true_eq_false, not_false_eq_true, Nat.add_zero, Nat.succ_ne_self, Nat.one_ne_zero, Nat.zero_ne_one, hi', hi2, and_true]
          rw [List.take_of_length_le (by omega), List.take_of_length_le (by omega)] at hq
          simp [hq]
    · have hlen' : ¬ (l.length : Int) = k.length := by omega
      simp only [run, Option.map_some, Nat.reduceEqDiff, Nat.reduceAdd, Nat.zero_add, ↓reduceIte, decide_eq_true_eq, decide_true, decide_false, Bool.not_true, Bool.not_false, Bool.true_eq_false, Bool.false_eq_true, List.getElem?_cons_zero, List.getElem?_cons_succ, List.nil_append, List.cons_append, reduceCtorEq, eq_self, decide_eq_false_iff_not, not_true_eq_false, not_false_eq_true, Nat.add_zero, Nat.succ_ne_self, Nat.one_ne_zero, Nat.zero_ne_one, hlen', ne_eq, and_true]
      have : ¬ l = k := fun x => hlen (by subst x; rfl)
      simp [this])
  obtain ⟨rfl, rfl⟩ := r
  exact e

theorem same176_spec (hd : 1 ≤ d) {a b : Value} {l k : List Int} {lo hi lo' hi' : Nat} (ha : Ints lo hi h a l) (hb : Ints lo' hi' h b k) (hl : l.length < n) (hl' : l.length ≤ 2 ^ 46) : aCall Try.prog n d 176 [a, b] h = some (.bool (decide (l = k)), h) := by
  obtain ⟨d, rfl, hd⟩ := depth hd
  obtain ⟨v', h', e, r⟩ := call_of (n := n) (d := d) (args := [a, b]) (h := h) (R := fun v' h' => v' = .bool (decide (l = k)) ∧ h' = h) t176 (Nat.le_of_ble_eq_true rfl) (by
    simp only [c176, run, Option.map_some, Nat.reduceEqDiff, Nat.reduceAdd, Nat.zero_add, ↓reduceIte, decide_eq_true_eq, decide_true, decide_false, Bool.not_true, Bool.not_false, Bool.true_eq_false, Bool.false_eq_true, List.getElem?_cons_zero, List.getElem?_cons_succ, List.nil_append, List.cons_append, reduceCtorEq, eq_self, decide_eq_false_iff_not, not_true_eq_false, not_false_eq_true, Nat.add_zero, Nat.succ_ne_self, Nat.one_ne_zero, Nat.zero_ne_one, lenI ha, lenI hb]
    by_cases hlen : l.length = k.length
    · have hlen' : (l.length : Int) = k.length := by omega
      simp only [run, Option.map_some, Nat.reduceEqDiff, Nat.reduceAdd, Nat.zero_add, ↓reduceIte, decide_eq_true_eq, decide_true, decide_false, Bool.not_true, Bool.not_false, Bool.true_eq_false, Bool.false_eq_true, List.getElem?_cons_zero, List.getElem?_cons_succ, List.nil_append, List.cons_append, reduceCtorEq, eq_self, decide_eq_false_iff_not, not_true_eq_false, not_false_eq_true, Nat.add_zero, Nat.succ_ne_self, Nat.one_ne_zero, Nat.zero_ne_one, hlen', ne_eq, lenI ha]
      refine w_loop (fun m E g => ∃ i, i + m = l.length ∧ g = h ∧ E 0 = a ∧ E 1 = b ∧ E 12 = .int .i64 l.length ∧ E 13 = .int .i64 (i : Nat) ∧ l.take i = k.take i) l.length hl ?_ ?_
      · exact ⟨0, by omega, rfl, rfl, rfl, (by simp only [run, Option.map_some, Nat.reduceEqDiff, Nat.reduceAdd, Nat.zero_add, ↓reduceIte, decide_eq_true_eq, decide_true, decide_false, Bool.not_true, Bool.not_false, Bool.true_eq_false, Bool.false_eq_true, List.getElem?_cons_zero, List.getElem?_cons_succ, List.nil_append, List.cons_append, reduceCtorEq, eq_self, decide_eq_false_iff_not, not_true_eq_false, not_false_eq_true, Nat.add_zero, Nat.succ_ne_self, Nat.one_ne_zero, Nat.zero_ne_one]; exact congrArg _ (by omega)), rfl, rfl⟩
      · rintro m E g ⟨i, hm, rfl, e0, e1, e12, e5, hq⟩
        simp only [run, Option.map_some, Nat.reduceEqDiff, Nat.reduceAdd, Nat.zero_add, ↓reduceIte, decide_eq_true_eq, decide_true, decide_false, Bool.not_true, Bool.not_false, Bool.true_eq_false, Bool.false_eq_true, List.getElem?_cons_zero, List.getElem?_cons_succ, List.nil_append, List.cons_append, reduceCtorEq, eq_self, decide_eq_false_iff_not, not_true_eq_false, not_false_eq_true, Nat.add_zero, Nat.succ_ne_self, Nat.one_ne_zero, Nat.zero_ne_one, e0, e1, e5, e12, lenI ha]
        by_cases hi : i < l.length
        · have hi' : ((i : Int) < l.length) = True := eq_true (by omega)
          have hi2 : ((i : Int) < k.length) = True := eq_true (by omega)
          have hik : i < k.length := by omega
          obtain ⟨q, o, a1, _, a2⟩ := loadI (k := .i64) ha hi
          obtain ⟨q', o', b1, _, b2⟩ := loadI (k := .i64) hb hik
          have a6 : binV .add 0 (.int .i64 i) (.int .i64 1) = some (.int .i64 ((i + 1 : Nat) : Int)) := b_addN 0 (k := .i64) (a := i) (b := 1) (fits_i64 (by omega))
          simp only [run, Option.map_some, Nat.reduceEqDiff, Nat.reduceAdd, Nat.zero_add, ↓reduceIte, decide_eq_true_eq, decide_true, decide_false, Bool.not_true, Bool.not_false, Bool.true_eq_false, Bool.false_eq_true, List.getElem?_cons_zero, List.getElem?_cons_succ, List.nil_append, List.cons_append, reduceCtorEq, eq_self, decide_eq_false_iff_not, not_true_eq_false, not_false_eq_true, Nat.add_zero, Nat.succ_ne_self, Nat.one_ne_zero, Nat.zero_ne_one, hi', hi2, a1, a2, b1, b2, e0, e1, e5, ne_eq]
          by_cases he : l[i] = k[i]
          · simp only [run, Option.map_some, Nat.reduceEqDiff, Nat.reduceAdd, Nat.zero_add, ↓reduceIte, decide_eq_true_eq, decide_true, decide_false, Bool.not_true, Bool.not_false, Bool.true_eq_false, Bool.false_eq_true, List.getElem?_cons_zero, List.getElem?_cons_succ, List.nil_append, List.cons_append, reduceCtorEq, eq_self, decide_eq_false_iff_not, not_true_eq_false, not_false_eq_true, Nat.add_zero, Nat.succ_ne_self, Nat.one_ne_zero, Nat.zero_ne_one, he, e5, a6]
            refine ⟨m - 1, by omega, i + 1, by omega, (by first | rfl | trivial), (by first | rfl | trivial), (by first | rfl | trivial), (by first | rfl | trivial), rfl, ?_⟩
            rw [List.take_succ_eq_append_getElem hi, List.take_succ_eq_append_getElem hik, hq, he]
          · simp only [run, Option.map_some, Nat.reduceEqDiff, Nat.reduceAdd, Nat.zero_add, ↓reduceIte, decide_eq_true_eq, decide_true, decide_false, Bool.not_true, Bool.not_false, Bool.true_eq_false, Bool.false_eq_true, List.getElem?_cons_zero, List.getElem?_cons_succ, List.nil_append, List.cons_append, reduceCtorEq, eq_self, decide_eq_false_iff_not, not_true_eq_false, not_false_eq_true, Nat.add_zero, Nat.succ_ne_self, Nat.one_ne_zero, Nat.zero_ne_one, he, e5, and_true]
            have : ¬ l = k := fun x => he (by subst x; rfl)
            simp [this]
        · have hi' : ((i : Int) < l.length) = False := eq_false (by omega)
          have hi2 : ((i : Int) < k.length) = False := eq_false (by omega)
          simp only [run, Option.map_some, Nat.reduceEqDiff, Nat.reduceAdd, Nat.zero_add, ↓reduceIte, decide_eq_true_eq, decide_true, decide_false, Bool.not_true, Bool.not_false, Bool.true_eq_false, Bool.false_eq_true, List.getElem?_cons_zero, List.getElem?_cons_succ, List.nil_append, List.cons_append, reduceCtorEq, eq_self, decide_eq_false_iff_not, not_true_eq_false, not_false_eq_true, Nat.add_zero, Nat.succ_ne_self, Nat.one_ne_zero, Nat.zero_ne_one, hi', hi2, and_true]
          rw [List.take_of_length_le (by omega), List.take_of_length_le (by omega)] at hq
          simp [hq]
    · have hlen' : ¬ (l.length : Int) = k.length := by omega
      simp only [run, Option.map_some, Nat.reduceEqDiff, Nat.reduceAdd, Nat.zero_add, ↓reduceIte, decide_eq_true_eq, decide_true, decide_false, Bool.not_true, Bool.not_false, Bool.true_eq_false, Bool.false_eq_true, List.getElem?_cons_zero, List.getElem?_cons_succ, List.nil_append, List.cons_append, reduceCtorEq, eq_self, decide_eq_false_iff_not, not_true_eq_false, not_false_eq_true, Nat.add_zero, Nat.succ_ne_self, Nat.one_ne_zero, Nat.zero_ne_one, hlen', ne_eq, and_true]
      have : ¬ l = k := fun x => hlen (by subst x; rfl)
      simp [this])
  obtain ⟨rfl, rfl⟩ := r
  exact e

end Go.Proofs.Ytapmpenkceomdaa
/- Bytes behind their sum. -/
set_option linter.unusedSimpArgs false
set_option linter.unusedVariables false
set_option maxRecDepth 20000
namespace Go.Proofs.Ytapmpenkceomdaa
open Go.Ab

variable {n d : Nat} {h : AHeap}

/-- a sum in four bytes -/
def le4 (c : Nat) : List UInt8 := [UInt8.ofNat (c % 256), UInt8.ofNat (c / 256 % 256), UInt8.ofNat (c / 65536 % 256), UInt8.ofNat (c / 16777216 % 256)]
def four (l : List UInt8) : List UInt8 := le4 (crcSum l) ++ l
def isSound (l : List UInt8) : Bool := decide (4 ≤ l.length) && decide (l.take 4 = le4 (crcSum (l.drop 4)))

theorem conv_u8 {k : IntKind} (a : Nat) : convV .u8 (.int k a) = some (.int .u8 ((a % 256 : Nat) : Int)) := by
  rw [conv_int, wrap_u8']; rfl
theorem u8v_ofNat {x : Nat} (h : x < 256) : u8v (UInt8.ofNat x) = .int .u8 x := by
  unfold u8v
  have : (UInt8.ofNat x).toNat = x := by simp; omega
  rw [this]
theorem tuple_dec {x : Value} {p q : Prop} [Decidable p] [Decidable q] (h : p ↔ q) : Value.tuple ⟨[x, .bool (decide p)]⟩ = .tuple ⟨[x, .bool (decide q)]⟩ := by
  rw [decide_eq_decide.2 h]
theorem bslice_four (a b c e : Int) (m : Nat) : bsliceV [.int .u8 0] 1 4 [(0 * 1, 1, .int .u8 a), (1 * 1, 1, .int .u8 b), (2 * 1, 1, .int .u8 c), (3 * 1, 1, .int .u8 e)] m =
    some (.slice (some ⟨m, 0, none⟩) 4 4, ⟨[.int .u8 a, .int .u8 b, .int .u8 c, .int .u8 e], 1, 0, none⟩) := by
  simp [bsliceV, repeatCells, fillV, splice, cells_int]

theorem four58_spec (hd : 3 ≤ d) (hn : 20 ≤ n) {v : Value} {l : List UInt8} (hv : Bytes 0 h.next h v l) (hl : l.length < n) (hl' : l.length ≤ 2 ^ 46) :
    ∃ v' h', aCall Try.prog n d 58 [v] h = some (v', h') ∧ Ext no h.next h h' ∧ OwnB h.next h' v' (four l) := by
  obtain ⟨d, rfl, hd⟩ := depth hd
  refine call_of t58 (Nat.le_of_ble_eq_true rfl) ?_
  simp only [c58, run, Option.map_some, Nat.reduceEqDiff, Nat.reduceAdd, Nat.zero_add, ↓reduceIte, decide_eq_true_eq, decide_true, decide_false, Bool.not_true, Bool.not_false, Bool.true_eq_false, Bool.false_eq_true, List.getElem?_cons_zero, List.getElem?_cons_succ, List.nil_append, List.cons_append, reduceCtorEq, eq_self, decide_eq_false_iff_not, not_true_eq_false, not_false_eq_true, Nat.add_zero, Nat.succ_ne_self, Nat.one_ne_zero, Nat.zero_ne_one]
  refine useE (sum117_spec (by omega) hv hn hl (by omega)) ?_
  have hc := crcSum_lt l
  have a1 : binV .shr 0 (.int .u32 (crcSum l)) (.int .u64 8) = some (.int .u32 ((crcSum l / 256 : Nat) : Int)) := b_shrN 0 (k := .u32) (j := .u64) (s := 8) (by decide)
  have a2 : binV .shr 0 (.int .u32 (crcSum l)) (.int .u64 16) = some (.int .u32 ((crcSum l / 65536 : Nat) : Int)) := b_shrN 0 (k := .u32) (j := .u64) (s := 16) (by decide)
  have a3 : binV .shr 0 (.int .u32 (crcSum l)) (.int .u64 24) = some (.int .u32 ((crcSum l / 16777216 : Nat) : Int)) := b_shrN 0 (k := .u32) (j := .u64) (s := 24) (by decide)
  simp only [run, Option.map_some, Nat.reduceEqDiff, Nat.reduceAdd, Nat.zero_add, ↓reduceIte, decide_eq_true_eq, decide_true, decide_false, Bool.not_true, Bool.not_false, Bool.true_eq_false, Bool.false_eq_true, List.getElem?_cons_zero, List.getElem?_cons_succ, List.nil_append, List.cons_append, reduceCtorEq, eq_self, decide_eq_false_iff_not, not_true_eq_false, not_false_eq_true, Nat.add_zero, Nat.succ_ne_self, Nat.one_ne_zero, Nat.zero_ne_one, a1, a2, a3, conv_u8]
  refine useE (bslice_four _ _ _ _ _) ?_
  have e : [Value.int .u8 ((crcSum l % 256 : Nat) : Int), .int .u8 ((crcSum l / 256 % 256 : Nat) : Int), .int .u8 ((crcSum l / 65536 % 256 : Nat) : Int), .int .u8 ((crcSum l / 16777216 % 256 : Nat) : Int)] = bsv (le4 (crcSum l)) := by
    simp only [le4, bsv, List.map_cons, List.map_nil]
    rw [u8v_ofNat (by omega), u8v_ofNat (by omega), u8v_ofNat (by omega), u8v_ofNat (by omega)]
  rw [e]
  (try simp only [run, Option.map_some, Nat.reduceEqDiff, Nat.reduceAdd, Nat.zero_add, ↓reduceIte, decide_eq_true_eq, decide_true, decide_false, Bool.not_true, Bool.not_false, Bool.true_eq_false, Bool.false_eq_true, List.getElem?_cons_zero, List.getElem?_cons_succ, List.nil_append, List.cons_append, reduceCtorEq, eq_self, decide_eq_false_iff_not, not_true_eq_false, not_false_eq_true, Nat.add_zero, Nat.succ_ne_self, Nat.one_ne_zero, Nat.zero_ne_one])
  have x1 : Ext no h.next h (h.alloc ⟨bsv (le4 (crcSum l)), 1, 0, none⟩) := Ext.new _ _ _
  refine use (appendB (n := 2 ^ 47) (Own.mk (lo := h.next) (sz := 1) (cs := bsv (le4 (crcSum l))) (len := 4) (Nat.le_refl _) rfl) (Nat.le_succ _) (hv.keep x1 (Nat.le_refl _)) (by simp [le4]; omega) (by decide)) ?_
  rintro v2 h2 ⟨x2, o2⟩
  (try simp only [run, Option.map_some, Nat.reduceEqDiff, Nat.reduceAdd, Nat.zero_add, ↓reduceIte, decide_eq_true_eq, decide_true, decide_false, Bool.not_true, Bool.not_false, Bool.true_eq_false, Bool.false_eq_true, List.getElem?_cons_zero, List.getElem?_cons_succ, List.nil_append, List.cons_append, reduceCtorEq, eq_self, decide_eq_false_iff_not, not_true_eq_false, not_false_eq_true, Nat.add_zero, Nat.succ_ne_self, Nat.one_ne_zero, Nat.zero_ne_one])
  exact ⟨x1.trans x2 (Nat.le_refl _), o2⟩

theorem four114_spec (hd : 3 ≤ d) (hn : 20 ≤ n) {v : Value} {l : List UInt8} (hv : Bytes 0 h.next h v l) (hl : l.length < n) (hl' : l.length ≤ 2 ^ 46) :
    ∃ v' h', aCall Try.prog n d 114 [v] h = some (v', h') ∧ Ext no h.next h h' ∧ OwnB h.next h' v' (four l) := by
  obtain ⟨d, rfl, hd⟩ := depth hd
  refine call_of t114 (Nat.le_of_ble_eq_true rfl) ?_
  simp only [c114, run, Option.map_some, Nat.reduceEqDiff, Nat.reduceAdd, Nat.zero_add, ↓reduceIte, decide_eq_true_eq, decide_true, decide_false, Bool.not_true, Bool.not_false, Bool.true_eq_false, Bool.false_eq_true, List.getElem?_cons_zero, List.getElem?_cons_succ, List.nil_append, List.cons_append, reduceCtorEq, eq_self, decide_eq_false_iff_not, not_true_eq_false, not_false_eq_true, Nat.add_zero, Nat.succ_ne_self, Nat.one_ne_zero, Nat.zero_ne_one]
  refine useE (sum162_spec (by omega) hv hn hl (by omega)) ?_
  have hc := crcSum_lt l
  have a1 : binV .shr 0 (.int .u32 (crcSum l)) (.int .u64 8) = some (.int .u32 ((crcSum l / 256 : Nat) : Int)) := b_shrN 0 (k := .u32) (j := .u64) (s := 8) (by decide)
  have a2 : binV .shr 0 (.int .u32 (crcSum l)) (.int .u64 16) = some (.int .u32 ((crcSum l / 65536 : Nat) : Int)) := b_shrN 0 (k := .u32) (j := .u64) (s := 16) (by decide)
  have a3 : binV .shr 0 (.int .u32 (crcSum l)) (.int .u64 24) = some (.int .u32 ((crcSum l / 16777216 : Nat) : Int)) := b_shrN 0 (k := .u32) (j := .u64) (s := 24) (by decide)
  simp only [run, Option.map_some, Nat.reduceEqDiff, Nat.reduceAdd, Nat.zero_add, ↓reduceIte, decide_eq_true_eq, decide_true, decide_false, Bool.not_true, Bool.not_false, Bool.true_eq_false, Bool.false_eq_true, List.getElem?_cons_zero, List.getElem?_cons_succ, List.nil_append, List.cons_append, reduceCtorEq, eq_self, decide_eq_false_iff_not, not_true_eq_false, not_false_eq_true, Nat.add_zero, Nat.succ_ne_self, Nat.one_ne_zero, Nat.zero_ne_one, a1, a2, a3, conv_u8]
  refine useE (bslice_four _ _ _ _ _) ?_
  have e : [Value.int .u8 ((crcSum l % 256 : Nat) : Int), .int .u8 ((crcSum l / 256 % 256 : Nat) : Int), .int .u8 ((crcSum l / 65536 % 256 : Nat) : Int), .int .u8 ((crcSum l / 16777216 % 256 : Nat) : Int)] = bsv (le4 (crcSum l)) := by
    simp only [le4, bsv, List.map_cons, List.map_nil]
    rw [u8v_ofNat (by omega), u8v_ofNat (by omega), u8v_ofNat (by omega), u8v_ofNat (by omega)]
  rw [e]
  (try simp only [run, Option.map_some, Nat.reduceEqDiff, Nat.reduceAdd, Nat.zero_add, ↓reduceIte, decide_eq_true_eq, decide_true, decide_false, Bool.not_true, Bool.not_false, Bool.true_eq_false, Bool.false_eq_true, List.getElem?_cons_zero, List.getElem?_cons_succ, List.nil_append, List.cons_append, reduceCtorEq, eq_self, decide_eq_false_iff_not, not_true_eq_false, not_false_eq_true, Nat.add_zero, Nat.succ_ne_self, Nat.one_ne_zero, Nat.zero_ne_one])
  have x1 : Ext no h.next h (h.alloc ⟨bsv (le4 (crcSum l)), 1, 0, none⟩) := Ext.new _ _ _
  refine use (appendB (n := 2 ^ 47) (Own.mk (lo := h.next) (sz := 1) (cs := bsv (le4 (crcSum l))) (len := 4) (Nat.le_refl _) rfl) (Nat.le_succ _) (hv.keep x1 (Nat.le_refl _)) (by simp [le4]; omega) (by decide)) ?_
  rintro v2 h2 ⟨x2, o2⟩
  (try simp only [run, Option.map_some, Nat.reduceEqDiff, Nat.reduceAdd, Nat.zero_add, ↓reduceIte, decide_eq_true_eq, decide_true, decide_false, Bool.not_true, Bool.not_false, Bool.true_eq_false, Bool.false_eq_true, List.getElem?_cons_zero, List.getElem?_cons_succ, List.nil_append, List.cons_append, reduceCtorEq, eq_self, decide_eq_false_iff_not, not_true_eq_false, not_false_eq_true, Nat.add_zero, Nat.succ_ne_self, Nat.one_ne_zero, Nat.zero_ne_one])
  exact ⟨x1.trans x2 (Nat.le_refl _), o2⟩

theorem or_sh {a b i : Nat} (h : a < 2 ^ i) : a ||| b * 2 ^ i = a + b * 2 ^ i := by
  rw [Nat.or_comm, Nat.mul_comm b, ← Nat.two_pow_add_eq_or_of_lt h]; omega

theorem le4_iff (a b c e : UInt8) (s : Nat) (hs : s < 4294967296) : a.toNat + b.toNat * 256 + c.toNat * 65536 + e.toNat * 16777216 = s ↔ [a, b, c, e] = le4 s := by
  have := a.toNat_lt; have := b.toNat_lt; have := c.toNat_lt; have := e.toNat_lt
  unfold le4
  simp only [List.cons.injEq, and_true, ← UInt8.toNat_inj]
  simp
  omega

theorem take_four {l : List UInt8} (h : 4 ≤ l.length) : l.take 4 = [l[0], l[1], l[2], l[3]] := by
  match l, h with
  | a :: b :: c :: e :: r, _ => rfl

theorem sound_spec (hd : 3 ≤ d) (hn : 20 ≤ n) {v : Value} {l : List UInt8} {lo hi : Nat} (hv : Bytes lo hi h v l) (hl : l.length < n) (hl' : l.length ≤ 2 ^ 46) :
    ∃ v' h', aCall Try.prog n d 115 [v] h = some (v', h') ∧ h' = h ∧ ∃ x, v' = .tuple ⟨[x, .bool (isSound l)]⟩ ∧ Bytes lo hi h x (l.drop 4) := by
  obtain ⟨d, rfl, hd⟩ := depth hd
  refine call_of t115 (Nat.le_of_ble_eq_true rfl) ?_
  simp only [c115, run, Option.map_some, Nat.reduceEqDiff, Nat.reduceAdd, Nat.zero_add, ↓reduceIte, decide_eq_true_eq, decide_true, decide_false, Bool.not_true, Bool.not_false, Bool.true_eq_false, Bool.false_eq_true, List.getElem?_cons_zero, List.getElem?_cons_succ, List.nil_append, List.cons_append, reduceCtorEq, eq_self, decide_eq_false_iff_not, not_true_eq_false, not_false_eq_true, Nat.add_zero, Nat.succ_ne_self, Nat.one_ne_zero, Nat.zero_ne_one, lenB hv]
  by_cases h4 : l.length < 4
  · have h4' : (l.length : Int) < 4 := by omega
    simp only [run, Option.map_some, Nat.reduceEqDiff, Nat.reduceAdd, Nat.zero_add, ↓reduceIte, decide_eq_true_eq, decide_true, decide_false, Bool.not_true, Bool.not_false, Bool.true_eq_false, Bool.false_eq_true, List.getElem?_cons_zero, List.getElem?_cons_succ, List.nil_append, List.cons_append, reduceCtorEq, eq_self, decide_eq_false_iff_not, not_true_eq_false, not_false_eq_true, Nat.add_zero, Nat.succ_ne_self, Nat.one_ne_zero, Nat.zero_ne_one, h4', true_and]
    have e : isSound l = false := by unfold isSound; simp; omega
    rw [e, List.drop_eq_nil_of_le (by omega)]
    exact ⟨_, rfl, Sl.nil⟩
  · have h4' : ¬ (l.length : Int) < 4 := by omega
    obtain ⟨m0, o0, a0, _, b0⟩ := loadB (k := .i64) (i := 0) hv (by omega)
    replace a0 : iaddrSV 1 v (.int .i64 0) = some (.pointer (some ⟨m0, o0, none⟩)) := a0
    obtain ⟨m1, o1, a1, _, b1⟩ := loadB (k := .i64) (i := 1) hv (by omega)
    replace a1 : iaddrSV 1 v (.int .i64 1) = some (.pointer (some ⟨m1, o1, none⟩)) := a1
    obtain ⟨m2, o2, a2, _, b2⟩ := loadB (k := .i64) (i := 2) hv (by omega)
    replace a2 : iaddrSV 1 v (.int .i64 2) = some (.pointer (some ⟨m2, o2, none⟩)) := a2
    obtain ⟨m3, o3, a3, _, b3⟩ := loadB (k := .i64) (i := 3) hv (by omega)
    replace a3 : iaddrSV 1 v (.int .i64 3) = some (.pointer (some ⟨m3, o3, none⟩)) := a3
    obtain ⟨x, hx, hx2⟩ := cutB hv (a := 4) (b := l.length) (by omega) (Nat.le_refl _)
    rw [List.take_of_length_le (by simp)] at hx
    have hx3 : sliceSV 1 v (some (.int .i64 4)) none none h = some x := hx2 (some (.int .i64 4)) none (.inl rfl) (.inr ⟨rfl, rfl⟩)
    have hs : isSound l = decide ((l[0].toNat + l[1].toNat * 256 + l[2].toNat * 65536 + l[3].toNat * 16777216 : Nat) = crcSum (l.drop 4)) := by
      unfold isSound
      rw [take_four (by omega), decide_eq_true (show 4 ≤ l.length by omega), Bool.true_and]
      exact decide_eq_decide.2 (le4_iff _ _ _ _ _ (crcSum_lt _)).symm
    have k0 := l[0].toNat_lt
    have k1 := l[1].toNat_lt
    have k2 := l[2].toNat_lt
    have k3 := l[3].toNat_lt
    rw [hs]
    generalize l[0].toNat = B0 at *
    generalize l[1].toNat = B1 at *
    generalize l[2].toNat = B2 at *
    generalize l[3].toNat = B3 at *
    have c0 : ∀ {B : Nat}, B < 2 ^ 8 → convV .u32 (.int .u8 B) = some (.int .u32 B) := fun h => convN (fits_u32 (by omega))
    have s1 : binV .shl 0 (.int .u32 B1) (.int .u64 8) = some (.int .u32 ((B1 * 256 : Nat) : Int)) := b_shlN 0 (k := .u32) (j := .u64) (s := 8) (by decide) (fits_u32 (by omega))
    have s2 : binV .shl 0 (.int .u32 B2) (.int .u64 16) = some (.int .u32 ((B2 * 65536 : Nat) : Int)) := b_shlN 0 (k := .u32) (j := .u64) (s := 16) (by decide) (fits_u32 (by omega))
    have s3 : binV .shl 0 (.int .u32 B3) (.int .u64 24) = some (.int .u32 ((B3 * 16777216 : Nat) : Int)) := b_shlN 0 (k := .u32) (j := .u64) (s := 24) (by decide) (fits_u32 (by omega))
    have r1 : binV .or 0 (.int .u32 B0) (.int .u32 ((B1 * 256 : Nat) : Int)) = some (.int .u32 ((B0 + B1 * 256 : Nat) : Int)) := by
      rw [← or_sh (i := 8) k0]; exact b_or 0 (fits_u32 (by omega)) (fits_u32 (by omega))
    have r2 : binV .or 0 (.int .u32 ((B0 + B1 * 256 : Nat) : Int)) (.int .u32 ((B2 * 65536 : Nat) : Int)) = some (.int .u32 ((B0 + B1 * 256 + B2 * 65536 : Nat) : Int)) := by
      rw [← or_sh (i := 16) (show B0 + B1 * 256 < 2 ^ 16 by omega)]; exact b_or 0 (fits_u32 (by omega)) (fits_u32 (by omega))
    have r3 : binV .or 0 (.int .u32 ((B0 + B1 * 256 + B2 * 65536 : Nat) : Int)) (.int .u32 ((B3 * 16777216 : Nat) : Int)) = some (.int .u32 ((B0 + B1 * 256 + B2 * 65536 + B3 * 16777216 : Nat) : Int)) := by
      rw [← or_sh (i := 24) (show B0 + B1 * 256 + B2 * 65536 < 2 ^ 24 by omega)]; exact b_or 0 (fits_u32 (by omega)) (fits_u32 (by omega))
    simp only [run, Option.map_some, Nat.reduceEqDiff, Nat.reduceAdd, Nat.zero_add, ↓reduceIte, decide_eq_true_eq, decide_true, decide_false, Bool.not_true, Bool.not_false, Bool.true_eq_false, Bool.false_eq_true, List.getElem?_cons_zero, List.getElem?_cons_succ, List.nil_append, List.cons_append, reduceCtorEq, eq_self, decide_eq_false_iff_not, not_true_eq_false, not_false_eq_true, Nat.add_zero, Nat.succ_ne_self, Nat.one_ne_zero, Nat.zero_ne_one, rund, List.contains_cons, List.contains_nil, Nat.reduceBEq, Bool.and_true, Bool.true_and, Bool.and_false, Bool.false_and, Bool.or_false, Bool.or_true, Bool.false_or, Bool.true_or, true_or, or_true, true_and, and_true, beq_self_eq_true, h4', a0, a1, a2, a3, b0, b1, b2, b3, c0 k0, c0 k1, c0 k2, c0 k3, s1, s2, s3, r1, r2, r3, hx3]
    refine useE (sum162_spec (by omega) hx hn (by simp; omega) (by simp; omega)) ?_
    simp only [run, Option.map_some, Nat.reduceEqDiff, Nat.reduceAdd, Nat.zero_add, ↓reduceIte, decide_eq_true_eq, decide_true, decide_false, Bool.not_true, Bool.not_false, Bool.true_eq_false, Bool.false_eq_true, List.getElem?_cons_zero, List.getElem?_cons_succ, List.nil_append, List.cons_append, reduceCtorEq, eq_self, decide_eq_false_iff_not, not_true_eq_false, not_false_eq_true, Nat.add_zero, Nat.succ_ne_self, Nat.one_ne_zero, Nat.zero_ne_one, rund, List.contains_cons, List.contains_nil, Nat.reduceBEq, Bool.and_true, Bool.true_and, Bool.and_false, Bool.false_and, Bool.or_false, Bool.or_true, Bool.false_or, Bool.true_or, true_or, or_true, true_and, and_true, beq_self_eq_true, l_sliceS, hx3, hx.beq]
    exact ⟨x, tuple_dec (by omega), hx⟩

theorem unfour_spec (hd : 3 ≤ d) (hn : 20 ≤ n) {v : Value} {l : List UInt8} {hi : Nat} (hv : Bytes 0 h.next h v l) (hl : l.length < n) (hl' : l.length ≤ 2 ^ 46) :
    ∃ v' h', aCall Try.prog n d 122 [v] h = some (v', h') ∧ Ext no h.next h h' ∧ ∃ x, v' = .tuple ⟨[x, .bool (isSound l)]⟩ ∧ OwnB h.next h' x (if isSound l then l.drop 4 else []) := by
  obtain ⟨d, rfl, hd⟩ := depth hd
  refine call_of t122 (Nat.le_of_ble_eq_true rfl) ?_
  by_cases h4 : l.length < 4
  · have h4' : (l.length : Int) < 4 := by omega
    simp only [c122, run, Option.map_some, Nat.reduceEqDiff, Nat.reduceAdd, Nat.zero_add, ↓reduceIte, decide_eq_true_eq, decide_true, decide_false, Bool.not_true, Bool.not_false, Bool.true_eq_false, Bool.false_eq_true, List.getElem?_cons_zero, List.getElem?_cons_succ, List.nil_append, List.cons_append, reduceCtorEq, eq_self, decide_eq_false_iff_not, not_true_eq_false, not_false_eq_true, Nat.add_zero, Nat.succ_ne_self, Nat.one_ne_zero, Nat.zero_ne_one, lenB hv, h4', true_and]
    have e : isSound l = false := by unfold isSound; simp; omega
    rw [e]
    exact ⟨Ext.refl _ _ _, _, rfl, Own.nil⟩
  · have h4' : ¬ (l.length : Int) < 4 := by omega
    obtain ⟨m0, o0, a0, _, b0⟩ := loadB (k := .i64) (i := 0) hv (by omega)
    replace a0 : iaddrSV 1 v (.int .i64 0) = some (.pointer (some ⟨m0, o0, none⟩)) := a0
    obtain ⟨m1, o1, a1, _, b1⟩ := loadB (k := .i64) (i := 1) hv (by omega)
    replace a1 : iaddrSV 1 v (.int .i64 1) = some (.pointer (some ⟨m1, o1, none⟩)) := a1
    obtain ⟨m2, o2, a2, _, b2⟩ := loadB (k := .i64) (i := 2) hv (by omega)
    replace a2 : iaddrSV 1 v (.int .i64 2) = some (.pointer (some ⟨m2, o2, none⟩)) := a2
    obtain ⟨m3, o3, a3, _, b3⟩ := loadB (k := .i64) (i := 3) hv (by omega)
    replace a3 : iaddrSV 1 v (.int .i64 3) = some (.pointer (some ⟨m3, o3, none⟩)) := a3
    obtain ⟨x, hx, hx2⟩ := cutB hv (a := 4) (b := l.length) (by omega) (Nat.le_refl _)
    rw [List.take_of_length_le (by simp)] at hx
    have hx3 : sliceSV 1 v (some (.int .i64 4)) none none h = some x := hx2 (some (.int .i64 4)) none (.inl rfl) (.inr ⟨rfl, rfl⟩)
    simp only [c122, run, Option.map_some, Nat.reduceEqDiff, Nat.reduceAdd, Nat.zero_add, ↓reduceIte, decide_eq_true_eq, decide_true, decide_false, Bool.not_true, Bool.not_false, Bool.true_eq_false, Bool.false_eq_true, List.getElem?_cons_zero, List.getElem?_cons_succ, List.nil_append, List.cons_append, reduceCtorEq, eq_self, decide_eq_false_iff_not, not_true_eq_false, not_false_eq_true, Nat.add_zero, Nat.succ_ne_self, Nat.one_ne_zero, Nat.zero_ne_one, lenB hv, h4', hx3]
    refine useE (sum117_spec (by omega) hx hn (by simp; omega) (by simp; omega)) ?_
    have hc := crcSum_lt (l.drop 4)
    have s1 : binV .shr 0 (.int .u32 (crcSum (l.drop 4))) (.int .u64 8) = some (.int .u32 ((crcSum (l.drop 4) / 256 : Nat) : Int)) := b_shrN 0 (k := .u32) (j := .u64) (s := 8) (by decide)
    have s2 : binV .shr 0 (.int .u32 (crcSum (l.drop 4))) (.int .u64 16) = some (.int .u32 ((crcSum (l.drop 4) / 65536 : Nat) : Int)) := b_shrN 0 (k := .u32) (j := .u64) (s := 16) (by decide)
    have s3 : binV .shr 0 (.int .u32 (crcSum (l.drop 4))) (.int .u64 24) = some (.int .u32 ((crcSum (l.drop 4) / 16777216 : Nat) : Int)) := b_shrN 0 (k := .u32) (j := .u64) (s := 24) (by decide)
    have hs : isSound l = decide (l[0].toNat = crcSum (l.drop 4) % 256 ∧ l[1].toNat = crcSum (l.drop 4) / 256 % 256 ∧ l[2].toNat = crcSum (l.drop 4) / 65536 % 256 ∧ l[3].toNat = crcSum (l.drop 4) / 16777216 % 256) := by
      unfold isSound
      rw [take_four (by omega), decide_eq_true (show 4 ≤ l.length by omega), Bool.true_and]
      refine decide_eq_decide.2 ?_
      unfold le4
      simp only [List.cons.injEq, and_true, ← UInt8.toNat_inj]
      simp
    generalize hB0 : l[0].toNat = B0 at *
    generalize hB1 : l[1].toNat = B1 at *
    generalize hB2 : l[2].toNat = B2 at *
    generalize hB3 : l[3].toNat = B3 at *
    generalize hS : crcSum (l.drop 4) = S at *
    simp only [run, Option.map_some, Nat.reduceEqDiff, Nat.reduceAdd, Nat.zero_add, ↓reduceIte, decide_eq_true_eq, decide_true, decide_false, Bool.not_true, Bool.not_false, Bool.true_eq_false, Bool.false_eq_true, List.getElem?_cons_zero, List.getElem?_cons_succ, List.nil_append, List.cons_append, reduceCtorEq, eq_self, decide_eq_false_iff_not, not_true_eq_false, not_false_eq_true, Nat.add_zero, Nat.succ_ne_self, Nat.one_ne_zero, Nat.zero_ne_one, a0, a1, a2, a3, b0, b1, b2, b3, s1, s2, s3, conv_u8, ne_eq, decide_not]
    by_cases g0 : B0 = S % 256
    · have g0' : ((B0 : Int) = ((S % 256 : Nat) : Int)) = True := eq_true (by omega)
      by_cases g1 : B1 = S / 256 % 256
      · have g1' : ((B1 : Int) = ((S / 256 % 256 : Nat) : Int)) = True := eq_true (by omega)
        by_cases g2 : B2 = S / 65536 % 256
        · have g2' : ((B2 : Int) = ((S / 65536 % 256 : Nat) : Int)) = True := eq_true (by omega)
          by_cases g3 : B3 = S / 16777216 % 256
          · have g3' : ((B3 : Int) = ((S / 16777216 % 256 : Nat) : Int)) = True := eq_true (by omega)
            have hs' : isSound l = true := by rw [hs]; exact decide_eq_true ⟨g0, g1, g2, g3⟩
            rw [hs']
            simp only [run, Option.map_some, Nat.reduceEqDiff, Nat.reduceAdd, Nat.zero_add, ↓reduceIte, decide_eq_true_eq, decide_true, decide_false, Bool.not_true, Bool.not_false, Bool.true_eq_false, Bool.false_eq_true, List.getElem?_cons_zero, List.getElem?_cons_succ, List.nil_append, List.cons_append, reduceCtorEq, eq_self, decide_eq_false_iff_not, not_true_eq_false, not_false_eq_true, Nat.add_zero, Nat.succ_ne_self, Nat.one_ne_zero, Nat.zero_ne_one, g0', g1', g2', g3', a0, a1, a2, a3, b0, b1, b2, b3, s1, s2, s3, conv_u8, ne_eq, decide_not]
            refine useE (bslice_zero _ _ _ rfl (by decide)) ?_
            have x1 : Ext no h.next h (h.alloc ⟨[], 1, 0, none⟩) := Ext.new _ _ _
            obtain ⟨y, hy, hy2⟩ := cutB (hv.keep x1 (Nat.le_refl _)) (a := 4) (b := l.length) (by omega) (Nat.le_refl _)
            rw [List.take_of_length_le (by simp)] at hy
            have hy3 := hy2 (some (.int .i64 4)) none (.inl rfl) (.inr ⟨rfl, rfl⟩)
            simp only [run, Option.map_some, Nat.reduceEqDiff, Nat.reduceAdd, Nat.zero_add, ↓reduceIte, decide_eq_true_eq, decide_true, decide_false, Bool.not_true, Bool.not_false, Bool.true_eq_false, Bool.false_eq_true, List.getElem?_cons_zero, List.getElem?_cons_succ, List.nil_append, List.cons_append, reduceCtorEq, eq_self, decide_eq_false_iff_not, not_true_eq_false, not_false_eq_true, Nat.add_zero, Nat.succ_ne_self, Nat.one_ne_zero, Nat.zero_ne_one, hy3]
            refine use (appendB (n := 2 ^ 46) (Own.mk (lo := h.next) (sz := 1) (cs := bsv []) (len := 0) (Nat.le_refl _) rfl) (Nat.le_succ _) hy (by simp; omega) (by decide)) ?_
            rintro v3 h3 ⟨x3, o3⟩
            (try simp only [run, Option.map_some, Nat.reduceEqDiff, Nat.reduceAdd, Nat.zero_add, ↓reduceIte, decide_eq_true_eq, decide_true, decide_false, Bool.not_true, Bool.not_false, Bool.true_eq_false, Bool.false_eq_true, List.getElem?_cons_zero, List.getElem?_cons_succ, List.nil_append, List.cons_append, reduceCtorEq, eq_self, decide_eq_false_iff_not, not_true_eq_false, not_false_eq_true, Nat.add_zero, Nat.succ_ne_self, Nat.one_ne_zero, Nat.zero_ne_one])
            exact ⟨x1.trans x3 (Nat.le_refl _), _, rfl, o3⟩
          · have g3' : ((B3 : Int) = ((S / 16777216 % 256 : Nat) : Int)) = False := eq_false (by omega)
            have hs' : isSound l = false := by rw [hs]; exact decide_eq_false (fun x => g3 x.2.2.2)
            rw [hs']
            simp only [run, Option.map_some, Nat.reduceEqDiff, Nat.reduceAdd, Nat.zero_add, ↓reduceIte, decide_eq_true_eq, decide_true, decide_false, Bool.not_true, Bool.not_false, Bool.true_eq_false, Bool.false_eq_true, List.getElem?_cons_zero, List.getElem?_cons_succ, List.nil_append, List.cons_append, reduceCtorEq, eq_self, decide_eq_false_iff_not, not_true_eq_false, not_false_eq_true, Nat.add_zero, Nat.succ_ne_self, Nat.one_ne_zero, Nat.zero_ne_one, g0', g1', g2', g3', a0, a1, a2, a3, b0, b1, b2, b3, s1, s2, s3, conv_u8, ne_eq, decide_not]
            exact ⟨Ext.refl _ _ _, _, rfl, Own.nil⟩
        · have g2' : ((B2 : Int) = ((S / 65536 % 256 : Nat) : Int)) = False := eq_false (by omega)
          have hs' : isSound l = false := by rw [hs]; exact decide_eq_false (fun x => g2 x.2.2.1)
          rw [hs']
          simp only [run, Option.map_some, Nat.reduceEqDiff, Nat.reduceAdd, Nat.zero_add, ↓reduceIte, decide_eq_true_eq, decide_true, decide_false, Bool.not_true, Bool.not_false, Bool.true_eq_false, Bool.false_eq_true, List.getElem?_cons_zero, List.getElem?_cons_succ, List.nil_append, List.cons_append, reduceCtorEq, eq_self, decide_eq_false_iff_not, not_true_eq_false, not_false_eq_true, Nat.add_zero, Nat.succ_ne_self, Nat.one_ne_zero, Nat.zero_ne_one, g0', g1', g2', a0, a1, a2, a3, b0, b1, b2, b3, s1, s2, s3, conv_u8, ne_eq, decide_not]
          exact ⟨Ext.refl _ _ _, _, rfl, Own.nil⟩
      · have g1' : ((B1 : Int) = ((S / 256 % 256 : Nat) : Int)) = False := eq_false (by omega)
        have hs' : isSound l = false := by rw [hs]; exact decide_eq_false (fun x => g1 x.2.1)
        rw [hs']
        simp only [run, Option.map_some, Nat.reduceEqDiff, Nat.reduceAdd, Nat.zero_add, ↓reduceIte, decide_eq_true_eq, decide_true, decide_false, Bool.not_true, Bool.not_false, Bool.true_eq_false, Bool.false_eq_true, List.getElem?_cons_zero, List.getElem?_cons_succ, List.nil_append, List.cons_append, reduceCtorEq, eq_self, decide_eq_false_iff_not, not_true_eq_false, not_false_eq_true, Nat.add_zero, Nat.succ_ne_self, Nat.one_ne_zero, Nat.zero_ne_one, g0', g1', a0, a1, a2, a3, b0, b1, b2, b3, s1, s2, s3, conv_u8, ne_eq, decide_not]
        exact ⟨Ext.refl _ _ _, _, rfl, Own.nil⟩
    · have g0' : ((B0 : Int) = ((S % 256 : Nat) : Int)) = False := eq_false (by omega)
      have hs' : isSound l = false := by rw [hs]; exact decide_eq_false (fun x => g0 x.1)
      rw [hs']
      simp only [run, Option.map_some, Nat.reduceEqDiff, Nat.reduceAdd, Nat.zero_add, ↓reduceIte, decide_eq_true_eq, decide_true, decide_false, Bool.not_true, Bool.not_false, Bool.true_eq_false, Bool.false_eq_true, List.getElem?_cons_zero, List.getElem?_cons_succ, List.nil_append, List.cons_append, reduceCtorEq, eq_self, decide_eq_false_iff_not, not_true_eq_false, not_false_eq_true, Nat.add_zero, Nat.succ_ne_self, Nat.one_ne_zero, Nat.zero_ne_one, g0', a0, a1, a2, a3, b0, b1, b2, b3, s1, s2, s3, conv_u8, ne_eq, decide_not]
      exact ⟨Ext.refl _ _ _, _, rfl, Own.nil⟩

end Go.Proofs.Ytapmpenkceomdaa
