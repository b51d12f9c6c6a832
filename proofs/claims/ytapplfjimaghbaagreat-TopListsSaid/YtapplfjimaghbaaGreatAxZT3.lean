/- The functions of the seat, compiled, 4: each is what the compiler (AxComp, AxEvS3) makes of the program's. Printed by wip/tools/PrintSeat.lean. -/
import Derived.Test.YtapplfjimaghbaaGreatAxZ
set_option linter.all false
namespace Ax
open Go
set_option maxRecDepth 100000
/- conch/first.Of -/
noncomputable def AxZc196 : CF := ⟨(.seq (.reg [⟨(.some 1), .box 53 (.r 0), .none⟩, ⟨(.some 2), .mv (.c .nilp), .none⟩])
 (.seq (.seq (.reg [⟨(.some 15), .lda 4 (.r 1), .none⟩, ⟨(.some 16), .call 64 [(.r 15)], .none⟩, ⟨(.some 17), .bin .neq (.r 16) (.c (.i (.ofNat (nat_lit 0)))), .none⟩])
 (.cond (.r 17) (.seq (.reg [⟨(.some 2), .mv (.c .nilp), .none⟩])
 .ret) .skip))
 (.seq (.dreg [(⟨(.some 18), .fadr 0 (.r 1), .none⟩, false), (⟨(.some 19), .ld (.r 18), .none⟩, false), (⟨(.some 20), .lenSl (.r 19), .none⟩, false), (⟨(.some 21), .lda 4 (.r 1), .none⟩, false), (⟨(.some 22), .call 88 [(.r 21)], .none⟩, true), (⟨(.some 23), .build [(.i (.ofNat (nat_lit 0))), (.i (.ofNat (nat_lit 0)))] [(0, 1, (.r 20)), (1, 1, (.r 22))], .none⟩, false), (⟨(.some 3), .alloc 324 [(.i (.ofNat (nat_lit 0))), (.i (.ofNat (nat_lit 0)))], .none⟩, true), (⟨.none, .st 2 (.r 3) (.r 23), .none⟩, true)] [(⟨(.some 19), .ld (.r 18), .none⟩, 0, 3)])
 (.seq (.dreg [(⟨(.some 24), .lda 2 (.r 3), .none⟩, false), (⟨(.some 25), .fadr 1 (.r 3), .none⟩, false), (⟨(.some 26), .ld (.r 25), .none⟩, false), (⟨(.some 27), .bin .add (.r 26) (.c (.i (.ofNat (nat_lit 1)))), .none⟩, false), (⟨(.some 28), .call 200 [(.r 27)], .none⟩, true), (⟨(.some 29), .fadr 1 (.r 3), .none⟩, false), (⟨(.some 30), .ld (.r 29), .none⟩, false), (⟨(.some 31), .bin .add (.r 30) (.c (.i (.ofNat (nat_lit 1)))), .none⟩, false), (⟨(.some 32), .fadr 0 (.r 3), .none⟩, false), (⟨(.some 33), .ld (.r 32), .none⟩, false), (⟨(.some 34), .bin .add (.r 33) (.c (.i (.ofNat (nat_lit 1)))), .none⟩, false), (⟨(.some 35), .call 215 [(.r 31), (.r 34)], .none⟩, true), (⟨(.some 36), .fadr 1 (.r 3), .none⟩, false), (⟨(.some 37), .ld (.r 36), .none⟩, false), (⟨(.some 38), .bin .add (.r 37) (.c (.i (.ofNat (nat_lit 1)))), .none⟩, false), (⟨(.some 39), .fadr 0 (.r 3), .none⟩, false), (⟨(.some 40), .ld (.r 39), .none⟩, false), (⟨(.some 41), .bin .add (.r 40) (.c (.i (.ofNat (nat_lit 1)))), .none⟩, false), (⟨(.some 42), .call 215 [(.r 38), (.r 41)], .none⟩, true), (⟨(.some 43), .build [(.i (.ofNat (nat_lit 0))), (.i (.ofNat (nat_lit 0))), .nilp, .nils, .nils] [(0, 2, (.r 24)), (2, 1, (.r 28)), (3, 1, (.r 35)), (4, 1, (.r 42))], .none⟩, false), (⟨(.some 44), .box 327 (.r 43), .none⟩, true), (⟨(.some 4), .mv (.r 44), .none⟩, false)] [(⟨(.some 24), .lda 2 (.r 3), .none⟩, 0, 4), (⟨(.some 30), .ld (.r 29), .none⟩, 0, 2), (⟨(.some 33), .ld (.r 32), .none⟩, 0, 2), (⟨(.some 37), .ld (.r 36), .none⟩, 0, 3), (⟨(.some 40), .ld (.r 39), .none⟩, 0, 3)])
 (.seq (.seq (.reg [⟨(.some 45), .fadr 0 (.r 3), .none⟩, ⟨(.some 46), .ld (.r 45), .none⟩, ⟨(.some 47), .bin .add (.r 46) (.c (.i (.ofNat (nat_lit 1)))), .none⟩, ⟨(.some 48), .mv (.c (.i (.ofNat (nat_lit 0)))), .none⟩])
 (.block 0 (.loop (.seq (.reg [⟨(.some 49), .bin .lss (.r 48) (.r 47), .none⟩])
 (.seq (.cond (.r 49) .skip (.exit 0))
 (.seq (.block 1 (.seq (.reg [⟨(.some 50), .mv (.r 48), .none⟩, ⟨(.some 5), .mv (.r 50), .none⟩])
 (.reg [⟨(.some 51), .mv (.r 4), .none⟩, ⟨(.some 52), .nilck (.r 51), .none⟩, ⟨(.some 53), .fadr 3 (.r 52), .none⟩, ⟨(.some 54), .ld (.r 53), .none⟩, ⟨(.some 55), .mv (.r 5), .none⟩, ⟨(.some 56), .ixSl 1 (.r 54) (.r 55), .none⟩, ⟨(.some 57), .ld (.r 56), .none⟩, ⟨(.some 58), .mv (.r 5), .none⟩, ⟨(.some 59), .call 177 [(.r 57), (.r 58)], .none⟩])))
 (.reg [⟨(.some 60), .bin .add (.r 48) (.c (.i (.ofNat (nat_lit 1)))), .none⟩, ⟨(.some 48), .mv (.r 60), .none⟩])))))))
 (.seq (.seq (.reg [⟨(.some 6), .mv (.c (.b true)), .none⟩])
 (.block 2 (.loop (.seq (.seq (.reg [⟨(.some 61), .mv (.r 6), .none⟩])
 (.cond (.r 61) .skip (.exit 2)))
 (.block 3 (.seq (.reg [⟨(.some 6), .mv (.c (.b false)), .none⟩])
 (.seq (.reg [⟨(.some 62), .fadr 2 (.r 1), .none⟩, ⟨(.some 63), .ld (.r 62), .none⟩, ⟨(.some 64), .lenSl (.r 63), .none⟩, ⟨(.some 65), .mv (.c (.i (.ofNat (nat_lit 0)))), .none⟩])
 (.block 4 (.loop (.seq (.reg [⟨(.some 66), .bin .lss (.r 65) (.r 64), .none⟩])
 (.seq (.cond (.r 66) .skip (.exit 4))
 (.seq (.block 5 (.seq (.reg [⟨(.some 67), .ixSl 2 (.r 63) (.r 65), .none⟩, ⟨(.some 68), .lda 2 (.r 67), .none⟩, ⟨(.some 8), .alloc 149 [(.i (.ofNat (nat_lit 0))), .nils], .none⟩, ⟨.none, .st 2 (.r 8) (.r 68), .none⟩])
 (.seq (.dreg [(⟨(.some 70), .mv (.r 4), .none⟩, false), (⟨(.some 71), .mv (.r 4), .none⟩, false), (⟨(.some 72), .nilck (.r 71), .none⟩, false), (⟨(.some 73), .fadr 3 (.r 72), .none⟩, false), (⟨(.some 74), .ld (.r 73), .none⟩, false), (⟨(.some 75), .fadr 0 (.r 8), .none⟩, false), (⟨(.some 76), .ld (.r 75), .none⟩, false), (⟨(.some 77), .ixSl 1 (.r 74) (.r 76), .none⟩, false), (⟨(.some 78), .ld (.r 77), .none⟩, false), (⟨(.some 79), .fadr 1 (.r 8), .none⟩, false), (⟨(.some 80), .ld (.r 79), .none⟩, false), (⟨(.some 81), .call 216 [(.r 70), (.r 78), (.r 80)], .none⟩, true), (⟨(.some 69), .mv (.r 81), .none⟩, false), (⟨(.some 82), .ext (.r 69) 0, .none⟩, false), (⟨(.some 83), .ext (.r 69) 1, .none⟩, false), (⟨(.some 9), .mv (.r 82), .none⟩, false), (⟨(.some 10), .mv (.r 83), .none⟩, false)] [])
 (.seq (.dreg [(⟨(.some 84), .mv (.r 10), .none⟩, false), (⟨(.some 85), .mv (.r 84), .none⟩, false), (⟨(.some 86), .mv (.r 4), (.some (85, true))⟩, false), (⟨(.some 87), .nilck (.r 86), (.some (85, true))⟩, false), (⟨(.some 88), .fadr 2 (.r 87), (.some (85, true))⟩, false), (⟨(.some 89), .ld (.r 88), (.some (85, true))⟩, false), (⟨(.some 90), .fadr 0 (.r 8), (.some (85, true))⟩, false), (⟨(.some 91), .ld (.r 90), (.some (85, true))⟩, false), (⟨(.some 92), .call 177 [(.r 89), (.r 91)], (.some (85, true))⟩, true), (⟨(.some 93), .pick (.r 85) (.r 92) (.c (.b false)), .none⟩, false), (⟨(.some 94), .mv (.r 93), .none⟩, false), (⟨(.some 95), .mv (.r 9), (.some (94, false))⟩, false), (⟨(.some 96), .pick (.r 94) (.c (.b true)) (.r 95), .none⟩, false), (⟨(.some 9), .mv (.r 96), .none⟩, false)] [])
 (.reg [⟨(.some 97), .mv (.r 6), .none⟩, ⟨(.some 98), .mv (.r 97), .none⟩, ⟨(.some 99), .mv (.r 9), (.some (98, false))⟩, ⟨(.some 100), .pick (.r 98) (.c (.b true)) (.r 99), .none⟩, ⟨(.some 6), .mv (.r 100), .none⟩])))))
 (.reg [⟨(.some 101), .bin .add (.r 65) (.c (.i (.ofNat (nat_lit 1)))), .none⟩, ⟨(.some 65), .mv (.r 101), .none⟩])))))))))))))
 (.seq (.dreg [(⟨(.some 102), .mv (.r 4), .none⟩, false), (⟨(.some 103), .nilck (.r 102), .none⟩, false), (⟨(.some 104), .fadr 4 (.r 103), .none⟩, false), (⟨(.some 105), .ld (.r 104), .none⟩, false), (⟨(.some 106), .fadr 3 (.r 1), .none⟩, false), (⟨(.some 107), .ld (.r 106), .none⟩, false), (⟨(.some 108), .ixSl 1 (.r 105) (.r 107), .none⟩, false), (⟨(.some 109), .ld (.r 108), .none⟩, false), (⟨(.some 110), .call 177 [(.r 109), (.c (.i (.ofNat (nat_lit 0))))], .none⟩, true)] [])
 (.seq (.seq (.reg [⟨(.some 11), .mv (.c (.b true)), .none⟩])
 (.block 6 (.loop (.seq (.seq (.reg [⟨(.some 111), .mv (.r 11), .none⟩])
 (.cond (.r 111) .skip (.exit 6)))
 (.block 7 (.seq (.reg [⟨(.some 11), .mv (.c (.b false)), .none⟩])
 (.seq (.reg [⟨(.some 112), .fadr 2 (.r 1), .none⟩, ⟨(.some 113), .ld (.r 112), .none⟩, ⟨(.some 114), .lenSl (.r 113), .none⟩, ⟨(.some 115), .mv (.c (.i (.ofNat (nat_lit 0)))), .none⟩])
 (.block 8 (.loop (.seq (.reg [⟨(.some 116), .bin .lss (.r 115) (.r 114), .none⟩])
 (.seq (.cond (.r 116) .skip (.exit 8))
 (.seq (.block 9 (.seq (.reg [⟨(.some 117), .ixSl 2 (.r 113) (.r 115), .none⟩, ⟨(.some 118), .lda 2 (.r 117), .none⟩, ⟨(.some 13), .alloc 149 [(.i (.ofNat (nat_lit 0))), .nils], .none⟩, ⟨.none, .st 2 (.r 13) (.r 118), .none⟩])
 (.seq (.reg [⟨(.some 119), .mv (.r 4), .none⟩, ⟨(.some 120), .lda 2 (.r 13), .none⟩, ⟨(.some 121), .call 217 [(.r 119), (.r 120)], .none⟩, ⟨(.some 14), .mv (.r 121), .none⟩])
 (.reg [⟨(.some 122), .mv (.r 11), .none⟩, ⟨(.some 123), .mv (.r 122), .none⟩, ⟨(.some 124), .mv (.r 14), (.some (123, false))⟩, ⟨(.some 125), .pick (.r 123) (.c (.b true)) (.r 124), .none⟩, ⟨(.some 11), .mv (.r 125), .none⟩]))))
 (.reg [⟨(.some 126), .bin .add (.r 115) (.c (.i (.ofNat (nat_lit 1)))), .none⟩, ⟨(.some 115), .mv (.r 126), .none⟩])))))))))))))
 (.seq (.reg [⟨(.some 127), .mv (.r 4), .none⟩, ⟨(.some 2), .mv (.r 127), .none⟩])
 .ret))))))))), 128, [.tmp 2]⟩
theorem AxZok196 : cfOf AxZ 196 = some AxZc196 := by kernel_rfl
/- (*conch/first.Sets).Line -/
noncomputable def AxZc197 : CF := ⟨(.seq (.reg [⟨(.some 4), .mv (.c .nils), .none⟩, ⟨(.some 5), .mv (.c (.b false)), .none⟩])
 (.seq (.seq (.reg [⟨(.some 9), .mv (.r 0), .none⟩, ⟨(.some 10), .eq .ptr false (.r 9) (.c .nilp), .none⟩])
 (.cond (.r 10) (.seq (.reg [⟨(.some 4), .mv (.c .nils), .none⟩, ⟨(.some 5), .mv (.c (.b false)), .none⟩])
 .ret) .skip))
 (.seq (.reg [⟨(.some 11), .mv (.r 0), .none⟩, ⟨(.some 12), .nilck (.r 11), .none⟩, ⟨(.some 13), .fadr 0 (.r 12), .none⟩, ⟨(.some 14), .fadr 0 (.r 13), .none⟩, ⟨(.some 15), .ld (.r 14), .none⟩, ⟨(.some 16), .bin .add (.r 15) (.c (.i (.ofNat (nat_lit 1)))), .none⟩, ⟨(.some 17), .call 200 [(.r 16)], .none⟩, ⟨(.some 6), .mv (.r 17), .none⟩])
 (.seq (.reg [⟨(.some 19), .mv (.r 0), .none⟩, ⟨(.some 20), .mv (.r 6), .none⟩, ⟨(.some 21), .mv (.r 1), .none⟩, ⟨(.some 22), .call 216 [(.r 19), (.r 20), (.r 21)], .none⟩, ⟨(.some 18), .mv (.r 22), .none⟩, ⟨(.some 23), .ext (.r 18) 0, .none⟩, ⟨(.some 24), .ext (.r 18) 1, .none⟩, ⟨(.some 7), .mv (.r 23), .none⟩, ⟨(.some 8), .mv (.r 24), .none⟩])
 (.seq (.reg [⟨(.some 25), .mv (.r 6), .none⟩, ⟨(.some 26), .call 207 [(.r 25)], .none⟩, ⟨(.some 27), .mv (.r 8), .none⟩, ⟨(.some 4), .mv (.r 26), .none⟩, ⟨(.some 5), .mv (.r 27), .none⟩])
 .ret))))), 28, [.tmp 4, .tmp 5]⟩
theorem AxZok197 : cfOf AxZ 197 = some AxZc197 := by kernel_rfl
/- (*conch/look.maker).set -/
noncomputable def AxZc198 : CF := ⟨(.seq (.reg [⟨(.some 4), .mv (.c .nilp), .none⟩])
 (.seq (.reg [⟨(.some 8), .mv (.r 0), .none⟩, ⟨(.some 9), .nilck (.r 8), .none⟩, ⟨(.some 10), .fadr 0 (.r 9), .none⟩, ⟨(.some 11), .fadr 0 (.r 10), .none⟩, ⟨(.some 12), .ld (.r 11), .none⟩, ⟨(.some 13), .lenSl (.r 12), .none⟩, ⟨(.some 14), .bin .add (.r 13) (.c (.i (.ofNat (nat_lit 1)))), .none⟩, ⟨(.some 15), .call 200 [(.r 14)], .none⟩, ⟨(.some 5), .mv (.r 15), .none⟩])
 (.seq (.seq (.reg [⟨(.some 16), .mv (.r 1), .none⟩, ⟨(.some 17), .lenSl (.r 16), .none⟩, ⟨(.some 18), .mv (.c (.i (.ofNat (nat_lit 0)))), .none⟩])
 (.block 0 (.loop (.seq (.reg [⟨(.some 19), .bin .lss (.r 18) (.r 17), .none⟩])
 (.seq (.cond (.r 19) .skip (.exit 0))
 (.seq (.block 1 (.seq (.reg [⟨(.some 20), .ixSl 1 (.r 16) (.r 18), .none⟩, ⟨(.some 21), .ld (.r 20), .none⟩, ⟨(.some 7), .mv (.r 21), .none⟩])
 (.reg [⟨(.some 22), .mv (.r 5), .none⟩, ⟨(.some 23), .mv (.r 7), .none⟩, ⟨(.some 24), .call 177 [(.r 22), (.r 23)], .none⟩])))
 (.reg [⟨(.some 25), .bin .add (.r 18) (.c (.i (.ofNat (nat_lit 1)))), .none⟩, ⟨(.some 18), .mv (.r 25), .none⟩])))))))
 (.seq (.reg [⟨(.some 26), .mv (.r 5), .none⟩, ⟨(.some 4), .mv (.r 26), .none⟩])
 .ret)))), 27, [.tmp 4]⟩
theorem AxZok198 : cfOf AxZ 198 = some AxZc198 := by kernel_rfl
/- (*conch/look.maker).coming -/
noncomputable def AxZc199 : CF := ⟨(.seq (.reg [⟨(.some 4), .mv (.c .nils), .none⟩])
 (.scope (.seq (.reg [⟨(.some 14), .mkMap, .none⟩, ⟨(.some 15), .mv (.r 1), .none⟩, ⟨.none, .mupd (.leaf .int) (.r 14) (.r 15) (.c (.i (.ofNat (nat_lit 0)))), .none⟩, ⟨(.some 16), .mv (.r 14), .none⟩, ⟨(.some 5), .mv (.r 16), .none⟩])
 (.seq (.reg [⟨(.some 17), .mv (.r 1), .none⟩, ⟨(.some 18), .mv (.r 0), .none⟩, ⟨(.some 19), .call 198 [(.r 18), (.c .nils)], .none⟩, ⟨(.some 20), .build [(.i (.ofNat (nat_lit 0))), .nilp, (.b false)] [(0, 1, (.r 17)), (1, 1, (.r 19)), (2, 1, (.c (.b true)))], .none⟩, ⟨(.some 21), .bslice 313 3 1 [(.i (.ofNat (nat_lit 0))), .nilp, (.b false)] [(0, 3, (.r 20))], .none⟩, ⟨(.some 6), .mv (.r 21), .none⟩])
 (.seq (.reg [⟨(.some 22), .bslice 3 1 1 [(.i (.ofNat (nat_lit 0)))] [(0, 1, (.c (.i (.ofNat (nat_lit 0)))))], .none⟩, ⟨(.some 7), .mv (.r 22), .none⟩])
 (.seq (.label 0)
 (.seq (.seq (.reg [⟨(.some 23), .mv (.r 7), .none⟩, ⟨(.some 24), .lenSl (.r 23), .none⟩, ⟨(.some 25), .bin .eql (.r 24) (.c (.i (.ofNat (nat_lit 0)))), .none⟩])
 (.cond (.r 25) (.seq (.reg [⟨(.some 26), .mv (.r 6), .none⟩, ⟨(.some 4), .mv (.r 26), .none⟩])
 .ret) .skip))
 (.seq (.reg [⟨(.some 27), .mv (.r 6), .none⟩, ⟨(.some 28), .mv (.r 7), .none⟩, ⟨(.some 29), .ixSl 1 (.r 28) (.c (.i (.ofNat (nat_lit 0)))), .none⟩, ⟨(.some 30), .ld (.r 29), .none⟩, ⟨(.some 31), .ixSl 3 (.r 27) (.r 30), .none⟩, ⟨(.some 32), .lda 3 (.r 31), .none⟩, ⟨(.some 8), .alloc 313 [(.i (.ofNat (nat_lit 0))), .nilp, (.b false)], .none⟩, ⟨.none, .st 3 (.r 8) (.r 32), .none⟩])
 (.seq (.reg [⟨(.some 33), .mv (.r 7), .none⟩, ⟨(.some 34), .slSl 1 (.r 33) (.some (.c (.i (.ofNat (nat_lit 1))))) .none .none, .none⟩, ⟨(.some 7), .mv (.r 34), .none⟩])
 (.seq (.seq (.dreg [(⟨(.some 35), .mv (.r 0), .none⟩, false), (⟨(.some 36), .nilck (.r 35), .none⟩, false), (⟨(.some 37), .fadr 7 (.r 36), .none⟩, false), (⟨(.some 38), .ld (.r 37), .none⟩, false), (⟨(.some 39), .fadr 0 (.r 8), .none⟩, false), (⟨(.some 40), .ld (.r 39), .none⟩, false), (⟨(.some 41), .ixSl 1 (.r 38) (.r 40), .none⟩, false), (⟨(.some 42), .ld (.r 41), .none⟩, false), (⟨(.some 43), .lenSl (.r 42), .none⟩, false), (⟨(.some 44), .mv (.c (.i (.ofNat (nat_lit 0)))), .none⟩, false)] [])
 (.block 0 (.loop (.seq (.reg [⟨(.some 45), .bin .lss (.r 44) (.r 43), .none⟩])
 (.seq (.cond (.r 45) .skip (.exit 0))
 (.seq (.block 1 (.seq (.reg [⟨(.some 46), .ixSl 1 (.r 42) (.r 44), .none⟩, ⟨(.some 47), .ld (.r 46), .none⟩, ⟨(.some 10), .mv (.r 47), .none⟩])
 (.seq (.reg [⟨(.some 48), .mv (.r 0), .none⟩, ⟨(.some 49), .nilck (.r 48), .none⟩, ⟨(.some 50), .fadr 5 (.r 49), .none⟩, ⟨(.some 51), .ld (.r 50), .none⟩, ⟨(.some 52), .mv (.r 10), .none⟩, ⟨(.some 53), .ixSl 1 (.r 51) (.r 52), .none⟩, ⟨(.some 54), .ld (.r 53), .none⟩, ⟨(.some 11), .mv (.r 54), .none⟩])
 (.seq (.seq (.dreg [(⟨(.some 55), .mv (.r 11), .none⟩, false), (⟨(.some 56), .lenSl (.r 55), .none⟩, false), (⟨(.some 57), .bin .eql (.r 56) (.c (.i (.ofNat (nat_lit 0)))), .none⟩, false), (⟨(.some 58), .mv (.r 57), .none⟩, false), (⟨(.some 59), .mv (.r 0), (.some (58, false))⟩, false), (⟨(.some 60), .nilck (.r 59), (.some (58, false))⟩, false), (⟨(.some 61), .fadr 0 (.r 60), (.some (58, false))⟩, false), (⟨(.some 62), .lda 4 (.r 61), (.some (58, false))⟩, false), (⟨(.some 63), .mv (.r 11), (.some (58, false))⟩, false), (⟨(.some 64), .ixSl 1 (.r 63) (.c (.i (.ofNat (nat_lit 0)))), (.some (58, false))⟩, false), (⟨(.some 65), .ld (.r 64), (.some (58, false))⟩, false), (⟨(.some 66), .call 103 [(.r 62), (.r 65)], (.some (58, false))⟩, true), (⟨(.some 67), .un .not (.r 66), (.some (58, false))⟩, false), (⟨(.some 68), .pick (.r 58) (.c (.b true)) (.r 67), .none⟩, false)] [])
 (.cond (.r 68) (.exit 1) .skip))
 (.seq (.reg [⟨(.some 70), .mv (.r 5), .none⟩, ⟨(.some 71), .mv (.r 11), .none⟩, ⟨(.some 72), .ixSl 1 (.r 71) (.c (.i (.ofNat (nat_lit 0)))), .none⟩, ⟨(.some 73), .ld (.r 72), .none⟩, ⟨(.some 74), .lookup (.leaf .int) (.i (.ofNat (nat_lit 0))) true (.r 70) (.r 73), .none⟩, ⟨(.some 69), .mv (.r 74), .none⟩, ⟨(.some 75), .ext (.r 69) 0, .none⟩, ⟨(.some 76), .ext (.r 69) 1, .none⟩, ⟨(.some 12), .mv (.r 75), .none⟩, ⟨(.some 13), .mv (.r 76), .none⟩])
 (.seq (.seq (.reg [⟨(.some 77), .mv (.r 13), .none⟩, ⟨(.some 78), .un .not (.r 77), .none⟩])
 (.cond (.r 78) (.seq (.reg [⟨(.some 79), .mv (.r 6), .none⟩, ⟨(.some 80), .lenSl (.r 79), .none⟩, ⟨(.some 12), .mv (.r 80), .none⟩])
 (.seq (.reg [⟨(.some 81), .mv (.r 5), .none⟩, ⟨(.some 82), .mv (.r 11), .none⟩, ⟨(.some 83), .ixSl 1 (.r 82) (.c (.i (.ofNat (nat_lit 0)))), .none⟩, ⟨(.some 84), .ld (.r 83), .none⟩, ⟨(.some 85), .mv (.r 12), .none⟩, ⟨.none, .mupd (.leaf .int) (.r 81) (.r 84) (.r 85), .none⟩])
 (.dreg [(⟨(.some 86), .mv (.r 6), .none⟩, false), (⟨(.some 87), .mv (.r 11), .none⟩, false), (⟨(.some 88), .ixSl 1 (.r 87) (.c (.i (.ofNat (nat_lit 0)))), .none⟩, false), (⟨(.some 89), .ld (.r 88), .none⟩, false), (⟨(.some 90), .mv (.r 0), .none⟩, false), (⟨(.some 91), .call 198 [(.r 90), (.c .nils)], .none⟩, true), (⟨(.some 92), .build [(.i (.ofNat (nat_lit 0))), .nilp, (.b false)] [(0, 1, (.r 89)), (1, 1, (.r 91)), (2, 1, (.c (.b false)))], .none⟩, false), (⟨(.some 93), .bslice 313 3 1 [(.i (.ofNat (nat_lit 0))), .nilp, (.b false)] [(0, 3, (.r 92))], .none⟩, true), (⟨(.some 94), .app 313 3 (.r 86) (.r 93), .none⟩, true), (⟨(.some 6), .mv (.r 94), .none⟩, false)] [(⟨(.some 89), .ld (.r 88), .none⟩, 0, 2)]))) .skip))
 (.seq (.dreg [(⟨(.some 95), .mv (.r 0), .none⟩, false), (⟨(.some 96), .lda 3 (.r 8), .none⟩, false), (⟨(.some 97), .mv (.r 6), .none⟩, false), (⟨(.some 98), .mv (.r 12), .none⟩, false), (⟨(.some 99), .ixSl 3 (.r 97) (.r 98), .none⟩, false), (⟨(.some 100), .mv (.r 0), .none⟩, false), (⟨(.some 101), .nilck (.r 100), .none⟩, false), (⟨(.some 102), .fadr 6 (.r 101), .none⟩, false), (⟨(.some 103), .ld (.r 102), .none⟩, false), (⟨(.some 104), .mv (.r 10), .none⟩, false), (⟨(.some 105), .ixSl 1 (.r 103) (.r 104), .none⟩, false), (⟨(.some 106), .ld (.r 105), .none⟩, false), (⟨(.some 107), .ixSl 2 (.r 106) (.c (.i (.ofNat (nat_lit 0)))), .none⟩, false), (⟨(.some 108), .lda 2 (.r 107), .none⟩, false), (⟨(.some 109), .call 218 [(.r 95), (.r 96), (.r 99), (.r 108)], .none⟩, true), (⟨(.some 110), .mv (.r 109), .none⟩, false), (⟨(.some 111), .mv (.r 13), (.some (110, false))⟩, false), (⟨(.some 112), .un .not (.r 111), (.some (110, false))⟩, false), (⟨(.some 113), .pick (.r 110) (.c (.b true)) (.r 112), .none⟩, false)] [])
 (.cond (.r 113) (.reg [⟨(.some 114), .mv (.r 7), .none⟩, ⟨(.some 115), .mv (.r 12), .none⟩, ⟨(.some 116), .bslice 3 1 1 [(.i (.ofNat (nat_lit 0)))] [(0, 1, (.r 115))], .none⟩, ⟨(.some 117), .app 3 1 (.r 114) (.r 116), .none⟩, ⟨(.some 7), .mv (.r 117), .none⟩]) .skip))))))))
 (.reg [⟨(.some 118), .bin .add (.r 44) (.c (.i (.ofNat (nat_lit 1)))), .none⟩, ⟨(.some 44), .mv (.r 118), .none⟩])))))))
 (.goto 0))))))))))), 119, [.tmp 4]⟩
theorem AxZok199 : cfOf AxZ 199 = some AxZc199 := by kernel_rfl
/- conch/bits.New -/
noncomputable def AxZc200 : CF := ⟨(.seq (.reg [⟨(.some 2), .mv (.c .nilp), .none⟩])
 (.seq (.reg [⟨(.some 3), .mv (.r 0), .none⟩, ⟨(.some 4), .max (.r 3) (.c (.i (.ofNat (nat_lit 0)))), .none⟩, ⟨(.some 5), .min (.r 4) (.c (.i (.ofNat (nat_lit 4096)))), .none⟩, ⟨(.some 0), .mv (.r 5), .none⟩])
 (.seq (.reg [⟨(.some 6), .mv (.r 0), .none⟩, ⟨(.some 7), .mv (.r 0), .none⟩, ⟨(.some 8), .bin .add (.r 7) (.c (.i (.ofNat (nat_lit 63)))), .none⟩, ⟨(.some 9), .bin .shr (.r 8) (.c (.u .u64 (.ofNat (nat_lit 6)))), .none⟩, ⟨(.some 10), .mkSl 222 1 [(.u .u64 (.ofNat (nat_lit 0)))] (.r 9) (.r 9), .none⟩, ⟨(.some 11), .build [(.i (.ofNat (nat_lit 0))), .nils] [(0, 1, (.r 6)), (1, 1, (.r 10))], .none⟩, ⟨(.some 12), .box 307 (.r 11), .none⟩, ⟨(.some 2), .mv (.r 12), .none⟩])
 .ret))), 13, [.tmp 2]⟩
theorem AxZok200 : cfOf AxZ 200 = some AxZc200 := by kernel_rfl
/- (*conch/bits.Set).bit -/
noncomputable def AxZc201 : CF := ⟨(.seq (.reg [⟨(.some 4), .mv (.c (.i (.ofNat (nat_lit 0)))), .none⟩, ⟨(.some 5), .mv (.c (.u .u64 (.ofNat (nat_lit 0)))), .none⟩, ⟨(.some 6), .mv (.c (.b false)), .none⟩])
 (.seq (.seq (.reg [⟨(.some 7), .mv (.r 1), .none⟩, ⟨(.some 8), .bin .lss (.r 7) (.c (.i (.ofNat (nat_lit 0)))), .none⟩, ⟨(.some 9), .mv (.r 8), .none⟩, ⟨(.some 10), .mv (.r 1), (.some (9, false))⟩, ⟨(.some 11), .mv (.r 0), (.some (9, false))⟩, ⟨(.some 12), .call 219 [(.r 11)], (.some (9, false))⟩, ⟨(.some 13), .bin .geq (.r 10) (.r 12), (.some (9, false))⟩, ⟨(.some 14), .pick (.r 9) (.c (.b true)) (.r 13), .none⟩])
 (.cond (.r 14) (.seq (.reg [⟨(.some 4), .mv (.c (.i (.ofNat (nat_lit 0)))), .none⟩, ⟨(.some 5), .mv (.c (.u .u64 (.ofNat (nat_lit 0)))), .none⟩, ⟨(.some 6), .mv (.c (.b false)), .none⟩])
 .ret) .skip))
 (.seq (.reg [⟨(.some 15), .mv (.r 1), .none⟩, ⟨(.some 16), .bin .shr (.r 15) (.c (.u .u64 (.ofNat (nat_lit 6)))), .none⟩, ⟨(.some 17), .mv (.r 1), .none⟩, ⟨(.some 18), .bin .and (.r 17) (.c (.i (.ofNat (nat_lit 63)))), .none⟩, ⟨(.some 19), .cvInt .u64 (.r 18), .none⟩, ⟨(.some 20), .bin .shl (.c (.u .u64 (.ofNat (nat_lit 1)))) (.r 19), .none⟩, ⟨(.some 4), .mv (.r 16), .none⟩, ⟨(.some 5), .mv (.r 20), .none⟩, ⟨(.some 6), .mv (.c (.b true)), .none⟩])
 .ret))), 21, [.tmp 4, .tmp 5, .tmp 6]⟩
theorem AxZok201 : cfOf AxZ 201 = some AxZc201 := by kernel_rfl
/- (*conch/look.maker).to -/
noncomputable def AxZc202 : CF := ⟨(.seq (.reg [⟨(.some 5), .box 259 (.r 2), .none⟩, ⟨(.some 6), .mv (.c (.i (.ofNat (nat_lit 0)))), .none⟩])
 (.seq (.dreg [(⟨(.some 8), .mv (.r 0), .none⟩, false), (⟨(.some 9), .nilck (.r 8), .none⟩, false), (⟨(.some 10), .fadr 5 (.r 9), .none⟩, false), (⟨(.some 11), .ld (.r 10), .none⟩, false), (⟨(.some 12), .fadr 0 (.r 5), .none⟩, false), (⟨(.some 13), .ld (.r 12), .none⟩, false), (⟨(.some 14), .ixSl 1 (.r 11) (.r 13), .none⟩, false), (⟨(.some 15), .ld (.r 14), .none⟩, false), (⟨(.some 16), .fadr 1 (.r 5), .none⟩, false), (⟨(.some 17), .ld (.r 16), .none⟩, false), (⟨(.some 18), .ixSl 1 (.r 15) (.r 17), .none⟩, false), (⟨(.some 19), .ld (.r 18), .none⟩, false), (⟨(.some 7), .mv (.r 19), .none⟩, false)] [])
 (.seq (.dreg [(⟨(.some 20), .mv (.r 0), .none⟩, false), (⟨(.some 21), .mv (.r 0), .none⟩, false), (⟨(.some 22), .nilck (.r 21), .none⟩, false), (⟨(.some 23), .fadr 4 (.r 22), .none⟩, false), (⟨(.some 24), .ld (.r 23), .none⟩, false), (⟨(.some 25), .mv (.r 1), .none⟩, false), (⟨(.some 26), .mv (.r 7), .none⟩, false), (⟨(.some 27), .call 83 [(.r 24), (.r 25), (.r 26)], .none⟩, true), (⟨(.some 28), .fadr 0 (.r 5), .none⟩, false), (⟨(.some 29), .ld (.r 28), .none⟩, false), (⟨(.some 30), .fadr 1 (.r 5), .none⟩, false), (⟨(.some 31), .ld (.r 30), .none⟩, false), (⟨(.some 32), .bin .add (.r 31) (.c (.i (.ofNat (nat_lit 1)))), .none⟩, false), (⟨(.some 33), .build [(.i (.ofNat (nat_lit 0))), (.i (.ofNat (nat_lit 0)))] [(0, 1, (.r 29)), (1, 1, (.r 32))], .none⟩, false), (⟨(.some 34), .call 220 [(.r 20), (.r 27), (.r 33)], .none⟩, true), (⟨(.some 6), .mv (.r 34), .none⟩, false)] [(⟨(.some 29), .ld (.r 28), .none⟩, 0, 2), (⟨(.some 31), .ld (.r 30), .none⟩, 0, 2)])
 .ret))), 35, [.tmp 6]⟩
theorem AxZok202 : cfOf AxZ 202 = some AxZc202 := by kernel_rfl
/- (*conch/bits.Set).Next -/
noncomputable def AxZc203 : CF := ⟨(.seq (.reg [⟨(.some 4), .mv (.c (.i (.ofNat (nat_lit 0)))), .none⟩])
 (.seq (.seq (.reg [⟨(.some 7), .mv (.r 1), .none⟩, ⟨(.some 8), .max (.r 7) (.c (.i (.ofNat (nat_lit 0)))), .none⟩, ⟨(.some 5), .mv (.r 8), .none⟩])
 (.block 0 (.loop (.seq (.seq (.reg [⟨(.some 9), .mv (.r 5), .none⟩, ⟨(.some 10), .mv (.r 0), .none⟩, ⟨(.some 11), .call 219 [(.r 10)], .none⟩, ⟨(.some 12), .bin .lss (.r 9) (.r 11), .none⟩])
 (.cond (.r 12) .skip (.exit 0)))
 (.seq (.block 1 (.seq (.reg [⟨(.some 15), .mv (.r 0), .none⟩, ⟨(.some 16), .nilck (.r 15), .none⟩, ⟨(.some 17), .fadr 1 (.r 16), .none⟩, ⟨(.some 18), .ld (.r 17), .none⟩, ⟨(.some 19), .mv (.r 5), .none⟩, ⟨(.some 20), .bin .shr (.r 19) (.c (.u .u64 (.ofNat (nat_lit 6)))), .none⟩, ⟨(.some 21), .ixSl 1 (.r 18) (.r 20), .none⟩, ⟨(.some 22), .ld (.r 21), .none⟩, ⟨(.some 23), .mv (.r 5), .none⟩, ⟨(.some 24), .bin .and (.r 23) (.c (.i (.ofNat (nat_lit 63)))), .none⟩, ⟨(.some 25), .cvInt .u64 (.r 24), .none⟩, ⟨(.some 26), .bin .shr (.r 22) (.r 25), .none⟩, ⟨(.some 6), .mv (.r 26), .none⟩])
 (.seq (.seq (.reg [⟨(.some 27), .mv (.r 6), .none⟩, ⟨(.some 28), .bin .eql (.r 27) (.c (.u .u64 (.ofNat (nat_lit 0)))), .none⟩])
 (.cond (.r 28) (.seq (.reg [⟨(.some 29), .mv (.r 5), .none⟩, ⟨(.some 30), .bin .or (.r 29) (.c (.i (.ofNat (nat_lit 63)))), .none⟩, ⟨(.some 5), .mv (.r 30), .none⟩])
 (.exit 1)) .skip))
 (.seq (.block 2 (.loop (.seq (.seq (.reg [⟨(.some 31), .mv (.r 6), .none⟩, ⟨(.some 32), .bin .and (.r 31) (.c (.u .u64 (.ofNat (nat_lit 1)))), .none⟩, ⟨(.some 33), .bin .eql (.r 32) (.c (.u .u64 (.ofNat (nat_lit 0)))), .none⟩])
 (.cond (.r 33) .skip (.exit 2)))
 (.seq (.block 3 (.reg [⟨(.some 36), .mv (.r 5), .none⟩, ⟨(.some 37), .bin .add (.r 36) (.c (.i (.ofNat (nat_lit 1)))), .none⟩, ⟨(.some 5), .mv (.r 37), .none⟩]))
 (.reg [⟨(.some 34), .mv (.r 6), .none⟩, ⟨(.some 35), .bin .shr (.r 34) (.c (.u .u64 (.ofNat (nat_lit 1)))), .none⟩, ⟨(.some 6), .mv (.r 35), .none⟩])))))
 (.seq (.reg [⟨(.some 38), .mv (.r 5), .none⟩, ⟨(.some 4), .mv (.r 38), .none⟩])
 .ret)))))
 (.reg [⟨(.some 13), .mv (.r 5), .none⟩, ⟨(.some 14), .bin .add (.r 13) (.c (.i (.ofNat (nat_lit 1)))), .none⟩, ⟨(.some 5), .mv (.r 14), .none⟩]))))))
 (.seq (.reg [⟨(.some 4), .mv (.c (.i (.negSucc (nat_lit 0)))), .none⟩])
 .ret))), 39, [.tmp 4]⟩
theorem AxZok203 : cfOf AxZ 203 = some AxZc203 := by kernel_rfl
/- (*conch/bits.Set).Twin -/
noncomputable def AxZc204 : CF := ⟨(.seq (.reg [⟨(.some 2), .mv (.c .nilp), .none⟩])
 (.seq (.seq (.reg [⟨(.some 4), .mv (.r 0), .none⟩, ⟨(.some 5), .eq .ptr false (.r 4) (.c .nilp), .none⟩])
 (.cond (.r 5) (.seq (.reg [⟨(.some 2), .mv (.c .nilp), .none⟩])
 .ret) .skip))
 (.seq (.reg [⟨(.some 6), .mv (.r 0), .none⟩, ⟨(.some 7), .nilck (.r 6), .none⟩, ⟨(.some 8), .fadr 1 (.r 7), .none⟩, ⟨(.some 9), .ld (.r 8), .none⟩, ⟨(.some 10), .lenSl (.r 9), .none⟩, ⟨(.some 11), .mkSl 222 1 [(.u .u64 (.ofNat (nat_lit 0)))] (.r 10) (.r 10), .none⟩, ⟨(.some 3), .mv (.r 11), .none⟩])
 (.seq (.reg [⟨(.some 12), .mv (.r 3), .none⟩, ⟨(.some 13), .mv (.r 0), .none⟩, ⟨(.some 14), .nilck (.r 13), .none⟩, ⟨(.some 15), .fadr 1 (.r 14), .none⟩, ⟨(.some 16), .ld (.r 15), .none⟩, ⟨(.some 17), .copy 1 (.r 12) (.r 16), .none⟩])
 (.seq (.reg [⟨(.some 18), .mv (.r 0), .none⟩, ⟨(.some 19), .nilck (.r 18), .none⟩, ⟨(.some 20), .fadr 0 (.r 19), .none⟩, ⟨(.some 21), .ld (.r 20), .none⟩, ⟨(.some 22), .mv (.r 3), .none⟩, ⟨(.some 23), .build [(.i (.ofNat (nat_lit 0))), .nils] [(0, 1, (.r 21)), (1, 1, (.r 22))], .none⟩, ⟨(.some 24), .box 307 (.r 23), .none⟩, ⟨(.some 2), .mv (.r 24), .none⟩])
 .ret))))), 25, [.tmp 2]⟩
theorem AxZok204 : cfOf AxZ 204 = some AxZc204 := by kernel_rfl
/- (*conch/bits.Set).Or -/
noncomputable def AxZc205 : CF := ⟨(.seq (.reg [⟨(.some 4), .mv (.c (.b false)), .none⟩])
 (.seq (.reg [⟨(.some 5), .mv (.c (.b false)), .none⟩])
 (.seq (.seq (.reg [⟨(.some 8), .mv (.r 1), .none⟩, ⟨(.some 9), .mv (.r 0), .none⟩, ⟨(.some 10), .call 219 [(.r 9)], .none⟩, ⟨(.some 11), .call 221 [(.r 8), (.r 10)], .none⟩, ⟨(.some 12), .lenSl (.r 11), .none⟩, ⟨(.some 13), .mv (.c (.i (.ofNat (nat_lit 0)))), .none⟩])
 (.block 0 (.loop (.seq (.reg [⟨(.some 14), .bin .lss (.r 13) (.r 12), .none⟩])
 (.seq (.cond (.r 14) .skip (.exit 0))
 (.seq (.block 1 (.seq (.reg [⟨(.some 15), .mv (.r 13), .none⟩, ⟨(.some 16), .ixSl 1 (.r 11) (.r 13), .none⟩, ⟨(.some 17), .ld (.r 16), .none⟩, ⟨(.some 6), .mv (.r 15), .none⟩, ⟨(.some 7), .mv (.r 17), .none⟩])
 (.seq (.reg [⟨(.some 18), .mv (.r 7), .none⟩, ⟨(.some 19), .mv (.r 0), .none⟩, ⟨(.some 20), .nilck (.r 19), .none⟩, ⟨(.some 21), .fadr 1 (.r 20), .none⟩, ⟨(.some 22), .ld (.r 21), .none⟩, ⟨(.some 23), .mv (.r 6), .none⟩, ⟨(.some 24), .ixSl 1 (.r 22) (.r 23), .none⟩, ⟨(.some 25), .ld (.r 24), .none⟩, ⟨(.some 26), .bin .andNot (.r 18) (.r 25), .none⟩, ⟨(.some 27), .bin .neq (.r 26) (.c (.u .u64 (.ofNat (nat_lit 0)))), .none⟩])
 (.cond (.r 27) (.seq (.reg [⟨(.some 28), .mv (.r 0), .none⟩, ⟨(.some 29), .nilck (.r 28), .none⟩, ⟨(.some 30), .fadr 1 (.r 29), .none⟩, ⟨(.some 31), .ld (.r 30), .none⟩, ⟨(.some 32), .mv (.r 6), .none⟩, ⟨(.some 33), .ixSl 1 (.r 31) (.r 32), .none⟩, ⟨(.some 34), .ld (.r 33), .none⟩, ⟨(.some 35), .mv (.r 7), .none⟩, ⟨(.some 36), .bin .or (.r 34) (.r 35), .none⟩, ⟨(.some 37), .ixSl 1 (.r 31) (.r 32), .none⟩, ⟨.none, .st 1 (.r 37) (.r 36), .none⟩])
 (.reg [⟨(.some 5), .mv (.c (.b true)), .none⟩])) .skip))))
 (.reg [⟨(.some 38), .bin .add (.r 13) (.c (.i (.ofNat (nat_lit 1)))), .none⟩, ⟨(.some 13), .mv (.r 38), .none⟩])))))))
 (.seq (.reg [⟨(.some 39), .mv (.r 5), .none⟩, ⟨(.some 4), .mv (.r 39), .none⟩])
 .ret)))), 40, [.tmp 4]⟩
theorem AxZok205 : cfOf AxZ 205 = some AxZc205 := by kernel_rfl
/- (*conch/look.maker).end -/
noncomputable def AxZc206 : CF := ⟨(.seq (.reg [⟨(.some 6), .mv (.c (.i (.ofNat (nat_lit 0)))), .none⟩])
 (.seq (.seq (.reg [⟨(.some 10), .mv (.r 0), .none⟩, ⟨(.some 11), .nilck (.r 10), .none⟩, ⟨(.some 12), .fadr 12 (.r 11), .none⟩, ⟨(.some 13), .ld (.r 12), .none⟩, ⟨(.some 14), .mv (.r 1), .none⟩, ⟨(.some 15), .ixSl 1 (.r 13) (.r 14), .none⟩, ⟨(.some 16), .ld (.r 15), .none⟩, ⟨(.some 17), .lenSl (.r 16), .none⟩, ⟨(.some 18), .mv (.c (.i (.ofNat (nat_lit 0)))), .none⟩])
 (.block 0 (.loop (.seq (.reg [⟨(.some 19), .bin .lss (.r 18) (.r 17), .none⟩])
 (.seq (.cond (.r 19) .skip (.exit 0))
 (.seq (.block 1 (.seq (.reg [⟨(.some 20), .ixSl 2 (.r 16) (.r 18), .none⟩, ⟨(.some 21), .lda 2 (.r 20), .none⟩, ⟨(.some 8), .alloc 319 [(.i (.ofNat (nat_lit 0))), (.i (.ofNat (nat_lit 0)))], .none⟩, ⟨.none, .st 2 (.r 8) (.r 21), .none⟩])
 (.seq (.reg [⟨(.some 22), .fadr 0 (.r 8), .none⟩, ⟨(.some 23), .ld (.r 22), .none⟩, ⟨(.some 24), .mv (.r 2), .none⟩, ⟨(.some 25), .bin .eql (.r 23) (.r 24), .none⟩])
 (.cond (.r 25) (.seq (.reg [⟨(.some 26), .fadr 1 (.r 8), .none⟩, ⟨(.some 27), .ld (.r 26), .none⟩, ⟨(.some 6), .mv (.r 27), .none⟩])
 .ret) .skip))))
 (.reg [⟨(.some 28), .bin .add (.r 18) (.c (.i (.ofNat (nat_lit 1)))), .none⟩, ⟨(.some 18), .mv (.r 28), .none⟩])))))))
 (.seq (.reg [⟨(.some 29), .mv (.r 0), .none⟩, ⟨(.some 30), .call 176 [(.r 29)], .none⟩, ⟨(.some 9), .mv (.r 30), .none⟩])
 (.seq (.dreg [(⟨(.some 31), .mv (.r 0), .none⟩, false), (⟨(.some 32), .nilck (.r 31), .none⟩, false), (⟨(.some 33), .fadr 12 (.r 32), .none⟩, false), (⟨(.some 34), .ld (.r 33), .none⟩, false), (⟨(.some 35), .mv (.r 1), .none⟩, false), (⟨(.some 36), .mv (.r 0), .none⟩, false), (⟨(.some 37), .nilck (.r 36), .none⟩, false), (⟨(.some 38), .fadr 12 (.r 37), .none⟩, false), (⟨(.some 39), .ld (.r 38), .none⟩, false), (⟨(.some 40), .mv (.r 1), .none⟩, false), (⟨(.some 41), .ixSl 1 (.r 39) (.r 40), .none⟩, false), (⟨(.some 42), .ld (.r 41), .none⟩, false), (⟨(.some 43), .mv (.r 2), .none⟩, false), (⟨(.some 44), .mv (.r 9), .none⟩, false), (⟨(.some 45), .build [(.i (.ofNat (nat_lit 0))), (.i (.ofNat (nat_lit 0)))] [(0, 1, (.r 43)), (1, 1, (.r 44))], .none⟩, false), (⟨(.some 46), .bslice 319 2 1 [(.i (.ofNat (nat_lit 0))), (.i (.ofNat (nat_lit 0)))] [(0, 2, (.r 45))], .none⟩, true), (⟨(.some 47), .app 319 2 (.r 42) (.r 46), .none⟩, true), (⟨(.some 48), .ixSl 1 (.r 34) (.r 35), .none⟩, false), (⟨.none, .st 1 (.r 48) (.r 47), .none⟩, true)] [(⟨(.some 34), .ld (.r 33), .none⟩, 0, 3), (⟨(.some 39), .ld (.r 38), .none⟩, 0, 2), (⟨(.some 42), .ld (.r 41), .none⟩, 0, 2)])
 (.seq (.reg [⟨(.some 49), .mv (.r 9), .none⟩, ⟨(.some 6), .mv (.r 49), .none⟩])
 .ret))))), 50, [.tmp 6]⟩
theorem AxZok206 : cfOf AxZ 206 = some AxZc206 := by kernel_rfl
/- (*conch/bits.Set).List -/
noncomputable def AxZc207 : CF := ⟨(.seq (.reg [⟨(.some 2), .mv (.c .nils), .none⟩])
 (.seq (.reg [⟨(.some 3), .mv (.c .nils), .none⟩])
 (.seq (.seq (.reg [⟨(.some 5), .mv (.r 0), .none⟩, ⟨(.some 6), .call 203 [(.r 5), (.c (.i (.ofNat (nat_lit 0))))], .none⟩, ⟨(.some 4), .mv (.r 6), .none⟩])
 (.block 0 (.loop (.seq (.seq (.reg [⟨(.some 7), .mv (.r 4), .none⟩, ⟨(.some 8), .bin .geq (.r 7) (.c (.i (.ofNat (nat_lit 0)))), .none⟩])
 (.cond (.r 8) .skip (.exit 0)))
 (.seq (.block 1 (.reg [⟨(.some 13), .mv (.r 3), .none⟩, ⟨(.some 14), .mv (.r 4), .none⟩, ⟨(.some 15), .bslice 3 1 1 [(.i (.ofNat (nat_lit 0)))] [(0, 1, (.r 14))], .none⟩, ⟨(.some 16), .app 3 1 (.r 13) (.r 15), .none⟩, ⟨(.some 3), .mv (.r 16), .none⟩]))
 (.reg [⟨(.some 9), .mv (.r 0), .none⟩, ⟨(.some 10), .mv (.r 4), .none⟩, ⟨(.some 11), .bin .add (.r 10) (.c (.i (.ofNat (nat_lit 1)))), .none⟩, ⟨(.some 12), .call 203 [(.r 9), (.r 11)], .none⟩, ⟨(.some 4), .mv (.r 12), .none⟩]))))))
 (.seq (.reg [⟨(.some 17), .mv (.r 3), .none⟩, ⟨(.some 2), .mv (.r 17), .none⟩])
 .ret)))), 18, [.tmp 2]⟩
theorem AxZok207 : cfOf AxZ 207 = some AxZc207 := by kernel_rfl
/- slices.pdqsortCmpFunc[conch/api.Item] -/
noncomputable def AxZc208 : CF := ⟨(.seq (.reg [⟨(.some 10), .mv (.c (.b true)), .none⟩])
 (.seq (.reg [⟨(.some 11), .mv (.c (.b true)), .none⟩])
 (.block 0 (.loop (.block 1 (.seq (.reg [⟨(.some 21), .mv (.r 2), .none⟩, ⟨(.some 22), .mv (.r 1), .none⟩, ⟨(.some 23), .bin .sub (.r 21) (.r 22), .none⟩, ⟨(.some 12), .mv (.r 23), .none⟩])
 (.seq (.seq (.reg [⟨(.some 24), .mv (.r 12), .none⟩, ⟨(.some 25), .bin .leq (.r 24) (.c (.i (.ofNat (nat_lit 12)))), .none⟩])
 (.cond (.r 25) (.seq (.reg [⟨(.some 26), .mv (.r 0), .none⟩, ⟨(.some 27), .mv (.r 1), .none⟩, ⟨(.some 28), .mv (.r 2), .none⟩, ⟨(.some 29), .mv (.r 4), .none⟩, ⟨(.some 30), .call 222 [(.r 26), (.r 27), (.r 28), (.r 29)], .none⟩])
 .ret) .skip))
 (.seq (.seq (.reg [⟨(.some 31), .mv (.r 3), .none⟩, ⟨(.some 32), .bin .eql (.r 31) (.c (.i (.ofNat (nat_lit 0)))), .none⟩])
 (.cond (.r 32) (.seq (.reg [⟨(.some 33), .mv (.r 0), .none⟩, ⟨(.some 34), .mv (.r 1), .none⟩, ⟨(.some 35), .mv (.r 2), .none⟩, ⟨(.some 36), .mv (.r 4), .none⟩, ⟨(.some 37), .call 223 [(.r 33), (.r 34), (.r 35), (.r 36)], .none⟩])
 .ret) .skip))
 (.seq (.seq (.reg [⟨(.some 38), .mv (.r 10), .none⟩, ⟨(.some 39), .un .not (.r 38), .none⟩])
 (.cond (.r 39) (.seq (.reg [⟨(.some 40), .mv (.r 0), .none⟩, ⟨(.some 41), .mv (.r 1), .none⟩, ⟨(.some 42), .mv (.r 2), .none⟩, ⟨(.some 43), .mv (.r 4), .none⟩, ⟨(.some 44), .call 224 [(.r 40), (.r 41), (.r 42), (.r 43)], .none⟩])
 (.reg [⟨(.some 45), .mv (.r 3), .none⟩, ⟨(.some 46), .bin .sub (.r 45) (.c (.i (.ofNat (nat_lit 1)))), .none⟩, ⟨(.some 3), .mv (.r 46), .none⟩])) .skip))
 (.seq (.reg [⟨(.some 48), .mv (.r 0), .none⟩, ⟨(.some 49), .mv (.r 1), .none⟩, ⟨(.some 50), .mv (.r 2), .none⟩, ⟨(.some 51), .mv (.r 4), .none⟩, ⟨(.some 52), .call 225 [(.r 48), (.r 49), (.r 50), (.r 51)], .none⟩, ⟨(.some 47), .mv (.r 52), .none⟩, ⟨(.some 53), .ext (.r 47) 0, .none⟩, ⟨(.some 54), .ext (.r 47) 1, .none⟩, ⟨(.some 13), .mv (.r 53), .none⟩, ⟨(.some 14), .mv (.r 54), .none⟩])
 (.seq (.seq (.reg [⟨(.some 55), .mv (.r 14), .none⟩, ⟨(.some 56), .bin .eql (.r 55) (.c (.i (.ofNat (nat_lit 2)))), .none⟩])
 (.cond (.r 56) (.seq (.reg [⟨(.some 57), .mv (.r 0), .none⟩, ⟨(.some 58), .mv (.r 1), .none⟩, ⟨(.some 59), .mv (.r 2), .none⟩, ⟨(.some 60), .mv (.r 4), .none⟩, ⟨(.some 61), .call 226 [(.r 57), (.r 58), (.r 59), (.r 60)], .none⟩])
 (.seq (.reg [⟨(.some 62), .mv (.r 2), .none⟩, ⟨(.some 63), .bin .sub (.r 62) (.c (.i (.ofNat (nat_lit 1)))), .none⟩, ⟨(.some 64), .mv (.r 13), .none⟩, ⟨(.some 65), .mv (.r 1), .none⟩, ⟨(.some 66), .bin .sub (.r 64) (.r 65), .none⟩, ⟨(.some 67), .bin .sub (.r 63) (.r 66), .none⟩, ⟨(.some 13), .mv (.r 67), .none⟩])
 (.reg [⟨(.some 14), .mv (.c (.i (.ofNat (nat_lit 1)))), .none⟩]))) .skip))
 (.seq (.seq (.reg [⟨(.some 68), .mv (.r 10), .none⟩, ⟨(.some 69), .mv (.r 68), .none⟩, ⟨(.some 70), .mv (.r 11), (.some (69, true))⟩, ⟨(.some 71), .pick (.r 69) (.r 70) (.c (.b false)), .none⟩, ⟨(.some 72), .mv (.r 71), .none⟩, ⟨(.some 73), .mv (.r 14), (.some (72, true))⟩, ⟨(.some 74), .bin .eql (.r 73) (.c (.i (.ofNat (nat_lit 1)))), (.some (72, true))⟩, ⟨(.some 75), .pick (.r 72) (.r 74) (.c (.b false)), .none⟩])
 (.cond (.r 75) (.seq (.reg [⟨(.some 76), .mv (.r 0), .none⟩, ⟨(.some 77), .mv (.r 1), .none⟩, ⟨(.some 78), .mv (.r 2), .none⟩, ⟨(.some 79), .mv (.r 4), .none⟩, ⟨(.some 80), .call 227 [(.r 76), (.r 77), (.r 78), (.r 79)], .none⟩])
 (.cond (.r 80) .ret .skip)) .skip))
 (.seq (.seq (.dreg [(⟨(.some 81), .mv (.r 1), .none⟩, false), (⟨(.some 82), .bin .gtr (.r 81) (.c (.i (.ofNat (nat_lit 0)))), .none⟩, false), (⟨(.some 83), .mv (.r 82), .none⟩, false), (⟨(.some 84), .mv (.r 4), (.some (83, true))⟩, false), (⟨(.some 85), .mv (.r 0), (.some (83, true))⟩, false), (⟨(.some 86), .mv (.r 1), (.some (83, true))⟩, false), (⟨(.some 87), .bin .sub (.r 86) (.c (.i (.ofNat (nat_lit 1)))), (.some (83, true))⟩, false), (⟨(.some 88), .ixSl 2 (.r 85) (.r 87), (.some (83, true))⟩, false), (⟨(.some 89), .lda 2 (.r 88), (.some (83, true))⟩, false), (⟨(.some 90), .mv (.r 0), (.some (83, true))⟩, false), (⟨(.some 91), .mv (.r 13), (.some (83, true))⟩, false), (⟨(.some 92), .ixSl 2 (.r 90) (.r 91), (.some (83, true))⟩, false), (⟨(.some 93), .lda 2 (.r 92), (.some (83, true))⟩, false), (⟨(.some 94), .callv (.r 84) [(.r 89), (.r 93)], (.some (83, true))⟩, true), (⟨(.some 95), .bin .lss (.r 94) (.c (.i (.ofNat (nat_lit 0)))), (.some (83, true))⟩, false), (⟨(.some 96), .un .not (.r 95), (.some (83, true))⟩, false), (⟨(.some 97), .pick (.r 83) (.r 96) (.c (.b false)), .none⟩, false)] [])
 (.cond (.r 97) (.seq (.reg [⟨(.some 98), .mv (.r 0), .none⟩, ⟨(.some 99), .mv (.r 1), .none⟩, ⟨(.some 100), .mv (.r 2), .none⟩, ⟨(.some 101), .mv (.r 13), .none⟩, ⟨(.some 102), .mv (.r 4), .none⟩, ⟨(.some 103), .call 228 [(.r 98), (.r 99), (.r 100), (.r 101), (.r 102)], .none⟩, ⟨(.some 15), .mv (.r 103), .none⟩])
 (.seq (.reg [⟨(.some 104), .mv (.r 15), .none⟩, ⟨(.some 1), .mv (.r 104), .none⟩])
 (.exit 1))) .skip))
 (.seq (.reg [⟨(.some 106), .mv (.r 0), .none⟩, ⟨(.some 107), .mv (.r 1), .none⟩, ⟨(.some 108), .mv (.r 2), .none⟩, ⟨(.some 109), .mv (.r 13), .none⟩, ⟨(.some 110), .mv (.r 4), .none⟩, ⟨(.some 111), .call 229 [(.r 106), (.r 107), (.r 108), (.r 109), (.r 110)], .none⟩, ⟨(.some 105), .mv (.r 111), .none⟩, ⟨(.some 112), .ext (.r 105) 0, .none⟩, ⟨(.some 113), .ext (.r 105) 1, .none⟩, ⟨(.some 16), .mv (.r 112), .none⟩, ⟨(.some 17), .mv (.r 113), .none⟩])
 (.seq (.reg [⟨(.some 114), .mv (.r 17), .none⟩, ⟨(.some 11), .mv (.r 114), .none⟩])
 (.seq (.reg [⟨(.some 115), .mv (.r 16), .none⟩, ⟨(.some 116), .mv (.r 1), .none⟩, ⟨(.some 117), .bin .sub (.r 115) (.r 116), .none⟩, ⟨(.some 118), .mv (.r 2), .none⟩, ⟨(.some 119), .mv (.r 16), .none⟩, ⟨(.some 120), .bin .sub (.r 118) (.r 119), .none⟩, ⟨(.some 18), .mv (.r 117), .none⟩, ⟨(.some 19), .mv (.r 120), .none⟩])
 (.seq (.reg [⟨(.some 121), .mv (.r 12), .none⟩, ⟨(.some 122), .bin .quo (.r 121) (.c (.i (.ofNat (nat_lit 8)))), .none⟩, ⟨(.some 20), .mv (.r 122), .none⟩])
 (.seq (.reg [⟨(.some 123), .mv (.r 18), .none⟩, ⟨(.some 124), .mv (.r 19), .none⟩, ⟨(.some 125), .bin .lss (.r 123) (.r 124), .none⟩])
 (.cond (.r 125) (.seq (.reg [⟨(.some 126), .mv (.r 18), .none⟩, ⟨(.some 127), .mv (.r 20), .none⟩, ⟨(.some 128), .bin .geq (.r 126) (.r 127), .none⟩, ⟨(.some 10), .mv (.r 128), .none⟩])
 (.seq (.reg [⟨(.some 129), .mv (.r 0), .none⟩, ⟨(.some 130), .mv (.r 1), .none⟩, ⟨(.some 131), .mv (.r 16), .none⟩, ⟨(.some 132), .mv (.r 3), .none⟩, ⟨(.some 133), .mv (.r 4), .none⟩, ⟨(.some 134), .call 208 [(.r 129), (.r 130), (.r 131), (.r 132), (.r 133)], .none⟩])
 (.reg [⟨(.some 135), .mv (.r 16), .none⟩, ⟨(.some 136), .bin .add (.r 135) (.c (.i (.ofNat (nat_lit 1)))), .none⟩, ⟨(.some 1), .mv (.r 136), .none⟩]))) (.seq (.reg [⟨(.some 137), .mv (.r 19), .none⟩, ⟨(.some 138), .mv (.r 20), .none⟩, ⟨(.some 139), .bin .geq (.r 137) (.r 138), .none⟩, ⟨(.some 10), .mv (.r 139), .none⟩])
 (.seq (.reg [⟨(.some 140), .mv (.r 0), .none⟩, ⟨(.some 141), .mv (.r 16), .none⟩, ⟨(.some 142), .bin .add (.r 141) (.c (.i (.ofNat (nat_lit 1)))), .none⟩, ⟨(.some 143), .mv (.r 2), .none⟩, ⟨(.some 144), .mv (.r 3), .none⟩, ⟨(.some 145), .mv (.r 4), .none⟩, ⟨(.some 146), .call 208 [(.r 140), (.r 142), (.r 143), (.r 144), (.r 145)], .none⟩])
 (.reg [⟨(.some 147), .mv (.r 16), .none⟩, ⟨(.some 2), .mv (.r 147), .none⟩])))))))))))))))))))))), 148, []⟩
theorem AxZok208 : cfOf AxZ 208 = some AxZc208 := by kernel_rfl
/- math/bits.Len -/
noncomputable def AxZc209 : CF := ⟨(.seq (.reg [⟨(.some 2), .mv (.c (.i (.ofNat (nat_lit 0)))), .none⟩])
 (.seq (.cond (.c (.b false)) (.seq (.reg [⟨(.some 3), .mv (.r 0), .none⟩, ⟨(.some 4), .cvInt .u32 (.r 3), .none⟩, ⟨(.some 5), .call 230 [(.r 4)], .none⟩, ⟨(.some 2), .mv (.r 5), .none⟩])
 .ret) .skip)
 (.seq (.reg [⟨(.some 6), .mv (.r 0), .none⟩, ⟨(.some 7), .call 231 [(.r 6)], .none⟩, ⟨(.some 2), .mv (.r 7), .none⟩])
 .ret))), 8, [.tmp 2]⟩
theorem AxZok209 : cfOf AxZ 209 = some AxZc209 := by kernel_rfl
/- slices.IndexFunc[[]int,int] -/
noncomputable def AxZc210 : CF := ⟨(.seq (.reg [⟨(.some 4), .mv (.c (.i (.ofNat (nat_lit 0)))), .none⟩])
 (.seq (.seq (.reg [⟨(.some 6), .mv (.r 0), .none⟩, ⟨(.some 7), .lenSl (.r 6), .none⟩, ⟨(.some 8), .mv (.c (.i (.ofNat (nat_lit 0)))), .none⟩])
 (.block 0 (.loop (.seq (.reg [⟨(.some 9), .bin .lss (.r 8) (.r 7), .none⟩])
 (.seq (.cond (.r 9) .skip (.exit 0))
 (.seq (.block 1 (.seq (.reg [⟨(.some 10), .mv (.r 8), .none⟩, ⟨(.some 5), .mv (.r 10), .none⟩])
 (.seq (.reg [⟨(.some 11), .mv (.r 1), .none⟩, ⟨(.some 12), .mv (.r 0), .none⟩, ⟨(.some 13), .mv (.r 5), .none⟩, ⟨(.some 14), .ixSl 1 (.r 12) (.r 13), .none⟩, ⟨(.some 15), .ld (.r 14), .none⟩, ⟨(.some 16), .callv (.r 11) [(.r 15)], .none⟩])
 (.cond (.r 16) (.seq (.reg [⟨(.some 17), .mv (.r 5), .none⟩, ⟨(.some 4), .mv (.r 17), .none⟩])
 .ret) .skip))))
 (.reg [⟨(.some 18), .bin .add (.r 8) (.c (.i (.ofNat (nat_lit 1)))), .none⟩, ⟨(.some 8), .mv (.r 18), .none⟩])))))))
 (.seq (.reg [⟨(.some 4), .mv (.c (.i (.negSucc (nat_lit 0)))), .none⟩])
 .ret))), 19, [.tmp 4]⟩
theorem AxZok210 : cfOf AxZ 210 = some AxZc210 := by kernel_rfl
/- internal/bytealg.Cutover -/
noncomputable def AxZc213 : CF := ⟨(.seq (.reg [⟨(.some 2), .mv (.c (.i (.ofNat (nat_lit 0)))), .none⟩])
 (.seq (.reg [⟨(.some 3), .mv (.r 0), .none⟩, ⟨(.some 4), .bin .add (.r 3) (.c (.i (.ofNat (nat_lit 16)))), .none⟩, ⟨(.some 5), .bin .quo (.r 4) (.c (.i (.ofNat (nat_lit 8)))), .none⟩, ⟨(.some 2), .mv (.r 5), .none⟩])
 .ret)), 6, [.tmp 2]⟩
theorem AxZok213 : cfOf AxZ 213 = some AxZc213 := by kernel_rfl
/- internal/bytealg.IndexRabinKarp[string] -/
noncomputable def AxZc214 : CF := ⟨(.seq (.reg [⟨(.some 4), .mv (.c (.i (.ofNat (nat_lit 0)))), .none⟩])
 (.seq (.reg [⟨(.some 12), .mv (.r 1), .none⟩, ⟨(.some 13), .call 232 [(.r 12)], .none⟩, ⟨(.some 11), .mv (.r 13), .none⟩, ⟨(.some 14), .ext (.r 11) 0, .none⟩, ⟨(.some 15), .ext (.r 11) 1, .none⟩, ⟨(.some 5), .mv (.r 14), .none⟩, ⟨(.some 6), .mv (.r 15), .none⟩])
 (.seq (.reg [⟨(.some 16), .mv (.r 1), .none⟩, ⟨(.some 17), .lenStr (.r 16), .none⟩, ⟨(.some 7), .mv (.r 17), .none⟩])
 (.seq (.reg [⟨(.some 8), .mv (.c (.u .u32 (.ofNat (nat_lit 0)))), .none⟩])
 (.seq (.seq (.reg [⟨(.some 9), .mv (.c (.i (.ofNat (nat_lit 0)))), .none⟩])
 (.block 0 (.loop (.seq (.seq (.reg [⟨(.some 18), .mv (.r 9), .none⟩, ⟨(.some 19), .mv (.r 7), .none⟩, ⟨(.some 20), .bin .lss (.r 18) (.r 19), .none⟩])
 (.cond (.r 20) .skip (.exit 0)))
 (.seq (.block 1 (.reg [⟨(.some 23), .mv (.r 8), .none⟩, ⟨(.some 24), .bin .mul (.r 23) (.c (.u .u32 (.ofNat (nat_lit 16777619)))), .none⟩, ⟨(.some 25), .mv (.r 0), .none⟩, ⟨(.some 26), .mv (.r 9), .none⟩, ⟨(.some 27), .idxStr (.r 25) (.r 26), .none⟩, ⟨(.some 28), .cvInt .u32 (.r 27), .none⟩, ⟨(.some 29), .bin .add (.r 24) (.r 28), .none⟩, ⟨(.some 8), .mv (.r 29), .none⟩]))
 (.reg [⟨(.some 21), .mv (.r 9), .none⟩, ⟨(.some 22), .bin .add (.r 21) (.c (.i (.ofNat (nat_lit 1)))), .none⟩, ⟨(.some 9), .mv (.r 22), .none⟩]))))))
 (.seq (.seq (.reg [⟨(.some 30), .mv (.r 8), .none⟩, ⟨(.some 31), .mv (.r 5), .none⟩, ⟨(.some 32), .bin .eql (.r 30) (.r 31), .none⟩, ⟨(.some 33), .mv (.r 32), .none⟩, ⟨(.some 34), .mv (.r 0), (.some (33, true))⟩, ⟨(.some 35), .mv (.r 7), (.some (33, true))⟩, ⟨(.some 36), .slStr (.r 34) .none (.some (.r 35)), (.some (33, true))⟩, ⟨(.some 37), .mv (.r 1), (.some (33, true))⟩, ⟨(.some 38), .bin .eql (.r 36) (.r 37), (.some (33, true))⟩, ⟨(.some 39), .pick (.r 33) (.r 38) (.c (.b false)), .none⟩])
 (.cond (.r 39) (.seq (.reg [⟨(.some 4), .mv (.c (.i (.ofNat (nat_lit 0)))), .none⟩])
 .ret) .skip))
 (.seq (.seq (.reg [⟨(.some 40), .mv (.r 7), .none⟩, ⟨(.some 10), .mv (.r 40), .none⟩])
 (.block 2 (.loop (.seq (.seq (.reg [⟨(.some 41), .mv (.r 10), .none⟩, ⟨(.some 42), .mv (.r 0), .none⟩, ⟨(.some 43), .lenStr (.r 42), .none⟩, ⟨(.some 44), .bin .lss (.r 41) (.r 43), .none⟩])
 (.cond (.r 44) .skip (.exit 2)))
 (.block 3 (.seq (.reg [⟨(.some 45), .mv (.r 8), .none⟩, ⟨(.some 46), .bin .mul (.r 45) (.c (.u .u32 (.ofNat (nat_lit 16777619)))), .none⟩, ⟨(.some 8), .mv (.r 46), .none⟩])
 (.seq (.reg [⟨(.some 47), .mv (.r 8), .none⟩, ⟨(.some 48), .mv (.r 0), .none⟩, ⟨(.some 49), .mv (.r 10), .none⟩, ⟨(.some 50), .idxStr (.r 48) (.r 49), .none⟩, ⟨(.some 51), .cvInt .u32 (.r 50), .none⟩, ⟨(.some 52), .bin .add (.r 47) (.r 51), .none⟩, ⟨(.some 8), .mv (.r 52), .none⟩])
 (.seq (.reg [⟨(.some 53), .mv (.r 8), .none⟩, ⟨(.some 54), .mv (.r 6), .none⟩, ⟨(.some 55), .mv (.r 0), .none⟩, ⟨(.some 56), .mv (.r 10), .none⟩, ⟨(.some 57), .mv (.r 7), .none⟩, ⟨(.some 58), .bin .sub (.r 56) (.r 57), .none⟩, ⟨(.some 59), .idxStr (.r 55) (.r 58), .none⟩, ⟨(.some 60), .cvInt .u32 (.r 59), .none⟩, ⟨(.some 61), .bin .mul (.r 54) (.r 60), .none⟩, ⟨(.some 62), .bin .sub (.r 53) (.r 61), .none⟩, ⟨(.some 8), .mv (.r 62), .none⟩])
 (.seq (.reg [⟨(.some 63), .mv (.r 10), .none⟩, ⟨(.some 64), .bin .add (.r 63) (.c (.i (.ofNat (nat_lit 1)))), .none⟩, ⟨(.some 10), .mv (.r 64), .none⟩])
 (.seq (.reg [⟨(.some 65), .mv (.r 8), .none⟩, ⟨(.some 66), .mv (.r 5), .none⟩, ⟨(.some 67), .bin .eql (.r 65) (.r 66), .none⟩, ⟨(.some 68), .mv (.r 67), .none⟩, ⟨(.some 69), .mv (.r 0), (.some (68, true))⟩, ⟨(.some 70), .mv (.r 10), (.some (68, true))⟩, ⟨(.some 71), .mv (.r 7), (.some (68, true))⟩, ⟨(.some 72), .bin .sub (.r 70) (.r 71), (.some (68, true))⟩, ⟨(.some 73), .mv (.r 10), (.some (68, true))⟩, ⟨(.some 74), .slStr (.r 69) (.some (.r 72)) (.some (.r 73)), (.some (68, true))⟩, ⟨(.some 75), .mv (.r 1), (.some (68, true))⟩, ⟨(.some 76), .bin .eql (.r 74) (.r 75), (.some (68, true))⟩, ⟨(.some 77), .pick (.r 68) (.r 76) (.c (.b false)), .none⟩])
 (.cond (.r 77) (.seq (.reg [⟨(.some 78), .mv (.r 10), .none⟩, ⟨(.some 79), .mv (.r 7), .none⟩, ⟨(.some 80), .bin .sub (.r 78) (.r 79), .none⟩, ⟨(.some 4), .mv (.r 80), .none⟩])
 .ret) .skip)))))))))))
 (.seq (.reg [⟨(.some 4), .mv (.c (.i (.negSucc (nat_lit 0)))), .none⟩])
 .ret)))))))), 81, [.tmp 4]⟩
theorem AxZok214 : cfOf AxZ 214 = some AxZc214 := by kernel_rfl
/- conch/first.fresh -/
noncomputable def AxZc215 : CF := ⟨(.seq (.reg [⟨(.some 4), .mv (.c .nils), .none⟩])
 (.seq (.reg [⟨(.some 5), .mv (.c .nils), .none⟩])
 (.seq (.seq (.reg [⟨(.some 6), .mv (.r 0), .none⟩, ⟨(.some 7), .mv (.c (.i (.ofNat (nat_lit 0)))), .none⟩])
 (.block 0 (.loop (.seq (.reg [⟨(.some 8), .bin .lss (.r 7) (.r 6), .none⟩])
 (.seq (.cond (.r 8) .skip (.exit 0))
 (.seq (.block 1 (.reg [⟨(.some 9), .mv (.r 5), .none⟩, ⟨(.some 10), .mv (.r 1), .none⟩, ⟨(.some 11), .call 200 [(.r 10)], .none⟩, ⟨(.some 12), .bslice 284 1 1 [.nilp] [(0, 1, (.r 11))], .none⟩, ⟨(.some 13), .app 284 1 (.r 9) (.r 12), .none⟩, ⟨(.some 5), .mv (.r 13), .none⟩]))
 (.reg [⟨(.some 14), .bin .add (.r 7) (.c (.i (.ofNat (nat_lit 1)))), .none⟩, ⟨(.some 7), .mv (.r 14), .none⟩])))))))
 (.seq (.reg [⟨(.some 15), .mv (.r 5), .none⟩, ⟨(.some 4), .mv (.r 15), .none⟩])
 .ret)))), 16, [.tmp 4]⟩
theorem AxZok215 : cfOf AxZ 215 = some AxZc215 := by kernel_rfl
/- (*conch/first.Sets).line -/
noncomputable def AxZc216 : CF := ⟨(.seq (.reg [⟨(.some 6), .mv (.c (.b false)), .none⟩, ⟨(.some 7), .mv (.c (.b false)), .none⟩])
 (.seq (.reg [⟨(.some 8), .mv (.c (.b false)), .none⟩])
 (.seq (.seq (.reg [⟨(.some 11), .mv (.r 2), .none⟩, ⟨(.some 12), .lenSl (.r 11), .none⟩, ⟨(.some 13), .mv (.c (.i (.ofNat (nat_lit 0)))), .none⟩])
 (.block 0 (.loop (.seq (.reg [⟨(.some 14), .bin .lss (.r 13) (.r 12), .none⟩])
 (.seq (.cond (.r 14) .skip (.exit 0))
 (.seq (.block 1 (.seq (.reg [⟨(.some 15), .ixSl 1 (.r 11) (.r 13), .none⟩, ⟨(.some 16), .ld (.r 15), .none⟩, ⟨(.some 10), .mv (.r 16), .none⟩])
 (.seq (.seq (.reg [⟨(.some 17), .mv (.r 0), .none⟩, ⟨(.some 18), .nilck (.r 17), .none⟩, ⟨(.some 19), .fadr 0 (.r 18), .none⟩, ⟨(.some 20), .lda 2 (.r 19), .none⟩, ⟨(.some 21), .mv (.r 10), .none⟩, ⟨(.some 22), .call 233 [(.r 20), (.r 21)], .none⟩, ⟨(.some 23), .un .not (.r 22), .none⟩])
 (.cond (.r 23) (.seq (.reg [⟨(.some 24), .mv (.r 8), .none⟩, ⟨(.some 6), .mv (.r 24), .none⟩, ⟨(.some 7), .mv (.c (.b false)), .none⟩])
 .ret) .skip))
 (.seq (.reg [⟨(.some 25), .mv (.r 1), .none⟩, ⟨(.some 26), .mv (.r 0), .none⟩, ⟨(.some 27), .nilck (.r 26), .none⟩, ⟨(.some 28), .fadr 3 (.r 27), .none⟩, ⟨(.some 29), .ld (.r 28), .none⟩, ⟨(.some 30), .mv (.r 10), .none⟩, ⟨(.some 31), .ixSl 1 (.r 29) (.r 30), .none⟩, ⟨(.some 32), .ld (.r 31), .none⟩, ⟨(.some 33), .call 205 [(.r 25), (.r 32)], .none⟩, ⟨(.some 34), .mv (.r 33), .none⟩, ⟨(.some 35), .mv (.r 8), (.some (34, false))⟩, ⟨(.some 36), .pick (.r 34) (.c (.b true)) (.r 35), .none⟩, ⟨(.some 8), .mv (.r 36), .none⟩])
 (.seq (.reg [⟨(.some 37), .mv (.r 0), .none⟩, ⟨(.some 38), .nilck (.r 37), .none⟩, ⟨(.some 39), .fadr 2 (.r 38), .none⟩, ⟨(.some 40), .ld (.r 39), .none⟩, ⟨(.some 41), .mv (.r 10), .none⟩, ⟨(.some 42), .call 234 [(.r 40), (.r 41)], .none⟩, ⟨(.some 43), .un .not (.r 42), .none⟩])
 (.cond (.r 43) (.seq (.reg [⟨(.some 44), .mv (.r 8), .none⟩, ⟨(.some 6), .mv (.r 44), .none⟩, ⟨(.some 7), .mv (.c (.b false)), .none⟩])
 .ret) .skip))))))
 (.reg [⟨(.some 45), .bin .add (.r 13) (.c (.i (.ofNat (nat_lit 1)))), .none⟩, ⟨(.some 13), .mv (.r 45), .none⟩])))))))
 (.seq (.reg [⟨(.some 46), .mv (.r 8), .none⟩, ⟨(.some 6), .mv (.r 46), .none⟩, ⟨(.some 7), .mv (.c (.b true)), .none⟩])
 .ret)))), 47, [.tmp 6, .tmp 7]⟩
theorem AxZok216 : cfOf AxZ 216 = some AxZc216 := by kernel_rfl
/- (*conch/first.Sets).rule -/
noncomputable def AxZc217 : CF := ⟨(.seq (.reg [⟨(.some 3), .box 149 (.r 1), .none⟩, ⟨(.some 4), .mv (.c (.b false)), .none⟩])
 (.seq (.reg [⟨(.some 5), .mv (.c (.b false)), .none⟩])
 (.seq (.seq (.reg [⟨(.some 10), .fadr 1 (.r 3), .none⟩, ⟨(.some 11), .ld (.r 10), .none⟩, ⟨(.some 12), .lenSl (.r 11), .none⟩, ⟨(.some 13), .mv (.c (.i (.ofNat (nat_lit 0)))), .none⟩])
 (.block 0 (.loop (.seq (.reg [⟨(.some 14), .bin .lss (.r 13) (.r 12), .none⟩])
 (.seq (.cond (.r 14) .skip (.exit 0))
 (.seq (.block 1 (.seq (.reg [⟨(.some 15), .mv (.r 13), .none⟩, ⟨(.some 16), .ixSl 1 (.r 11) (.r 13), .none⟩, ⟨(.some 17), .ld (.r 16), .none⟩, ⟨(.some 6), .mv (.r 15), .none⟩, ⟨(.some 7), .mv (.r 17), .none⟩])
 (.seq (.seq (.reg [⟨(.some 18), .mv (.r 0), .none⟩, ⟨(.some 19), .nilck (.r 18), .none⟩, ⟨(.some 20), .fadr 0 (.r 19), .none⟩, ⟨(.some 21), .lda 2 (.r 20), .none⟩, ⟨(.some 22), .mv (.r 7), .none⟩, ⟨(.some 23), .call 235 [(.r 21), (.r 22)], .none⟩, ⟨(.some 24), .un .not (.r 23), .none⟩])
 (.cond (.r 24) (.exit 1) .skip))
 (.seq (.dreg [(⟨(.some 26), .mv (.r 0), .none⟩, false), (⟨(.some 27), .mv (.r 0), .none⟩, false), (⟨(.some 28), .nilck (.r 27), .none⟩, false), (⟨(.some 29), .fadr 4 (.r 28), .none⟩, false), (⟨(.some 30), .ld (.r 29), .none⟩, false), (⟨(.some 31), .mv (.r 7), .none⟩, false), (⟨(.some 32), .ixSl 1 (.r 30) (.r 31), .none⟩, false), (⟨(.some 33), .ld (.r 32), .none⟩, false), (⟨(.some 34), .fadr 1 (.r 3), .none⟩, false), (⟨(.some 35), .ld (.r 34), .none⟩, false), (⟨(.some 36), .mv (.r 6), .none⟩, false), (⟨(.some 37), .bin .add (.r 36) (.c (.i (.ofNat (nat_lit 1)))), .none⟩, false), (⟨(.some 38), .slSl 1 (.r 35) (.some (.r 37)) .none .none, .none⟩, false), (⟨(.some 39), .call 216 [(.r 26), (.r 33), (.r 38)], .none⟩, true), (⟨(.some 25), .mv (.r 39), .none⟩, false), (⟨(.some 40), .ext (.r 25) 0, .none⟩, false), (⟨(.some 41), .ext (.r 25) 1, .none⟩, false), (⟨(.some 8), .mv (.r 40), .none⟩, false), (⟨(.some 9), .mv (.r 41), .none⟩, false)] [])
 (.seq (.seq (.reg [⟨(.some 42), .mv (.r 9), .none⟩])
 (.cond (.r 42) (.dreg [(⟨(.some 43), .mv (.r 0), .none⟩, false), (⟨(.some 44), .nilck (.r 43), .none⟩, false), (⟨(.some 45), .fadr 4 (.r 44), .none⟩, false), (⟨(.some 46), .ld (.r 45), .none⟩, false), (⟨(.some 47), .mv (.r 7), .none⟩, false), (⟨(.some 48), .ixSl 1 (.r 46) (.r 47), .none⟩, false), (⟨(.some 49), .ld (.r 48), .none⟩, false), (⟨(.some 50), .mv (.r 0), .none⟩, false), (⟨(.some 51), .nilck (.r 50), .none⟩, false), (⟨(.some 52), .fadr 4 (.r 51), .none⟩, false), (⟨(.some 53), .ld (.r 52), .none⟩, false), (⟨(.some 54), .fadr 0 (.r 3), .none⟩, false), (⟨(.some 55), .ld (.r 54), .none⟩, false), (⟨(.some 56), .ixSl 1 (.r 53) (.r 55), .none⟩, false), (⟨(.some 57), .ld (.r 56), .none⟩, false), (⟨(.some 58), .call 205 [(.r 49), (.r 57)], .none⟩, true), (⟨(.some 59), .mv (.r 58), .none⟩, false), (⟨(.some 60), .mv (.r 8), (.some (59, false))⟩, false), (⟨(.some 61), .pick (.r 59) (.c (.b true)) (.r 60), .none⟩, false), (⟨(.some 8), .mv (.r 61), .none⟩, false)] []) .skip))
 (.reg [⟨(.some 62), .mv (.r 5), .none⟩, ⟨(.some 63), .mv (.r 62), .none⟩, ⟨(.some 64), .mv (.r 8), (.some (63, false))⟩, ⟨(.some 65), .pick (.r 63) (.c (.b true)) (.r 64), .none⟩, ⟨(.some 5), .mv (.r 65), .none⟩]))))))
 (.reg [⟨(.some 66), .bin .add (.r 13) (.c (.i (.ofNat (nat_lit 1)))), .none⟩, ⟨(.some 13), .mv (.r 66), .none⟩])))))))
 (.seq (.reg [⟨(.some 67), .mv (.r 5), .none⟩, ⟨(.some 4), .mv (.r 67), .none⟩])
 .ret)))), 68, [.tmp 4]⟩
theorem AxZok217 : cfOf AxZ 217 = some AxZc217 := by kernel_rfl
/- (*conch/look.maker).hand -/
noncomputable def AxZc218 : CF := ⟨(.seq (.reg [⟨(.some 5), .box 313 (.r 1), .none⟩, ⟨(.some 7), .box 299 (.r 3), .none⟩, ⟨(.some 8), .mv (.c (.b false)), .none⟩])
 (.seq (.seq (.reg [⟨(.some 10), .fadr 2 (.r 5), .none⟩, ⟨(.some 11), .ld (.r 10), .none⟩, ⟨(.some 12), .un .not (.r 11), .none⟩, ⟨(.some 13), .mv (.r 12), .none⟩, ⟨(.some 14), .fadr 1 (.r 5), (.some (13, true))⟩, ⟨(.some 15), .ld (.r 14), (.some (13, true))⟩, ⟨(.some 16), .call 203 [(.r 15), (.c (.i (.ofNat (nat_lit 0))))], (.some (13, true))⟩, ⟨(.some 17), .bin .lss (.r 16) (.c (.i (.ofNat (nat_lit 0)))), (.some (13, true))⟩, ⟨(.some 18), .pick (.r 13) (.r 17) (.c (.b false)), .none⟩])
 (.cond (.r 18) (.seq (.reg [⟨(.some 8), .mv (.c (.b false)), .none⟩])
 .ret) .skip))
 (.seq (.dreg [(⟨(.some 19), .mv (.r 2), .none⟩, false), (⟨(.some 20), .nilck (.r 19), .none⟩, false), (⟨(.some 21), .fadr 1 (.r 20), .none⟩, false), (⟨(.some 22), .ld (.r 21), .none⟩, false), (⟨(.some 23), .fadr 0 (.r 7), .none⟩, false), (⟨(.some 24), .ld (.r 23), .none⟩, false), (⟨(.some 25), .call 205 [(.r 22), (.r 24)], .none⟩, true), (⟨(.some 9), .mv (.r 25), .none⟩, false)] [])
 (.seq (.seq (.reg [⟨(.some 26), .fadr 1 (.r 7), .none⟩, ⟨(.some 27), .ld (.r 26), .none⟩, ⟨(.some 28), .un .not (.r 27), .none⟩])
 (.cond (.r 28) (.seq (.reg [⟨(.some 29), .mv (.r 9), .none⟩, ⟨(.some 8), .mv (.r 29), .none⟩])
 .ret) .skip))
 (.seq (.dreg [(⟨(.some 30), .mv (.r 2), .none⟩, false), (⟨(.some 31), .nilck (.r 30), .none⟩, false), (⟨(.some 32), .fadr 1 (.r 31), .none⟩, false), (⟨(.some 33), .ld (.r 32), .none⟩, false), (⟨(.some 34), .fadr 1 (.r 5), .none⟩, false), (⟨(.some 35), .ld (.r 34), .none⟩, false), (⟨(.some 36), .call 205 [(.r 33), (.r 35)], .none⟩, true), (⟨(.some 37), .mv (.r 36), .none⟩, false), (⟨(.some 38), .mv (.r 9), (.some (37, false))⟩, false), (⟨(.some 39), .pick (.r 37) (.c (.b true)) (.r 38), .none⟩, false), (⟨(.some 9), .mv (.r 39), .none⟩, false)] [])
 (.seq (.seq (.reg [⟨(.some 40), .fadr 2 (.r 5), .none⟩, ⟨(.some 41), .ld (.r 40), .none⟩, ⟨(.some 42), .mv (.r 41), .none⟩, ⟨(.some 43), .mv (.r 2), (.some (42, true))⟩, ⟨(.some 44), .nilck (.r 43), (.some (42, true))⟩, ⟨(.some 45), .fadr 2 (.r 44), (.some (42, true))⟩, ⟨(.some 46), .ld (.r 45), (.some (42, true))⟩, ⟨(.some 47), .un .not (.r 46), (.some (42, true))⟩, ⟨(.some 48), .pick (.r 42) (.r 47) (.c (.b false)), .none⟩])
 (.cond (.r 48) (.seq (.reg [⟨(.some 49), .mv (.r 2), .none⟩, ⟨(.some 50), .nilck (.r 49), .none⟩, ⟨(.some 51), .fadr 2 (.r 50), .none⟩, ⟨.none, .st 1 (.r 51) (.c (.b true)), .none⟩])
 (.reg [⟨(.some 9), .mv (.c (.b true)), .none⟩])) .skip))
 (.seq (.reg [⟨(.some 52), .mv (.r 9), .none⟩, ⟨(.some 8), .mv (.r 52), .none⟩])
 .ret))))))), 53, [.tmp 8]⟩
theorem AxZok218 : cfOf AxZ 218 = some AxZc218 := by kernel_rfl
/- (*conch/bits.Set).Room -/
noncomputable def AxZc219 : CF := ⟨(.seq (.reg [⟨(.some 2), .mv (.c (.i (.ofNat (nat_lit 0)))), .none⟩])
 (.seq (.seq (.reg [⟨(.some 3), .mv (.r 0), .none⟩, ⟨(.some 4), .eq .ptr false (.r 3) (.c .nilp), .none⟩])
 (.cond (.r 4) (.seq (.reg [⟨(.some 2), .mv (.c (.i (.ofNat (nat_lit 0)))), .none⟩])
 .ret) .skip))
 (.seq (.reg [⟨(.some 5), .mv (.r 0), .none⟩, ⟨(.some 6), .nilck (.r 5), .none⟩, ⟨(.some 7), .fadr 0 (.r 6), .none⟩, ⟨(.some 8), .ld (.r 7), .none⟩, ⟨(.some 2), .mv (.r 8), .none⟩])
 .ret))), 9, [.tmp 2]⟩
theorem AxZok219 : cfOf AxZ 219 = some AxZc219 := by kernel_rfl
/- (*conch/look.maker).place -/
noncomputable def AxZc220 : CF := ⟨(.seq (.reg [⟨(.some 5), .box 259 (.r 2), .none⟩, ⟨(.some 6), .mv (.c (.i (.ofNat (nat_lit 0)))), .none⟩])
 (.seq (.seq (.reg [⟨(.some 9), .mv (.r 0), .none⟩, ⟨(.some 10), .nilck (.r 9), .none⟩, ⟨(.some 11), .fadr 4 (.r 10), .none⟩, ⟨(.some 12), .ld (.r 11), .none⟩, ⟨(.some 13), .mv (.r 1), .none⟩, ⟨(.some 14), .ixSl 2 (.r 12) (.r 13), .none⟩, ⟨(.some 15), .fadr 0 (.r 14), .none⟩, ⟨(.some 16), .ld (.r 15), .none⟩, ⟨(.some 17), .lenSl (.r 16), .none⟩, ⟨(.some 18), .mv (.c (.i (.ofNat (nat_lit 0)))), .none⟩])
 (.block 0 (.loop (.seq (.reg [⟨(.some 19), .bin .lss (.r 18) (.r 17), .none⟩])
 (.seq (.cond (.r 19) .skip (.exit 0))
 (.seq (.block 1 (.seq (.reg [⟨(.some 20), .mv (.r 18), .none⟩, ⟨(.some 21), .ixSl 2 (.r 16) (.r 18), .none⟩, ⟨(.some 22), .lda 2 (.r 21), .none⟩, ⟨(.some 8), .alloc 259 [(.i (.ofNat (nat_lit 0))), (.i (.ofNat (nat_lit 0)))], .none⟩, ⟨(.some 7), .mv (.r 20), .none⟩, ⟨.none, .st 2 (.r 8) (.r 22), .none⟩])
 (.seq (.reg [⟨(.some 23), .lda 2 (.r 5), .none⟩, ⟨(.some 24), .lda 2 (.r 8), .none⟩, ⟨(.some 25), .eq (.flat [.int, .int]) false (.r 23) (.r 24), .none⟩])
 (.cond (.r 25) (.seq (.reg [⟨(.some 26), .mv (.r 0), .none⟩, ⟨(.some 27), .nilck (.r 26), .none⟩, ⟨(.some 28), .fadr 9 (.r 27), .none⟩, ⟨(.some 29), .ld (.r 28), .none⟩, ⟨(.some 30), .mv (.r 1), .none⟩, ⟨(.some 31), .ixSl 1 (.r 29) (.r 30), .none⟩, ⟨(.some 32), .ld (.r 31), .none⟩, ⟨(.some 33), .mv (.r 7), .none⟩, ⟨(.some 34), .bin .add (.r 32) (.r 33), .none⟩, ⟨(.some 6), .mv (.r 34), .none⟩])
 .ret) .skip))))
 (.reg [⟨(.some 35), .bin .add (.r 18) (.c (.i (.ofNat (nat_lit 1)))), .none⟩, ⟨(.some 18), .mv (.r 35), .none⟩])))))))
 (.seq (.reg [⟨(.some 6), .mv (.c (.i (.negSucc (nat_lit 0)))), .none⟩])
 .ret))), 36, [.tmp 6]⟩
theorem AxZok220 : cfOf AxZ 220 = some AxZc220 := by kernel_rfl
/- (*conch/bits.Set).words -/
noncomputable def AxZc221 : CF := ⟨(.seq (.reg [⟨(.some 4), .mv (.c .nils), .none⟩])
 (.seq (.seq (.reg [⟨(.some 7), .mv (.r 0), .none⟩, ⟨(.some 8), .eq .ptr false (.r 7) (.c .nilp), .none⟩])
 (.cond (.r 8) (.seq (.reg [⟨(.some 4), .mv (.c .nils), .none⟩])
 .ret) .skip))
 (.seq (.reg [⟨(.some 9), .mv (.r 1), .none⟩, ⟨(.some 10), .mv (.r 0), .none⟩, ⟨(.some 11), .nilck (.r 10), .none⟩, ⟨(.some 12), .fadr 0 (.r 11), .none⟩, ⟨(.some 13), .ld (.r 12), .none⟩, ⟨(.some 14), .min (.r 9) (.r 13), .none⟩, ⟨(.some 5), .mv (.r 14), .none⟩])
 (.seq (.reg [⟨(.some 15), .mv (.r 0), .none⟩, ⟨(.some 16), .nilck (.r 15), .none⟩, ⟨(.some 17), .fadr 1 (.r 16), .none⟩, ⟨(.some 18), .ld (.r 17), .none⟩, ⟨(.some 19), .mv (.r 5), .none⟩, ⟨(.some 20), .bin .add (.r 19) (.c (.i (.ofNat (nat_lit 63)))), .none⟩, ⟨(.some 21), .bin .shr (.r 20) (.c (.u .u64 (.ofNat (nat_lit 6)))), .none⟩, ⟨(.some 22), .slSl 1 (.r 18) .none (.some (.r 21)) .none, .none⟩, ⟨(.some 23), .call 236 [(.r 22)], .none⟩, ⟨(.some 6), .mv (.r 23), .none⟩])
 (.seq (.seq (.reg [⟨(.some 24), .mv (.r 5), .none⟩, ⟨(.some 25), .bin .and (.r 24) (.c (.i (.ofNat (nat_lit 63)))), .none⟩, ⟨(.some 26), .bin .neq (.r 25) (.c (.i (.ofNat (nat_lit 0)))), .none⟩, ⟨(.some 27), .mv (.r 26), .none⟩, ⟨(.some 28), .mv (.r 6), (.some (27, true))⟩, ⟨(.some 29), .lenSl (.r 28), (.some (27, true))⟩, ⟨(.some 30), .bin .gtr (.r 29) (.c (.i (.ofNat (nat_lit 0)))), (.some (27, true))⟩, ⟨(.some 31), .pick (.r 27) (.r 30) (.c (.b false)), .none⟩])
 (.cond (.r 31) (.reg [⟨(.some 32), .mv (.r 6), .none⟩, ⟨(.some 33), .mv (.r 6), .none⟩, ⟨(.some 34), .lenSl (.r 33), .none⟩, ⟨(.some 35), .bin .sub (.r 34) (.c (.i (.ofNat (nat_lit 1)))), .none⟩, ⟨(.some 36), .ixSl 1 (.r 32) (.r 35), .none⟩, ⟨(.some 37), .ld (.r 36), .none⟩, ⟨(.some 38), .mv (.r 5), .none⟩, ⟨(.some 39), .bin .and (.r 38) (.c (.i (.ofNat (nat_lit 63)))), .none⟩, ⟨(.some 40), .cvInt .u64 (.r 39), .none⟩, ⟨(.some 41), .bin .shl (.c (.u .u64 (.ofNat (nat_lit 1)))) (.r 40), .none⟩, ⟨(.some 42), .bin .sub (.r 41) (.c (.u .u64 (.ofNat (nat_lit 1)))), .none⟩, ⟨(.some 43), .bin .and (.r 37) (.r 42), .none⟩, ⟨(.some 44), .ixSl 1 (.r 32) (.r 35), .none⟩, ⟨.none, .st 1 (.r 44) (.r 43), .none⟩]) .skip))
 (.seq (.reg [⟨(.some 45), .mv (.r 6), .none⟩, ⟨(.some 4), .mv (.r 45), .none⟩])
 .ret)))))), 46, [.tmp 4]⟩
theorem AxZok221 : cfOf AxZ 221 = some AxZc221 := by kernel_rfl
/- slices.insertionSortCmpFunc[conch/api.Item] -/
noncomputable def AxZc222 : CF := ⟨(.seq (.reg [⟨(.some 10), .mv (.r 1), .none⟩, ⟨(.some 11), .bin .add (.r 10) (.c (.i (.ofNat (nat_lit 1)))), .none⟩, ⟨(.some 8), .mv (.r 11), .none⟩])
 (.block 0 (.loop (.seq (.seq (.reg [⟨(.some 12), .mv (.r 8), .none⟩, ⟨(.some 13), .mv (.r 2), .none⟩, ⟨(.some 14), .bin .lss (.r 12) (.r 13), .none⟩])
 (.cond (.r 14) .skip (.exit 0)))
 (.seq (.block 1 (.seq (.reg [⟨(.some 17), .mv (.r 8), .none⟩, ⟨(.some 9), .mv (.r 17), .none⟩])
 (.block 2 (.loop (.seq (.seq (.dreg [(⟨(.some 18), .mv (.r 9), .none⟩, false), (⟨(.some 19), .mv (.r 1), .none⟩, false), (⟨(.some 20), .bin .gtr (.r 18) (.r 19), .none⟩, false), (⟨(.some 21), .mv (.r 20), .none⟩, false), (⟨(.some 22), .mv (.r 3), (.some (21, true))⟩, false), (⟨(.some 23), .mv (.r 0), (.some (21, true))⟩, false), (⟨(.some 24), .mv (.r 9), (.some (21, true))⟩, false), (⟨(.some 25), .ixSl 2 (.r 23) (.r 24), (.some (21, true))⟩, false), (⟨(.some 26), .lda 2 (.r 25), (.some (21, true))⟩, false), (⟨(.some 27), .mv (.r 0), (.some (21, true))⟩, false), (⟨(.some 28), .mv (.r 9), (.some (21, true))⟩, false), (⟨(.some 29), .bin .sub (.r 28) (.c (.i (.ofNat (nat_lit 1)))), (.some (21, true))⟩, false), (⟨(.some 30), .ixSl 2 (.r 27) (.r 29), (.some (21, true))⟩, false), (⟨(.some 31), .lda 2 (.r 30), (.some (21, true))⟩, false), (⟨(.some 32), .callv (.r 22) [(.r 26), (.r 31)], (.some (21, true))⟩, true), (⟨(.some 33), .bin .lss (.r 32) (.c (.i (.ofNat (nat_lit 0)))), (.some (21, true))⟩, false), (⟨(.some 34), .pick (.r 21) (.r 33) (.c (.b false)), .none⟩, false)] [])
 (.cond (.r 34) .skip (.exit 2)))
 (.seq (.block 3 (.dreg [(⟨(.some 37), .mv (.r 0), .none⟩, false), (⟨(.some 38), .mv (.r 9), .none⟩, false), (⟨(.some 39), .mv (.r 0), .none⟩, false), (⟨(.some 40), .mv (.r 9), .none⟩, false), (⟨(.some 41), .bin .sub (.r 40) (.c (.i (.ofNat (nat_lit 1)))), .none⟩, false), (⟨(.some 42), .mv (.r 0), .none⟩, false), (⟨(.some 43), .mv (.r 9), .none⟩, false), (⟨(.some 44), .bin .sub (.r 43) (.c (.i (.ofNat (nat_lit 1)))), .none⟩, false), (⟨(.some 45), .ixSl 2 (.r 42) (.r 44), .none⟩, false), (⟨(.some 46), .lda 2 (.r 45), .none⟩, false), (⟨(.some 47), .mv (.r 0), .none⟩, false), (⟨(.some 48), .mv (.r 9), .none⟩, false), (⟨(.some 49), .ixSl 2 (.r 47) (.r 48), .none⟩, false), (⟨(.some 50), .lda 2 (.r 49), .none⟩, false), (⟨(.some 51), .ixSl 2 (.r 37) (.r 38), .none⟩, false), (⟨.none, .st 2 (.r 51) (.r 46), .none⟩, true), (⟨(.some 52), .ixSl 2 (.r 39) (.r 41), .none⟩, false), (⟨.none, .st 2 (.r 52) (.r 50), .none⟩, true)] []))
 (.reg [⟨(.some 35), .mv (.r 9), .none⟩, ⟨(.some 36), .bin .sub (.r 35) (.c (.i (.ofNat (nat_lit 1)))), .none⟩, ⟨(.some 9), .mv (.r 36), .none⟩])))))))
 (.reg [⟨(.some 15), .mv (.r 8), .none⟩, ⟨(.some 16), .bin .add (.r 15) (.c (.i (.ofNat (nat_lit 1)))), .none⟩, ⟨(.some 8), .mv (.r 16), .none⟩])))))), 53, []⟩
theorem AxZok222 : cfOf AxZ 222 = some AxZc222 := by kernel_rfl
/- slices.heapSortCmpFunc[conch/api.Item] -/
noncomputable def AxZc223 : CF := ⟨(.seq (.reg [⟨(.some 13), .mv (.r 1), .none⟩, ⟨(.some 8), .mv (.r 13), .none⟩])
 (.seq (.reg [⟨(.some 9), .mv (.c (.i (.ofNat (nat_lit 0)))), .none⟩])
 (.seq (.reg [⟨(.some 14), .mv (.r 2), .none⟩, ⟨(.some 15), .mv (.r 1), .none⟩, ⟨(.some 16), .bin .sub (.r 14) (.r 15), .none⟩, ⟨(.some 10), .mv (.r 16), .none⟩])
 (.seq (.seq (.reg [⟨(.some 17), .mv (.r 10), .none⟩, ⟨(.some 18), .bin .sub (.r 17) (.c (.i (.ofNat (nat_lit 1)))), .none⟩, ⟨(.some 19), .bin .quo (.r 18) (.c (.i (.ofNat (nat_lit 2)))), .none⟩, ⟨(.some 11), .mv (.r 19), .none⟩])
 (.block 0 (.loop (.seq (.seq (.reg [⟨(.some 20), .mv (.r 11), .none⟩, ⟨(.some 21), .bin .geq (.r 20) (.c (.i (.ofNat (nat_lit 0)))), .none⟩])
 (.cond (.r 21) .skip (.exit 0)))
 (.seq (.block 1 (.reg [⟨(.some 24), .mv (.r 0), .none⟩, ⟨(.some 25), .mv (.r 11), .none⟩, ⟨(.some 26), .mv (.r 10), .none⟩, ⟨(.some 27), .mv (.r 8), .none⟩, ⟨(.some 28), .mv (.r 3), .none⟩, ⟨(.some 29), .call 237 [(.r 24), (.r 25), (.r 26), (.r 27), (.r 28)], .none⟩]))
 (.reg [⟨(.some 22), .mv (.r 11), .none⟩, ⟨(.some 23), .bin .sub (.r 22) (.c (.i (.ofNat (nat_lit 1)))), .none⟩, ⟨(.some 11), .mv (.r 23), .none⟩]))))))
 (.seq (.reg [⟨(.some 30), .mv (.r 10), .none⟩, ⟨(.some 31), .bin .sub (.r 30) (.c (.i (.ofNat (nat_lit 1)))), .none⟩, ⟨(.some 12), .mv (.r 31), .none⟩])
 (.block 2 (.loop (.seq (.seq (.reg [⟨(.some 32), .mv (.r 12), .none⟩, ⟨(.some 33), .bin .geq (.r 32) (.c (.i (.ofNat (nat_lit 0)))), .none⟩])
 (.cond (.r 33) .skip (.exit 2)))
 (.seq (.block 3 (.seq (.dreg [(⟨(.some 36), .mv (.r 0), .none⟩, false), (⟨(.some 37), .mv (.r 8), .none⟩, false), (⟨(.some 38), .mv (.r 0), .none⟩, false), (⟨(.some 39), .mv (.r 8), .none⟩, false), (⟨(.some 40), .mv (.r 12), .none⟩, false), (⟨(.some 41), .bin .add (.r 39) (.r 40), .none⟩, false), (⟨(.some 42), .mv (.r 0), .none⟩, false), (⟨(.some 43), .mv (.r 8), .none⟩, false), (⟨(.some 44), .mv (.r 12), .none⟩, false), (⟨(.some 45), .bin .add (.r 43) (.r 44), .none⟩, false), (⟨(.some 46), .ixSl 2 (.r 42) (.r 45), .none⟩, false), (⟨(.some 47), .lda 2 (.r 46), .none⟩, false), (⟨(.some 48), .mv (.r 0), .none⟩, false), (⟨(.some 49), .mv (.r 8), .none⟩, false), (⟨(.some 50), .ixSl 2 (.r 48) (.r 49), .none⟩, false), (⟨(.some 51), .lda 2 (.r 50), .none⟩, false), (⟨(.some 52), .ixSl 2 (.r 36) (.r 37), .none⟩, false), (⟨.none, .st 2 (.r 52) (.r 47), .none⟩, true), (⟨(.some 53), .ixSl 2 (.r 38) (.r 41), .none⟩, false), (⟨.none, .st 2 (.r 53) (.r 51), .none⟩, true)] [])
 (.reg [⟨(.some 54), .mv (.r 0), .none⟩, ⟨(.some 55), .mv (.r 9), .none⟩, ⟨(.some 56), .mv (.r 12), .none⟩, ⟨(.some 57), .mv (.r 8), .none⟩, ⟨(.some 58), .mv (.r 3), .none⟩, ⟨(.some 59), .call 237 [(.r 54), (.r 55), (.r 56), (.r 57), (.r 58)], .none⟩])))
 (.reg [⟨(.some 34), .mv (.r 12), .none⟩, ⟨(.some 35), .bin .sub (.r 34) (.c (.i (.ofNat (nat_lit 1)))), .none⟩, ⟨(.some 12), .mv (.r 35), .none⟩])))))))))), 60, []⟩
theorem AxZok223 : cfOf AxZ 223 = some AxZc223 := by kernel_rfl
/- slices.breakPatternsCmpFunc[conch/api.Item] -/
noncomputable def AxZc224 : CF := ⟨(.seq (.reg [⟨(.some 13), .mv (.r 2), .none⟩, ⟨(.some 14), .mv (.r 1), .none⟩, ⟨(.some 15), .bin .sub (.r 13) (.r 14), .none⟩, ⟨(.some 8), .mv (.r 15), .none⟩])
 (.seq (.reg [⟨(.some 16), .mv (.r 8), .none⟩, ⟨(.some 17), .bin .geq (.r 16) (.c (.i (.ofNat (nat_lit 8)))), .none⟩])
 (.cond (.r 17) (.seq (.reg [⟨(.some 18), .mv (.r 8), .none⟩, ⟨(.some 19), .cvInt .u64 (.r 18), .none⟩, ⟨(.some 9), .alloc 344 [(.u .u64 (.ofNat (nat_lit 0)))], .none⟩, ⟨.none, .st 1 (.r 9) (.r 19), .none⟩])
 (.seq (.reg [⟨(.some 20), .mv (.r 8), .none⟩, ⟨(.some 21), .call 238 [(.r 20)], .none⟩, ⟨(.some 10), .mv (.r 21), .none⟩])
 (.seq (.reg [⟨(.some 22), .mv (.r 1), .none⟩, ⟨(.some 23), .mv (.r 8), .none⟩, ⟨(.some 24), .bin .quo (.r 23) (.c (.i (.ofNat (nat_lit 4)))), .none⟩, ⟨(.some 25), .bin .mul (.r 24) (.c (.i (.ofNat (nat_lit 2)))), .none⟩, ⟨(.some 26), .bin .add (.r 22) (.r 25), .none⟩, ⟨(.some 27), .bin .sub (.r 26) (.c (.i (.ofNat (nat_lit 1)))), .none⟩, ⟨(.some 11), .mv (.r 27), .none⟩])
 (.block 0 (.loop (.seq (.seq (.reg [⟨(.some 28), .mv (.r 11), .none⟩, ⟨(.some 29), .mv (.r 1), .none⟩, ⟨(.some 30), .mv (.r 8), .none⟩, ⟨(.some 31), .bin .quo (.r 30) (.c (.i (.ofNat (nat_lit 4)))), .none⟩, ⟨(.some 32), .bin .mul (.r 31) (.c (.i (.ofNat (nat_lit 2)))), .none⟩, ⟨(.some 33), .bin .add (.r 29) (.r 32), .none⟩, ⟨(.some 34), .bin .add (.r 33) (.c (.i (.ofNat (nat_lit 1)))), .none⟩, ⟨(.some 35), .bin .leq (.r 28) (.r 34), .none⟩])
 (.cond (.r 35) .skip (.exit 0)))
 (.seq (.block 1 (.seq (.reg [⟨(.some 38), .call 239 [(.r 9)], .none⟩, ⟨(.some 39), .mv (.r 10), .none⟩, ⟨(.some 40), .bin .sub (.r 39) (.c (.u .u64 (.ofNat (nat_lit 1)))), .none⟩, ⟨(.some 41), .bin .and (.r 38) (.r 40), .none⟩, ⟨(.some 42), .cvInt .i64 (.r 41), .none⟩, ⟨(.some 12), .mv (.r 42), .none⟩])
 (.seq (.seq (.reg [⟨(.some 43), .mv (.r 12), .none⟩, ⟨(.some 44), .mv (.r 8), .none⟩, ⟨(.some 45), .bin .geq (.r 43) (.r 44), .none⟩])
 (.cond (.r 45) (.reg [⟨(.some 46), .mv (.r 12), .none⟩, ⟨(.some 47), .mv (.r 8), .none⟩, ⟨(.some 48), .bin .sub (.r 46) (.r 47), .none⟩, ⟨(.some 12), .mv (.r 48), .none⟩]) .skip))
 (.dreg [(⟨(.some 49), .mv (.r 0), .none⟩, false), (⟨(.some 50), .mv (.r 11), .none⟩, false), (⟨(.some 51), .mv (.r 0), .none⟩, false), (⟨(.some 52), .mv (.r 1), .none⟩, false), (⟨(.some 53), .mv (.r 12), .none⟩, false), (⟨(.some 54), .bin .add (.r 52) (.r 53), .none⟩, false), (⟨(.some 55), .mv (.r 0), .none⟩, false), (⟨(.some 56), .mv (.r 1), .none⟩, false), (⟨(.some 57), .mv (.r 12), .none⟩, false), (⟨(.some 58), .bin .add (.r 56) (.r 57), .none⟩, false), (⟨(.some 59), .ixSl 2 (.r 55) (.r 58), .none⟩, false), (⟨(.some 60), .lda 2 (.r 59), .none⟩, false), (⟨(.some 61), .mv (.r 0), .none⟩, false), (⟨(.some 62), .mv (.r 11), .none⟩, false), (⟨(.some 63), .ixSl 2 (.r 61) (.r 62), .none⟩, false), (⟨(.some 64), .lda 2 (.r 63), .none⟩, false), (⟨(.some 65), .ixSl 2 (.r 49) (.r 50), .none⟩, false), (⟨.none, .st 2 (.r 65) (.r 60), .none⟩, true), (⟨(.some 66), .ixSl 2 (.r 51) (.r 54), .none⟩, false), (⟨.none, .st 2 (.r 66) (.r 64), .none⟩, true)] []))))
 (.reg [⟨(.some 36), .mv (.r 11), .none⟩, ⟨(.some 37), .bin .add (.r 36) (.c (.i (.ofNat (nat_lit 1)))), .none⟩, ⟨(.some 11), .mv (.r 37), .none⟩])))))))) .skip))), 67, []⟩
theorem AxZok224 : cfOf AxZ 224 = some AxZc224 := by kernel_rfl
/- slices.choosePivotCmpFunc[conch/api.Item] -/
noncomputable def AxZc225 : CF := ⟨(.seq (.reg [⟨(.some 8), .mv (.c (.i (.ofNat (nat_lit 0)))), .none⟩, ⟨(.some 9), .mv (.c (.i (.ofNat (nat_lit 0)))), .none⟩])
 (.seq (.reg [⟨(.some 15), .mv (.r 2), .none⟩, ⟨(.some 16), .mv (.r 1), .none⟩, ⟨(.some 17), .bin .sub (.r 15) (.r 16), .none⟩, ⟨(.some 10), .mv (.r 17), .none⟩])
 (.seq (.reg [⟨(.some 11), .alloc 3 [(.i (.ofNat (nat_lit 0)))], .none⟩])
 (.seq (.reg [⟨(.some 18), .mv (.r 1), .none⟩, ⟨(.some 19), .mv (.r 10), .none⟩, ⟨(.some 20), .bin .quo (.r 19) (.c (.i (.ofNat (nat_lit 4)))), .none⟩, ⟨(.some 21), .bin .mul (.r 20) (.c (.i (.ofNat (nat_lit 1)))), .none⟩, ⟨(.some 22), .bin .add (.r 18) (.r 21), .none⟩, ⟨(.some 12), .mv (.r 22), .none⟩])
 (.seq (.reg [⟨(.some 23), .mv (.r 1), .none⟩, ⟨(.some 24), .mv (.r 10), .none⟩, ⟨(.some 25), .bin .quo (.r 24) (.c (.i (.ofNat (nat_lit 4)))), .none⟩, ⟨(.some 26), .bin .mul (.r 25) (.c (.i (.ofNat (nat_lit 2)))), .none⟩, ⟨(.some 27), .bin .add (.r 23) (.r 26), .none⟩, ⟨(.some 13), .mv (.r 27), .none⟩])
 (.seq (.reg [⟨(.some 28), .mv (.r 1), .none⟩, ⟨(.some 29), .mv (.r 10), .none⟩, ⟨(.some 30), .bin .quo (.r 29) (.c (.i (.ofNat (nat_lit 4)))), .none⟩, ⟨(.some 31), .bin .mul (.r 30) (.c (.i (.ofNat (nat_lit 3)))), .none⟩, ⟨(.some 32), .bin .add (.r 28) (.r 31), .none⟩, ⟨(.some 14), .mv (.r 32), .none⟩])
 (.seq (.seq (.reg [⟨(.some 33), .mv (.r 10), .none⟩, ⟨(.some 34), .bin .geq (.r 33) (.c (.i (.ofNat (nat_lit 8)))), .none⟩])
 (.cond (.r 34) (.seq (.seq (.reg [⟨(.some 35), .mv (.r 10), .none⟩, ⟨(.some 36), .bin .geq (.r 35) (.c (.i (.ofNat (nat_lit 50)))), .none⟩])
 (.cond (.r 36) (.seq (.reg [⟨(.some 37), .mv (.r 0), .none⟩, ⟨(.some 38), .mv (.r 12), .none⟩, ⟨(.some 39), .mv (.r 3), .none⟩, ⟨(.some 40), .call 240 [(.r 37), (.r 38), (.r 11), (.r 39)], .none⟩, ⟨(.some 12), .mv (.r 40), .none⟩])
 (.seq (.reg [⟨(.some 41), .mv (.r 0), .none⟩, ⟨(.some 42), .mv (.r 13), .none⟩, ⟨(.some 43), .mv (.r 3), .none⟩, ⟨(.some 44), .call 240 [(.r 41), (.r 42), (.r 11), (.r 43)], .none⟩, ⟨(.some 13), .mv (.r 44), .none⟩])
 (.reg [⟨(.some 45), .mv (.r 0), .none⟩, ⟨(.some 46), .mv (.r 14), .none⟩, ⟨(.some 47), .mv (.r 3), .none⟩, ⟨(.some 48), .call 240 [(.r 45), (.r 46), (.r 11), (.r 47)], .none⟩, ⟨(.some 14), .mv (.r 48), .none⟩]))) .skip))
 (.reg [⟨(.some 49), .mv (.r 0), .none⟩, ⟨(.some 50), .mv (.r 12), .none⟩, ⟨(.some 51), .mv (.r 13), .none⟩, ⟨(.some 52), .mv (.r 14), .none⟩, ⟨(.some 53), .mv (.r 3), .none⟩, ⟨(.some 54), .call 241 [(.r 49), (.r 50), (.r 51), (.r 52), (.r 11), (.r 53)], .none⟩, ⟨(.some 13), .mv (.r 54), .none⟩])) .skip))
 (.seq (.reg [⟨(.some 55), .ld (.r 11), .none⟩])
 (.block 0 (.seq (.reg [⟨(.some 58), .bin .eql (.r 55) (.c (.i (.ofNat (nat_lit 0)))), .none⟩, ⟨(.some 57), .mv (.r 58), .none⟩])
 (.cond (.r 57) (.seq (.reg [⟨(.some 59), .mv (.r 13), .none⟩, ⟨(.some 8), .mv (.r 59), .none⟩, ⟨(.some 9), .mv (.c (.i (.ofNat (nat_lit 1)))), .none⟩])
 .ret) (.seq (.reg [⟨(.some 61), .bin .eql (.r 55) (.c (.i (.ofNat (nat_lit 12)))), .none⟩, ⟨(.some 60), .mv (.r 61), .none⟩])
 (.cond (.r 60) (.seq (.reg [⟨(.some 62), .mv (.r 13), .none⟩, ⟨(.some 8), .mv (.r 62), .none⟩, ⟨(.some 9), .mv (.c (.i (.ofNat (nat_lit 2)))), .none⟩])
 .ret) (.seq (.reg [⟨(.some 56), .mv (.r 13), .none⟩, ⟨(.some 8), .mv (.r 56), .none⟩, ⟨(.some 9), .mv (.c (.i (.ofNat (nat_lit 0)))), .none⟩])
 .ret)))))))))))))), 63, [.tmp 8, .tmp 9]⟩
theorem AxZok225 : cfOf AxZ 225 = some AxZc225 := by kernel_rfl
/- slices.reverseRangeCmpFunc[conch/api.Item] -/
noncomputable def AxZc226 : CF := ⟨(.seq (.reg [⟨(.some 10), .mv (.r 1), .none⟩, ⟨(.some 8), .mv (.r 10), .none⟩])
 (.seq (.reg [⟨(.some 11), .mv (.r 2), .none⟩, ⟨(.some 12), .bin .sub (.r 11) (.c (.i (.ofNat (nat_lit 1)))), .none⟩, ⟨(.some 9), .mv (.r 12), .none⟩])
 (.block 0 (.loop (.seq (.seq (.reg [⟨(.some 13), .mv (.r 8), .none⟩, ⟨(.some 14), .mv (.r 9), .none⟩, ⟨(.some 15), .bin .lss (.r 13) (.r 14), .none⟩])
 (.cond (.r 15) .skip (.exit 0)))
 (.block 1 (.seq (.dreg [(⟨(.some 16), .mv (.r 0), .none⟩, false), (⟨(.some 17), .mv (.r 8), .none⟩, false), (⟨(.some 18), .mv (.r 0), .none⟩, false), (⟨(.some 19), .mv (.r 9), .none⟩, false), (⟨(.some 20), .mv (.r 0), .none⟩, false), (⟨(.some 21), .mv (.r 9), .none⟩, false), (⟨(.some 22), .ixSl 2 (.r 20) (.r 21), .none⟩, false), (⟨(.some 23), .lda 2 (.r 22), .none⟩, false), (⟨(.some 24), .mv (.r 0), .none⟩, false), (⟨(.some 25), .mv (.r 8), .none⟩, false), (⟨(.some 26), .ixSl 2 (.r 24) (.r 25), .none⟩, false), (⟨(.some 27), .lda 2 (.r 26), .none⟩, false), (⟨(.some 28), .ixSl 2 (.r 16) (.r 17), .none⟩, false), (⟨.none, .st 2 (.r 28) (.r 23), .none⟩, true), (⟨(.some 29), .ixSl 2 (.r 18) (.r 19), .none⟩, false), (⟨.none, .st 2 (.r 29) (.r 27), .none⟩, true)] [])
 (.seq (.reg [⟨(.some 30), .mv (.r 8), .none⟩, ⟨(.some 31), .bin .add (.r 30) (.c (.i (.ofNat (nat_lit 1)))), .none⟩, ⟨(.some 8), .mv (.r 31), .none⟩])
 (.reg [⟨(.some 32), .mv (.r 9), .none⟩, ⟨(.some 33), .bin .sub (.r 32) (.c (.i (.ofNat (nat_lit 1)))), .none⟩, ⟨(.some 9), .mv (.r 33), .none⟩]))))))))), 34, []⟩
theorem AxZok226 : cfOf AxZ 226 = some AxZc226 := by kernel_rfl
/- slices.partialInsertionSortCmpFunc[conch/api.Item] -/
noncomputable def AxZc227 : CF := ⟨(.seq (.reg [⟨(.some 8), .mv (.c (.b false)), .none⟩])
 (.seq (.reg [⟨(.some 13), .mv (.r 1), .none⟩, ⟨(.some 14), .bin .add (.r 13) (.c (.i (.ofNat (nat_lit 1)))), .none⟩, ⟨(.some 9), .mv (.r 14), .none⟩])
 (.seq (.seq (.reg [⟨(.some 10), .mv (.c (.i (.ofNat (nat_lit 0)))), .none⟩])
 (.block 0 (.loop (.seq (.seq (.reg [⟨(.some 15), .mv (.r 10), .none⟩, ⟨(.some 16), .bin .lss (.r 15) (.c (.i (.ofNat (nat_lit 5)))), .none⟩])
 (.cond (.r 16) .skip (.exit 0)))
 (.seq (.block 1 (.seq (.block 2 (.loop (.seq (.seq (.dreg [(⟨(.some 19), .mv (.r 9), .none⟩, false), (⟨(.some 20), .mv (.r 2), .none⟩, false), (⟨(.some 21), .bin .lss (.r 19) (.r 20), .none⟩, false), (⟨(.some 22), .mv (.r 21), .none⟩, false), (⟨(.some 23), .mv (.r 3), (.some (22, true))⟩, false), (⟨(.some 24), .mv (.r 0), (.some (22, true))⟩, false), (⟨(.some 25), .mv (.r 9), (.some (22, true))⟩, false), (⟨(.some 26), .ixSl 2 (.r 24) (.r 25), (.some (22, true))⟩, false), (⟨(.some 27), .lda 2 (.r 26), (.some (22, true))⟩, false), (⟨(.some 28), .mv (.r 0), (.some (22, true))⟩, false), (⟨(.some 29), .mv (.r 9), (.some (22, true))⟩, false), (⟨(.some 30), .bin .sub (.r 29) (.c (.i (.ofNat (nat_lit 1)))), (.some (22, true))⟩, false), (⟨(.some 31), .ixSl 2 (.r 28) (.r 30), (.some (22, true))⟩, false), (⟨(.some 32), .lda 2 (.r 31), (.some (22, true))⟩, false), (⟨(.some 33), .callv (.r 23) [(.r 27), (.r 32)], (.some (22, true))⟩, true), (⟨(.some 34), .bin .lss (.r 33) (.c (.i (.ofNat (nat_lit 0)))), (.some (22, true))⟩, false), (⟨(.some 35), .un .not (.r 34), (.some (22, true))⟩, false), (⟨(.some 36), .pick (.r 22) (.r 35) (.c (.b false)), .none⟩, false)] [])
 (.cond (.r 36) .skip (.exit 2)))
 (.block 3 (.reg [⟨(.some 37), .mv (.r 9), .none⟩, ⟨(.some 38), .bin .add (.r 37) (.c (.i (.ofNat (nat_lit 1)))), .none⟩, ⟨(.some 9), .mv (.r 38), .none⟩])))))
 (.seq (.seq (.reg [⟨(.some 39), .mv (.r 9), .none⟩, ⟨(.some 40), .mv (.r 2), .none⟩, ⟨(.some 41), .bin .eql (.r 39) (.r 40), .none⟩])
 (.cond (.r 41) (.seq (.reg [⟨(.some 8), .mv (.c (.b true)), .none⟩])
 .ret) .skip))
 (.seq (.seq (.reg [⟨(.some 42), .mv (.r 2), .none⟩, ⟨(.some 43), .mv (.r 1), .none⟩, ⟨(.some 44), .bin .sub (.r 42) (.r 43), .none⟩, ⟨(.some 45), .bin .lss (.r 44) (.c (.i (.ofNat (nat_lit 50)))), .none⟩])
 (.cond (.r 45) (.seq (.reg [⟨(.some 8), .mv (.c (.b false)), .none⟩])
 .ret) .skip))
 (.seq (.dreg [(⟨(.some 46), .mv (.r 0), .none⟩, false), (⟨(.some 47), .mv (.r 9), .none⟩, false), (⟨(.some 48), .mv (.r 0), .none⟩, false), (⟨(.some 49), .mv (.r 9), .none⟩, false), (⟨(.some 50), .bin .sub (.r 49) (.c (.i (.ofNat (nat_lit 1)))), .none⟩, false), (⟨(.some 51), .mv (.r 0), .none⟩, false), (⟨(.some 52), .mv (.r 9), .none⟩, false), (⟨(.some 53), .bin .sub (.r 52) (.c (.i (.ofNat (nat_lit 1)))), .none⟩, false), (⟨(.some 54), .ixSl 2 (.r 51) (.r 53), .none⟩, false), (⟨(.some 55), .lda 2 (.r 54), .none⟩, false), (⟨(.some 56), .mv (.r 0), .none⟩, false), (⟨(.some 57), .mv (.r 9), .none⟩, false), (⟨(.some 58), .ixSl 2 (.r 56) (.r 57), .none⟩, false), (⟨(.some 59), .lda 2 (.r 58), .none⟩, false), (⟨(.some 60), .ixSl 2 (.r 46) (.r 47), .none⟩, false), (⟨.none, .st 2 (.r 60) (.r 55), .none⟩, true), (⟨(.some 61), .ixSl 2 (.r 48) (.r 50), .none⟩, false), (⟨.none, .st 2 (.r 61) (.r 59), .none⟩, true)] [])
 (.seq (.seq (.reg [⟨(.some 62), .mv (.r 9), .none⟩, ⟨(.some 63), .mv (.r 1), .none⟩, ⟨(.some 64), .bin .sub (.r 62) (.r 63), .none⟩, ⟨(.some 65), .bin .geq (.r 64) (.c (.i (.ofNat (nat_lit 2)))), .none⟩])
 (.cond (.r 65) (.seq (.reg [⟨(.some 66), .mv (.r 9), .none⟩, ⟨(.some 67), .bin .sub (.r 66) (.c (.i (.ofNat (nat_lit 1)))), .none⟩, ⟨(.some 11), .mv (.r 67), .none⟩])
 (.block 4 (.loop (.seq (.seq (.reg [⟨(.some 68), .mv (.r 11), .none⟩, ⟨(.some 69), .bin .geq (.r 68) (.c (.i (.ofNat (nat_lit 1)))), .none⟩])
 (.cond (.r 69) .skip (.exit 4)))
 (.seq (.block 5 (.seq (.seq (.dreg [(⟨(.some 72), .mv (.r 3), .none⟩, false), (⟨(.some 73), .mv (.r 0), .none⟩, false), (⟨(.some 74), .mv (.r 11), .none⟩, false), (⟨(.some 75), .ixSl 2 (.r 73) (.r 74), .none⟩, false), (⟨(.some 76), .lda 2 (.r 75), .none⟩, false), (⟨(.some 77), .mv (.r 0), .none⟩, false), (⟨(.some 78), .mv (.r 11), .none⟩, false), (⟨(.some 79), .bin .sub (.r 78) (.c (.i (.ofNat (nat_lit 1)))), .none⟩, false), (⟨(.some 80), .ixSl 2 (.r 77) (.r 79), .none⟩, false), (⟨(.some 81), .lda 2 (.r 80), .none⟩, false), (⟨(.some 82), .callv (.r 72) [(.r 76), (.r 81)], .none⟩, true), (⟨(.some 83), .bin .lss (.r 82) (.c (.i (.ofNat (nat_lit 0)))), .none⟩, false), (⟨(.some 84), .un .not (.r 83), .none⟩, false)] [])
 (.cond (.r 84) (.exit 4) .skip))
 (.dreg [(⟨(.some 85), .mv (.r 0), .none⟩, false), (⟨(.some 86), .mv (.r 11), .none⟩, false), (⟨(.some 87), .mv (.r 0), .none⟩, false), (⟨(.some 88), .mv (.r 11), .none⟩, false), (⟨(.some 89), .bin .sub (.r 88) (.c (.i (.ofNat (nat_lit 1)))), .none⟩, false), (⟨(.some 90), .mv (.r 0), .none⟩, false), (⟨(.some 91), .mv (.r 11), .none⟩, false), (⟨(.some 92), .bin .sub (.r 91) (.c (.i (.ofNat (nat_lit 1)))), .none⟩, false), (⟨(.some 93), .ixSl 2 (.r 90) (.r 92), .none⟩, false), (⟨(.some 94), .lda 2 (.r 93), .none⟩, false), (⟨(.some 95), .mv (.r 0), .none⟩, false), (⟨(.some 96), .mv (.r 11), .none⟩, false), (⟨(.some 97), .ixSl 2 (.r 95) (.r 96), .none⟩, false), (⟨(.some 98), .lda 2 (.r 97), .none⟩, false), (⟨(.some 99), .ixSl 2 (.r 85) (.r 86), .none⟩, false), (⟨.none, .st 2 (.r 99) (.r 94), .none⟩, true), (⟨(.some 100), .ixSl 2 (.r 87) (.r 89), .none⟩, false), (⟨.none, .st 2 (.r 100) (.r 98), .none⟩, true)] [])))
 (.reg [⟨(.some 70), .mv (.r 11), .none⟩, ⟨(.some 71), .bin .sub (.r 70) (.c (.i (.ofNat (nat_lit 1)))), .none⟩, ⟨(.some 11), .mv (.r 71), .none⟩])))))) .skip))
 (.seq (.reg [⟨(.some 101), .mv (.r 2), .none⟩, ⟨(.some 102), .mv (.r 9), .none⟩, ⟨(.some 103), .bin .sub (.r 101) (.r 102), .none⟩, ⟨(.some 104), .bin .geq (.r 103) (.c (.i (.ofNat (nat_lit 2)))), .none⟩])
 (.cond (.r 104) (.seq (.reg [⟨(.some 105), .mv (.r 9), .none⟩, ⟨(.some 106), .bin .add (.r 105) (.c (.i (.ofNat (nat_lit 1)))), .none⟩, ⟨(.some 12), .mv (.r 106), .none⟩])
 (.block 6 (.loop (.seq (.seq (.reg [⟨(.some 107), .mv (.r 12), .none⟩, ⟨(.some 108), .mv (.r 2), .none⟩, ⟨(.some 109), .bin .lss (.r 107) (.r 108), .none⟩])
 (.cond (.r 109) .skip (.exit 6)))
 (.seq (.block 7 (.seq (.seq (.dreg [(⟨(.some 112), .mv (.r 3), .none⟩, false), (⟨(.some 113), .mv (.r 0), .none⟩, false), (⟨(.some 114), .mv (.r 12), .none⟩, false), (⟨(.some 115), .ixSl 2 (.r 113) (.r 114), .none⟩, false), (⟨(.some 116), .lda 2 (.r 115), .none⟩, false), (⟨(.some 117), .mv (.r 0), .none⟩, false), (⟨(.some 118), .mv (.r 12), .none⟩, false), (⟨(.some 119), .bin .sub (.r 118) (.c (.i (.ofNat (nat_lit 1)))), .none⟩, false), (⟨(.some 120), .ixSl 2 (.r 117) (.r 119), .none⟩, false), (⟨(.some 121), .lda 2 (.r 120), .none⟩, false), (⟨(.some 122), .callv (.r 112) [(.r 116), (.r 121)], .none⟩, true), (⟨(.some 123), .bin .lss (.r 122) (.c (.i (.ofNat (nat_lit 0)))), .none⟩, false), (⟨(.some 124), .un .not (.r 123), .none⟩, false)] [])
 (.cond (.r 124) (.exit 6) .skip))
 (.dreg [(⟨(.some 125), .mv (.r 0), .none⟩, false), (⟨(.some 126), .mv (.r 12), .none⟩, false), (⟨(.some 127), .mv (.r 0), .none⟩, false), (⟨(.some 128), .mv (.r 12), .none⟩, false), (⟨(.some 129), .bin .sub (.r 128) (.c (.i (.ofNat (nat_lit 1)))), .none⟩, false), (⟨(.some 130), .mv (.r 0), .none⟩, false), (⟨(.some 131), .mv (.r 12), .none⟩, false), (⟨(.some 132), .bin .sub (.r 131) (.c (.i (.ofNat (nat_lit 1)))), .none⟩, false), (⟨(.some 133), .ixSl 2 (.r 130) (.r 132), .none⟩, false), (⟨(.some 134), .lda 2 (.r 133), .none⟩, false), (⟨(.some 135), .mv (.r 0), .none⟩, false), (⟨(.some 136), .mv (.r 12), .none⟩, false), (⟨(.some 137), .ixSl 2 (.r 135) (.r 136), .none⟩, false), (⟨(.some 138), .lda 2 (.r 137), .none⟩, false), (⟨(.some 139), .ixSl 2 (.r 125) (.r 126), .none⟩, false), (⟨.none, .st 2 (.r 139) (.r 134), .none⟩, true), (⟨(.some 140), .ixSl 2 (.r 127) (.r 129), .none⟩, false), (⟨.none, .st 2 (.r 140) (.r 138), .none⟩, true)] [])))
 (.reg [⟨(.some 110), .mv (.r 12), .none⟩, ⟨(.some 111), .bin .add (.r 110) (.c (.i (.ofNat (nat_lit 1)))), .none⟩, ⟨(.some 12), .mv (.r 111), .none⟩])))))) .skip))))))))
 (.reg [⟨(.some 17), .mv (.r 10), .none⟩, ⟨(.some 18), .bin .add (.r 17) (.c (.i (.ofNat (nat_lit 1)))), .none⟩, ⟨(.some 10), .mv (.r 18), .none⟩]))))))
 (.seq (.reg [⟨(.some 8), .mv (.c (.b false)), .none⟩])
 .ret)))), 141, [.tmp 8]⟩
theorem AxZok227 : cfOf AxZ 227 = some AxZc227 := by kernel_rfl
/- slices.partitionEqualCmpFunc[conch/api.Item] -/
noncomputable def AxZc228 : CF := ⟨(.seq (.reg [⟨(.some 10), .mv (.c (.i (.ofNat (nat_lit 0)))), .none⟩])
 (.seq (.dreg [(⟨(.some 13), .mv (.r 0), .none⟩, false), (⟨(.some 14), .mv (.r 1), .none⟩, false), (⟨(.some 15), .mv (.r 0), .none⟩, false), (⟨(.some 16), .mv (.r 3), .none⟩, false), (⟨(.some 17), .mv (.r 0), .none⟩, false), (⟨(.some 18), .mv (.r 3), .none⟩, false), (⟨(.some 19), .ixSl 2 (.r 17) (.r 18), .none⟩, false), (⟨(.some 20), .lda 2 (.r 19), .none⟩, false), (⟨(.some 21), .mv (.r 0), .none⟩, false), (⟨(.some 22), .mv (.r 1), .none⟩, false), (⟨(.some 23), .ixSl 2 (.r 21) (.r 22), .none⟩, false), (⟨(.some 24), .lda 2 (.r 23), .none⟩, false), (⟨(.some 25), .ixSl 2 (.r 13) (.r 14), .none⟩, false), (⟨.none, .st 2 (.r 25) (.r 20), .none⟩, true), (⟨(.some 26), .ixSl 2 (.r 15) (.r 16), .none⟩, false), (⟨.none, .st 2 (.r 26) (.r 24), .none⟩, true)] [])
 (.seq (.reg [⟨(.some 27), .mv (.r 1), .none⟩, ⟨(.some 28), .bin .add (.r 27) (.c (.i (.ofNat (nat_lit 1)))), .none⟩, ⟨(.some 29), .mv (.r 2), .none⟩, ⟨(.some 30), .bin .sub (.r 29) (.c (.i (.ofNat (nat_lit 1)))), .none⟩, ⟨(.some 11), .mv (.r 28), .none⟩, ⟨(.some 12), .mv (.r 30), .none⟩])
 (.seq (.block 0 (.loop (.block 1 (.seq (.block 2 (.loop (.seq (.seq (.dreg [(⟨(.some 31), .mv (.r 11), .none⟩, false), (⟨(.some 32), .mv (.r 12), .none⟩, false), (⟨(.some 33), .bin .leq (.r 31) (.r 32), .none⟩, false), (⟨(.some 34), .mv (.r 33), .none⟩, false), (⟨(.some 35), .mv (.r 4), (.some (34, true))⟩, false), (⟨(.some 36), .mv (.r 0), (.some (34, true))⟩, false), (⟨(.some 37), .mv (.r 1), (.some (34, true))⟩, false), (⟨(.some 38), .ixSl 2 (.r 36) (.r 37), (.some (34, true))⟩, false), (⟨(.some 39), .lda 2 (.r 38), (.some (34, true))⟩, false), (⟨(.some 40), .mv (.r 0), (.some (34, true))⟩, false), (⟨(.some 41), .mv (.r 11), (.some (34, true))⟩, false), (⟨(.some 42), .ixSl 2 (.r 40) (.r 41), (.some (34, true))⟩, false), (⟨(.some 43), .lda 2 (.r 42), (.some (34, true))⟩, false), (⟨(.some 44), .callv (.r 35) [(.r 39), (.r 43)], (.some (34, true))⟩, true), (⟨(.some 45), .bin .lss (.r 44) (.c (.i (.ofNat (nat_lit 0)))), (.some (34, true))⟩, false), (⟨(.some 46), .un .not (.r 45), (.some (34, true))⟩, false), (⟨(.some 47), .pick (.r 34) (.r 46) (.c (.b false)), .none⟩, false)] [])
 (.cond (.r 47) .skip (.exit 2)))
 (.block 3 (.reg [⟨(.some 48), .mv (.r 11), .none⟩, ⟨(.some 49), .bin .add (.r 48) (.c (.i (.ofNat (nat_lit 1)))), .none⟩, ⟨(.some 11), .mv (.r 49), .none⟩])))))
 (.seq (.block 4 (.loop (.seq (.seq (.dreg [(⟨(.some 50), .mv (.r 11), .none⟩, false), (⟨(.some 51), .mv (.r 12), .none⟩, false), (⟨(.some 52), .bin .leq (.r 50) (.r 51), .none⟩, false), (⟨(.some 53), .mv (.r 52), .none⟩, false), (⟨(.some 54), .mv (.r 4), (.some (53, true))⟩, false), (⟨(.some 55), .mv (.r 0), (.some (53, true))⟩, false), (⟨(.some 56), .mv (.r 1), (.some (53, true))⟩, false), (⟨(.some 57), .ixSl 2 (.r 55) (.r 56), (.some (53, true))⟩, false), (⟨(.some 58), .lda 2 (.r 57), (.some (53, true))⟩, false), (⟨(.some 59), .mv (.r 0), (.some (53, true))⟩, false), (⟨(.some 60), .mv (.r 12), (.some (53, true))⟩, false), (⟨(.some 61), .ixSl 2 (.r 59) (.r 60), (.some (53, true))⟩, false), (⟨(.some 62), .lda 2 (.r 61), (.some (53, true))⟩, false), (⟨(.some 63), .callv (.r 54) [(.r 58), (.r 62)], (.some (53, true))⟩, true), (⟨(.some 64), .bin .lss (.r 63) (.c (.i (.ofNat (nat_lit 0)))), (.some (53, true))⟩, false), (⟨(.some 65), .pick (.r 53) (.r 64) (.c (.b false)), .none⟩, false)] [])
 (.cond (.r 65) .skip (.exit 4)))
 (.block 5 (.reg [⟨(.some 66), .mv (.r 12), .none⟩, ⟨(.some 67), .bin .sub (.r 66) (.c (.i (.ofNat (nat_lit 1)))), .none⟩, ⟨(.some 12), .mv (.r 67), .none⟩])))))
 (.seq (.seq (.reg [⟨(.some 68), .mv (.r 11), .none⟩, ⟨(.some 69), .mv (.r 12), .none⟩, ⟨(.some 70), .bin .gtr (.r 68) (.r 69), .none⟩])
 (.cond (.r 70) (.exit 0) .skip))
 (.seq (.dreg [(⟨(.some 71), .mv (.r 0), .none⟩, false), (⟨(.some 72), .mv (.r 11), .none⟩, false), (⟨(.some 73), .mv (.r 0), .none⟩, false), (⟨(.some 74), .mv (.r 12), .none⟩, false), (⟨(.some 75), .mv (.r 0), .none⟩, false), (⟨(.some 76), .mv (.r 12), .none⟩, false), (⟨(.some 77), .ixSl 2 (.r 75) (.r 76), .none⟩, false), (⟨(.some 78), .lda 2 (.r 77), .none⟩, false), (⟨(.some 79), .mv (.r 0), .none⟩, false), (⟨(.some 80), .mv (.r 11), .none⟩, false), (⟨(.some 81), .ixSl 2 (.r 79) (.r 80), .none⟩, false), (⟨(.some 82), .lda 2 (.r 81), .none⟩, false), (⟨(.some 83), .ixSl 2 (.r 71) (.r 72), .none⟩, false), (⟨.none, .st 2 (.r 83) (.r 78), .none⟩, true), (⟨(.some 84), .ixSl 2 (.r 73) (.r 74), .none⟩, false), (⟨.none, .st 2 (.r 84) (.r 82), .none⟩, true)] [])
 (.seq (.reg [⟨(.some 85), .mv (.r 11), .none⟩, ⟨(.some 86), .bin .add (.r 85) (.c (.i (.ofNat (nat_lit 1)))), .none⟩, ⟨(.some 11), .mv (.r 86), .none⟩])
 (.reg [⟨(.some 87), .mv (.r 12), .none⟩, ⟨(.some 88), .bin .sub (.r 87) (.c (.i (.ofNat (nat_lit 1)))), .none⟩, ⟨(.some 12), .mv (.r 88), .none⟩])))))))))
 (.seq (.reg [⟨(.some 89), .mv (.r 11), .none⟩, ⟨(.some 10), .mv (.r 89), .none⟩])
 .ret))))), 90, [.tmp 10]⟩
theorem AxZok228 : cfOf AxZ 228 = some AxZc228 := by kernel_rfl
/- slices.partitionCmpFunc[conch/api.Item] -/
noncomputable def AxZc229 : CF := ⟨(.seq (.reg [⟨(.some 10), .mv (.c (.i (.ofNat (nat_lit 0)))), .none⟩, ⟨(.some 11), .mv (.c (.b false)), .none⟩])
 (.seq (.dreg [(⟨(.some 14), .mv (.r 0), .none⟩, false), (⟨(.some 15), .mv (.r 1), .none⟩, false), (⟨(.some 16), .mv (.r 0), .none⟩, false), (⟨(.some 17), .mv (.r 3), .none⟩, false), (⟨(.some 18), .mv (.r 0), .none⟩, false), (⟨(.some 19), .mv (.r 3), .none⟩, false), (⟨(.some 20), .ixSl 2 (.r 18) (.r 19), .none⟩, false), (⟨(.some 21), .lda 2 (.r 20), .none⟩, false), (⟨(.some 22), .mv (.r 0), .none⟩, false), (⟨(.some 23), .mv (.r 1), .none⟩, false), (⟨(.some 24), .ixSl 2 (.r 22) (.r 23), .none⟩, false), (⟨(.some 25), .lda 2 (.r 24), .none⟩, false), (⟨(.some 26), .ixSl 2 (.r 14) (.r 15), .none⟩, false), (⟨.none, .st 2 (.r 26) (.r 21), .none⟩, true), (⟨(.some 27), .ixSl 2 (.r 16) (.r 17), .none⟩, false), (⟨.none, .st 2 (.r 27) (.r 25), .none⟩, true)] [])
 (.seq (.reg [⟨(.some 28), .mv (.r 1), .none⟩, ⟨(.some 29), .bin .add (.r 28) (.c (.i (.ofNat (nat_lit 1)))), .none⟩, ⟨(.some 30), .mv (.r 2), .none⟩, ⟨(.some 31), .bin .sub (.r 30) (.c (.i (.ofNat (nat_lit 1)))), .none⟩, ⟨(.some 12), .mv (.r 29), .none⟩, ⟨(.some 13), .mv (.r 31), .none⟩])
 (.seq (.block 0 (.loop (.seq (.seq (.dreg [(⟨(.some 32), .mv (.r 12), .none⟩, false), (⟨(.some 33), .mv (.r 13), .none⟩, false), (⟨(.some 34), .bin .leq (.r 32) (.r 33), .none⟩, false), (⟨(.some 35), .mv (.r 34), .none⟩, false), (⟨(.some 36), .mv (.r 4), (.some (35, true))⟩, false), (⟨(.some 37), .mv (.r 0), (.some (35, true))⟩, false), (⟨(.some 38), .mv (.r 12), (.some (35, true))⟩, false), (⟨(.some 39), .ixSl 2 (.r 37) (.r 38), (.some (35, true))⟩, false), (⟨(.some 40), .lda 2 (.r 39), (.some (35, true))⟩, false), (⟨(.some 41), .mv (.r 0), (.some (35, true))⟩, false), (⟨(.some 42), .mv (.r 1), (.some (35, true))⟩, false), (⟨(.some 43), .ixSl 2 (.r 41) (.r 42), (.some (35, true))⟩, false), (⟨(.some 44), .lda 2 (.r 43), (.some (35, true))⟩, false), (⟨(.some 45), .callv (.r 36) [(.r 40), (.r 44)], (.some (35, true))⟩, true), (⟨(.some 46), .bin .lss (.r 45) (.c (.i (.ofNat (nat_lit 0)))), (.some (35, true))⟩, false), (⟨(.some 47), .pick (.r 35) (.r 46) (.c (.b false)), .none⟩, false)] [])
 (.cond (.r 47) .skip (.exit 0)))
 (.block 1 (.reg [⟨(.some 48), .mv (.r 12), .none⟩, ⟨(.some 49), .bin .add (.r 48) (.c (.i (.ofNat (nat_lit 1)))), .none⟩, ⟨(.some 12), .mv (.r 49), .none⟩])))))
 (.seq (.block 2 (.loop (.seq (.seq (.dreg [(⟨(.some 50), .mv (.r 12), .none⟩, false), (⟨(.some 51), .mv (.r 13), .none⟩, false), (⟨(.some 52), .bin .leq (.r 50) (.r 51), .none⟩, false), (⟨(.some 53), .mv (.r 52), .none⟩, false), (⟨(.some 54), .mv (.r 4), (.some (53, true))⟩, false), (⟨(.some 55), .mv (.r 0), (.some (53, true))⟩, false), (⟨(.some 56), .mv (.r 13), (.some (53, true))⟩, false), (⟨(.some 57), .ixSl 2 (.r 55) (.r 56), (.some (53, true))⟩, false), (⟨(.some 58), .lda 2 (.r 57), (.some (53, true))⟩, false), (⟨(.some 59), .mv (.r 0), (.some (53, true))⟩, false), (⟨(.some 60), .mv (.r 1), (.some (53, true))⟩, false), (⟨(.some 61), .ixSl 2 (.r 59) (.r 60), (.some (53, true))⟩, false), (⟨(.some 62), .lda 2 (.r 61), (.some (53, true))⟩, false), (⟨(.some 63), .callv (.r 54) [(.r 58), (.r 62)], (.some (53, true))⟩, true), (⟨(.some 64), .bin .lss (.r 63) (.c (.i (.ofNat (nat_lit 0)))), (.some (53, true))⟩, false), (⟨(.some 65), .un .not (.r 64), (.some (53, true))⟩, false), (⟨(.some 66), .pick (.r 53) (.r 65) (.c (.b false)), .none⟩, false)] [])
 (.cond (.r 66) .skip (.exit 2)))
 (.block 3 (.reg [⟨(.some 67), .mv (.r 13), .none⟩, ⟨(.some 68), .bin .sub (.r 67) (.c (.i (.ofNat (nat_lit 1)))), .none⟩, ⟨(.some 13), .mv (.r 68), .none⟩])))))
 (.seq (.seq (.reg [⟨(.some 69), .mv (.r 12), .none⟩, ⟨(.some 70), .mv (.r 13), .none⟩, ⟨(.some 71), .bin .gtr (.r 69) (.r 70), .none⟩])
 (.cond (.r 71) (.seq (.dreg [(⟨(.some 72), .mv (.r 0), .none⟩, false), (⟨(.some 73), .mv (.r 13), .none⟩, false), (⟨(.some 74), .mv (.r 0), .none⟩, false), (⟨(.some 75), .mv (.r 1), .none⟩, false), (⟨(.some 76), .mv (.r 0), .none⟩, false), (⟨(.some 77), .mv (.r 1), .none⟩, false), (⟨(.some 78), .ixSl 2 (.r 76) (.r 77), .none⟩, false), (⟨(.some 79), .lda 2 (.r 78), .none⟩, false), (⟨(.some 80), .mv (.r 0), .none⟩, false), (⟨(.some 81), .mv (.r 13), .none⟩, false), (⟨(.some 82), .ixSl 2 (.r 80) (.r 81), .none⟩, false), (⟨(.some 83), .lda 2 (.r 82), .none⟩, false), (⟨(.some 84), .ixSl 2 (.r 72) (.r 73), .none⟩, false), (⟨.none, .st 2 (.r 84) (.r 79), .none⟩, true), (⟨(.some 85), .ixSl 2 (.r 74) (.r 75), .none⟩, false), (⟨.none, .st 2 (.r 85) (.r 83), .none⟩, true)] [])
 (.seq (.reg [⟨(.some 86), .mv (.r 13), .none⟩, ⟨(.some 10), .mv (.r 86), .none⟩, ⟨(.some 11), .mv (.c (.b true)), .none⟩])
 .ret)) .skip))
 (.seq (.dreg [(⟨(.some 87), .mv (.r 0), .none⟩, false), (⟨(.some 88), .mv (.r 12), .none⟩, false), (⟨(.some 89), .mv (.r 0), .none⟩, false), (⟨(.some 90), .mv (.r 13), .none⟩, false), (⟨(.some 91), .mv (.r 0), .none⟩, false), (⟨(.some 92), .mv (.r 13), .none⟩, false), (⟨(.some 93), .ixSl 2 (.r 91) (.r 92), .none⟩, false), (⟨(.some 94), .lda 2 (.r 93), .none⟩, false), (⟨(.some 95), .mv (.r 0), .none⟩, false), (⟨(.some 96), .mv (.r 12), .none⟩, false), (⟨(.some 97), .ixSl 2 (.r 95) (.r 96), .none⟩, false), (⟨(.some 98), .lda 2 (.r 97), .none⟩, false), (⟨(.some 99), .ixSl 2 (.r 87) (.r 88), .none⟩, false), (⟨.none, .st 2 (.r 99) (.r 94), .none⟩, true), (⟨(.some 100), .ixSl 2 (.r 89) (.r 90), .none⟩, false), (⟨.none, .st 2 (.r 100) (.r 98), .none⟩, true)] [])
 (.seq (.reg [⟨(.some 101), .mv (.r 12), .none⟩, ⟨(.some 102), .bin .add (.r 101) (.c (.i (.ofNat (nat_lit 1)))), .none⟩, ⟨(.some 12), .mv (.r 102), .none⟩])
 (.seq (.reg [⟨(.some 103), .mv (.r 13), .none⟩, ⟨(.some 104), .bin .sub (.r 103) (.c (.i (.ofNat (nat_lit 1)))), .none⟩, ⟨(.some 13), .mv (.r 104), .none⟩])
 (.seq (.block 4 (.loop (.block 5 (.seq (.block 6 (.loop (.seq (.seq (.dreg [(⟨(.some 105), .mv (.r 12), .none⟩, false), (⟨(.some 106), .mv (.r 13), .none⟩, false), (⟨(.some 107), .bin .leq (.r 105) (.r 106), .none⟩, false), (⟨(.some 108), .mv (.r 107), .none⟩, false), (⟨(.some 109), .mv (.r 4), (.some (108, true))⟩, false), (⟨(.some 110), .mv (.r 0), (.some (108, true))⟩, false), (⟨(.some 111), .mv (.r 12), (.some (108, true))⟩, false), (⟨(.some 112), .ixSl 2 (.r 110) (.r 111), (.some (108, true))⟩, false), (⟨(.some 113), .lda 2 (.r 112), (.some (108, true))⟩, false), (⟨(.some 114), .mv (.r 0), (.some (108, true))⟩, false), (⟨(.some 115), .mv (.r 1), (.some (108, true))⟩, false), (⟨(.some 116), .ixSl 2 (.r 114) (.r 115), (.some (108, true))⟩, false), (⟨(.some 117), .lda 2 (.r 116), (.some (108, true))⟩, false), (⟨(.some 118), .callv (.r 109) [(.r 113), (.r 117)], (.some (108, true))⟩, true), (⟨(.some 119), .bin .lss (.r 118) (.c (.i (.ofNat (nat_lit 0)))), (.some (108, true))⟩, false), (⟨(.some 120), .pick (.r 108) (.r 119) (.c (.b false)), .none⟩, false)] [])
 (.cond (.r 120) .skip (.exit 6)))
 (.block 7 (.reg [⟨(.some 121), .mv (.r 12), .none⟩, ⟨(.some 122), .bin .add (.r 121) (.c (.i (.ofNat (nat_lit 1)))), .none⟩, ⟨(.some 12), .mv (.r 122), .none⟩])))))
 (.seq (.block 8 (.loop (.seq (.seq (.dreg [(⟨(.some 123), .mv (.r 12), .none⟩, false), (⟨(.some 124), .mv (.r 13), .none⟩, false), (⟨(.some 125), .bin .leq (.r 123) (.r 124), .none⟩, false), (⟨(.some 126), .mv (.r 125), .none⟩, false), (⟨(.some 127), .mv (.r 4), (.some (126, true))⟩, false), (⟨(.some 128), .mv (.r 0), (.some (126, true))⟩, false), (⟨(.some 129), .mv (.r 13), (.some (126, true))⟩, false), (⟨(.some 130), .ixSl 2 (.r 128) (.r 129), (.some (126, true))⟩, false), (⟨(.some 131), .lda 2 (.r 130), (.some (126, true))⟩, false), (⟨(.some 132), .mv (.r 0), (.some (126, true))⟩, false), (⟨(.some 133), .mv (.r 1), (.some (126, true))⟩, false), (⟨(.some 134), .ixSl 2 (.r 132) (.r 133), (.some (126, true))⟩, false), (⟨(.some 135), .lda 2 (.r 134), (.some (126, true))⟩, false), (⟨(.some 136), .callv (.r 127) [(.r 131), (.r 135)], (.some (126, true))⟩, true), (⟨(.some 137), .bin .lss (.r 136) (.c (.i (.ofNat (nat_lit 0)))), (.some (126, true))⟩, false), (⟨(.some 138), .un .not (.r 137), (.some (126, true))⟩, false), (⟨(.some 139), .pick (.r 126) (.r 138) (.c (.b false)), .none⟩, false)] [])
 (.cond (.r 139) .skip (.exit 8)))
 (.block 9 (.reg [⟨(.some 140), .mv (.r 13), .none⟩, ⟨(.some 141), .bin .sub (.r 140) (.c (.i (.ofNat (nat_lit 1)))), .none⟩, ⟨(.some 13), .mv (.r 141), .none⟩])))))
 (.seq (.seq (.reg [⟨(.some 142), .mv (.r 12), .none⟩, ⟨(.some 143), .mv (.r 13), .none⟩, ⟨(.some 144), .bin .gtr (.r 142) (.r 143), .none⟩])
 (.cond (.r 144) (.exit 4) .skip))
 (.seq (.dreg [(⟨(.some 145), .mv (.r 0), .none⟩, false), (⟨(.some 146), .mv (.r 12), .none⟩, false), (⟨(.some 147), .mv (.r 0), .none⟩, false), (⟨(.some 148), .mv (.r 13), .none⟩, false), (⟨(.some 149), .mv (.r 0), .none⟩, false), (⟨(.some 150), .mv (.r 13), .none⟩, false), (⟨(.some 151), .ixSl 2 (.r 149) (.r 150), .none⟩, false), (⟨(.some 152), .lda 2 (.r 151), .none⟩, false), (⟨(.some 153), .mv (.r 0), .none⟩, false), (⟨(.some 154), .mv (.r 12), .none⟩, false), (⟨(.some 155), .ixSl 2 (.r 153) (.r 154), .none⟩, false), (⟨(.some 156), .lda 2 (.r 155), .none⟩, false), (⟨(.some 157), .ixSl 2 (.r 145) (.r 146), .none⟩, false), (⟨.none, .st 2 (.r 157) (.r 152), .none⟩, true), (⟨(.some 158), .ixSl 2 (.r 147) (.r 148), .none⟩, false), (⟨.none, .st 2 (.r 158) (.r 156), .none⟩, true)] [])
 (.seq (.reg [⟨(.some 159), .mv (.r 12), .none⟩, ⟨(.some 160), .bin .add (.r 159) (.c (.i (.ofNat (nat_lit 1)))), .none⟩, ⟨(.some 12), .mv (.r 160), .none⟩])
 (.reg [⟨(.some 161), .mv (.r 13), .none⟩, ⟨(.some 162), .bin .sub (.r 161) (.c (.i (.ofNat (nat_lit 1)))), .none⟩, ⟨(.some 13), .mv (.r 162), .none⟩])))))))))
 (.seq (.dreg [(⟨(.some 163), .mv (.r 0), .none⟩, false), (⟨(.some 164), .mv (.r 13), .none⟩, false), (⟨(.some 165), .mv (.r 0), .none⟩, false), (⟨(.some 166), .mv (.r 1), .none⟩, false), (⟨(.some 167), .mv (.r 0), .none⟩, false), (⟨(.some 168), .mv (.r 1), .none⟩, false), (⟨(.some 169), .ixSl 2 (.r 167) (.r 168), .none⟩, false), (⟨(.some 170), .lda 2 (.r 169), .none⟩, false), (⟨(.some 171), .mv (.r 0), .none⟩, false), (⟨(.some 172), .mv (.r 13), .none⟩, false), (⟨(.some 173), .ixSl 2 (.r 171) (.r 172), .none⟩, false), (⟨(.some 174), .lda 2 (.r 173), .none⟩, false), (⟨(.some 175), .ixSl 2 (.r 163) (.r 164), .none⟩, false), (⟨.none, .st 2 (.r 175) (.r 170), .none⟩, true), (⟨(.some 176), .ixSl 2 (.r 165) (.r 166), .none⟩, false), (⟨.none, .st 2 (.r 176) (.r 174), .none⟩, true)] [])
 (.seq (.reg [⟨(.some 177), .mv (.r 13), .none⟩, ⟨(.some 10), .mv (.r 177), .none⟩, ⟨(.some 11), .mv (.c (.b false)), .none⟩])
 .ret)))))))))))), 178, [.tmp 10, .tmp 11]⟩
theorem AxZok229 : cfOf AxZ 229 = some AxZc229 := by kernel_rfl
/- math/bits.Len32 -/
noncomputable def AxZc230 : CF := ⟨(.seq (.reg [⟨(.some 2), .mv (.c (.i (.ofNat (nat_lit 0)))), .none⟩])
 (.seq (.seq (.reg [⟨(.some 3), .mv (.r 0), .none⟩, ⟨(.some 4), .bin .geq (.r 3) (.c (.u .u32 (.ofNat (nat_lit 65536)))), .none⟩])
 (.cond (.r 4) (.seq (.reg [⟨(.some 5), .mv (.r 0), .none⟩, ⟨(.some 6), .bin .shr (.r 5) (.c (.u .u64 (.ofNat (nat_lit 16)))), .none⟩, ⟨(.some 0), .mv (.r 6), .none⟩])
 (.reg [⟨(.some 2), .mv (.c (.i (.ofNat (nat_lit 16)))), .none⟩])) .skip))
 (.seq (.seq (.reg [⟨(.some 7), .mv (.r 0), .none⟩, ⟨(.some 8), .bin .geq (.r 7) (.c (.u .u32 (.ofNat (nat_lit 256)))), .none⟩])
 (.cond (.r 8) (.seq (.reg [⟨(.some 9), .mv (.r 0), .none⟩, ⟨(.some 10), .bin .shr (.r 9) (.c (.u .u64 (.ofNat (nat_lit 8)))), .none⟩, ⟨(.some 0), .mv (.r 10), .none⟩])
 (.reg [⟨(.some 11), .mv (.r 2), .none⟩, ⟨(.some 12), .bin .add (.r 11) (.c (.i (.ofNat (nat_lit 8)))), .none⟩, ⟨(.some 2), .mv (.r 12), .none⟩])) .skip))
 (.seq (.reg [⟨(.some 13), .mv (.r 2), .none⟩, ⟨(.some 14), .mv (.r 0), .none⟩, ⟨(.some 15), .cvInt .u8 (.r 14), .none⟩, ⟨(.some 16), .idxStr (.c (.s 256 (nat_lit 1013866857139168856493015739252390649739422828853819106890363778118420553376247557433637691341895324351018602695588957474325319502760499485336098898398377509666851054660423406800006203933793007272033180812049178612605246075062580585469430410618860250057463399279570354286669047577758927328864388992123306212451509403152394148136105363817402562688186708175358218852349079190158732807302672745370040257219644697201681238697346923541678507645485296520536209706771857694240900605172937619415410180424934769249448772944216470541052485265558808433676546390051204254346932932316488017972311616136051587427851453983453479168))) (.r 15), .none⟩, ⟨(.some 17), .cvInt .i64 (.r 16), .none⟩, ⟨(.some 18), .bin .add (.r 13) (.r 17), .none⟩, ⟨(.some 2), .mv (.r 18), .none⟩])
 .ret)))), 19, [.tmp 2]⟩
theorem AxZok230 : cfOf AxZ 230 = some AxZc230 := by kernel_rfl
/- math/bits.Len64 -/
noncomputable def AxZc231 : CF := ⟨(.seq (.reg [⟨(.some 2), .mv (.c (.i (.ofNat (nat_lit 0)))), .none⟩])
 (.seq (.seq (.reg [⟨(.some 3), .mv (.r 0), .none⟩, ⟨(.some 4), .bin .geq (.r 3) (.c (.u .u64 (.ofNat (nat_lit 4294967296)))), .none⟩])
 (.cond (.r 4) (.seq (.reg [⟨(.some 5), .mv (.r 0), .none⟩, ⟨(.some 6), .bin .shr (.r 5) (.c (.u .u64 (.ofNat (nat_lit 32)))), .none⟩, ⟨(.some 0), .mv (.r 6), .none⟩])
 (.reg [⟨(.some 2), .mv (.c (.i (.ofNat (nat_lit 32)))), .none⟩])) .skip))
 (.seq (.seq (.reg [⟨(.some 7), .mv (.r 0), .none⟩, ⟨(.some 8), .bin .geq (.r 7) (.c (.u .u64 (.ofNat (nat_lit 65536)))), .none⟩])
 (.cond (.r 8) (.seq (.reg [⟨(.some 9), .mv (.r 0), .none⟩, ⟨(.some 10), .bin .shr (.r 9) (.c (.u .u64 (.ofNat (nat_lit 16)))), .none⟩, ⟨(.some 0), .mv (.r 10), .none⟩])
 (.reg [⟨(.some 11), .mv (.r 2), .none⟩, ⟨(.some 12), .bin .add (.r 11) (.c (.i (.ofNat (nat_lit 16)))), .none⟩, ⟨(.some 2), .mv (.r 12), .none⟩])) .skip))
 (.seq (.seq (.reg [⟨(.some 13), .mv (.r 0), .none⟩, ⟨(.some 14), .bin .geq (.r 13) (.c (.u .u64 (.ofNat (nat_lit 256)))), .none⟩])
 (.cond (.r 14) (.seq (.reg [⟨(.some 15), .mv (.r 0), .none⟩, ⟨(.some 16), .bin .shr (.r 15) (.c (.u .u64 (.ofNat (nat_lit 8)))), .none⟩, ⟨(.some 0), .mv (.r 16), .none⟩])
 (.reg [⟨(.some 17), .mv (.r 2), .none⟩, ⟨(.some 18), .bin .add (.r 17) (.c (.i (.ofNat (nat_lit 8)))), .none⟩, ⟨(.some 2), .mv (.r 18), .none⟩])) .skip))
 (.seq (.reg [⟨(.some 19), .mv (.r 2), .none⟩, ⟨(.some 20), .mv (.r 0), .none⟩, ⟨(.some 21), .cvInt .u8 (.r 20), .none⟩, ⟨(.some 22), .idxStr (.c (.s 256 (nat_lit 1013866857139168856493015739252390649739422828853819106890363778118420553376247557433637691341895324351018602695588957474325319502760499485336098898398377509666851054660423406800006203933793007272033180812049178612605246075062580585469430410618860250057463399279570354286669047577758927328864388992123306212451509403152394148136105363817402562688186708175358218852349079190158732807302672745370040257219644697201681238697346923541678507645485296520536209706771857694240900605172937619415410180424934769249448772944216470541052485265558808433676546390051204254346932932316488017972311616136051587427851453983453479168))) (.r 21), .none⟩, ⟨(.some 23), .cvInt .i64 (.r 22), .none⟩, ⟨(.some 24), .bin .add (.r 19) (.r 23), .none⟩, ⟨(.some 2), .mv (.r 24), .none⟩])
 .ret))))), 25, [.tmp 2]⟩
theorem AxZok231 : cfOf AxZ 231 = some AxZc231 := by kernel_rfl
/- internal/bytealg.hashStr[string] -/
noncomputable def AxZc232 : CF := ⟨(.seq (.reg [⟨(.some 2), .mv (.c (.u .u32 (.ofNat (nat_lit 0)))), .none⟩, ⟨(.some 3), .mv (.c (.u .u32 (.ofNat (nat_lit 0)))), .none⟩])
 (.seq (.reg [⟨(.some 4), .mv (.c (.u .u32 (.ofNat (nat_lit 0)))), .none⟩])
 (.seq (.seq (.reg [⟨(.some 5), .mv (.c (.i (.ofNat (nat_lit 0)))), .none⟩])
 (.block 0 (.loop (.seq (.seq (.reg [⟨(.some 9), .mv (.r 5), .none⟩, ⟨(.some 10), .mv (.r 0), .none⟩, ⟨(.some 11), .lenStr (.r 10), .none⟩, ⟨(.some 12), .bin .lss (.r 9) (.r 11), .none⟩])
 (.cond (.r 12) .skip (.exit 0)))
 (.seq (.block 1 (.reg [⟨(.some 15), .mv (.r 4), .none⟩, ⟨(.some 16), .bin .mul (.r 15) (.c (.u .u32 (.ofNat (nat_lit 16777619)))), .none⟩, ⟨(.some 17), .mv (.r 0), .none⟩, ⟨(.some 18), .mv (.r 5), .none⟩, ⟨(.some 19), .idxStr (.r 17) (.r 18), .none⟩, ⟨(.some 20), .cvInt .u32 (.r 19), .none⟩, ⟨(.some 21), .bin .add (.r 16) (.r 20), .none⟩, ⟨(.some 4), .mv (.r 21), .none⟩]))
 (.reg [⟨(.some 13), .mv (.r 5), .none⟩, ⟨(.some 14), .bin .add (.r 13) (.c (.i (.ofNat (nat_lit 1)))), .none⟩, ⟨(.some 5), .mv (.r 14), .none⟩]))))))
 (.seq (.reg [⟨(.some 6), .mv (.c (.u .u32 (.ofNat (nat_lit 1)))), .none⟩, ⟨(.some 7), .mv (.c (.u .u32 (.ofNat (nat_lit 16777619)))), .none⟩])
 (.seq (.seq (.reg [⟨(.some 22), .mv (.r 0), .none⟩, ⟨(.some 23), .lenStr (.r 22), .none⟩, ⟨(.some 8), .mv (.r 23), .none⟩])
 (.block 2 (.loop (.seq (.seq (.reg [⟨(.some 24), .mv (.r 8), .none⟩, ⟨(.some 25), .bin .gtr (.r 24) (.c (.i (.ofNat (nat_lit 0)))), .none⟩])
 (.cond (.r 25) .skip (.exit 2)))
 (.seq (.block 3 (.seq (.seq (.reg [⟨(.some 28), .mv (.r 8), .none⟩, ⟨(.some 29), .bin .and (.r 28) (.c (.i (.ofNat (nat_lit 1)))), .none⟩, ⟨(.some 30), .bin .neq (.r 29) (.c (.i (.ofNat (nat_lit 0)))), .none⟩])
 (.cond (.r 30) (.reg [⟨(.some 31), .mv (.r 6), .none⟩, ⟨(.some 32), .mv (.r 7), .none⟩, ⟨(.some 33), .bin .mul (.r 31) (.r 32), .none⟩, ⟨(.some 6), .mv (.r 33), .none⟩]) .skip))
 (.reg [⟨(.some 34), .mv (.r 7), .none⟩, ⟨(.some 35), .mv (.r 7), .none⟩, ⟨(.some 36), .bin .mul (.r 34) (.r 35), .none⟩, ⟨(.some 7), .mv (.r 36), .none⟩])))
 (.reg [⟨(.some 26), .mv (.r 8), .none⟩, ⟨(.some 27), .bin .shr (.r 26) (.c (.u .u64 (.ofNat (nat_lit 1)))), .none⟩, ⟨(.some 8), .mv (.r 27), .none⟩]))))))
 (.seq (.reg [⟨(.some 37), .mv (.r 4), .none⟩, ⟨(.some 38), .mv (.r 6), .none⟩, ⟨(.some 2), .mv (.r 37), .none⟩, ⟨(.some 3), .mv (.r 38), .none⟩])
 .ret)))))), 39, [.tmp 2, .tmp 3]⟩
theorem AxZok232 : cfOf AxZ 232 = some AxZc232 := by kernel_rfl
/- (conch/first.sizes).symbol -/
noncomputable def AxZc233 : CF := ⟨(.seq (.reg [⟨(.some 2), .box 324 (.r 0), .none⟩, ⟨(.some 4), .mv (.c (.b false)), .none⟩])
 (.seq (.reg [⟨(.some 5), .mv (.r 1), .none⟩, ⟨(.some 6), .bin .geq (.r 5) (.c (.i (.ofNat (nat_lit 0)))), .none⟩, ⟨(.some 7), .mv (.r 6), .none⟩, ⟨(.some 8), .mv (.r 1), (.some (7, true))⟩, ⟨(.some 9), .fadr 1 (.r 2), (.some (7, true))⟩, ⟨(.some 10), .ld (.r 9), (.some (7, true))⟩, ⟨(.some 11), .bin .leq (.r 8) (.r 10), (.some (7, true))⟩, ⟨(.some 12), .pick (.r 7) (.r 11) (.c (.b false)), .none⟩, ⟨(.some 4), .mv (.r 12), .none⟩])
 .ret)), 13, [.tmp 4]⟩
theorem AxZok233 : cfOf AxZ 233 = some AxZc233 := by kernel_rfl
/- (*conch/bits.Set).Has -/
noncomputable def AxZc234 : CF := ⟨(.seq (.reg [⟨(.some 4), .mv (.c (.b false)), .none⟩])
 (.seq (.reg [⟨(.some 9), .mv (.r 0), .none⟩, ⟨(.some 10), .mv (.r 1), .none⟩, ⟨(.some 11), .call 201 [(.r 9), (.r 10)], .none⟩, ⟨(.some 8), .mv (.r 11), .none⟩, ⟨(.some 12), .ext (.r 8) 0, .none⟩, ⟨(.some 13), .ext (.r 8) 1, .none⟩, ⟨(.some 14), .ext (.r 8) 2, .none⟩, ⟨(.some 5), .mv (.r 12), .none⟩, ⟨(.some 6), .mv (.r 13), .none⟩, ⟨(.some 7), .mv (.r 14), .none⟩])
 (.seq (.reg [⟨(.some 15), .mv (.r 7), .none⟩, ⟨(.some 16), .mv (.r 15), .none⟩, ⟨(.some 17), .mv (.r 0), (.some (16, true))⟩, ⟨(.some 18), .nilck (.r 17), (.some (16, true))⟩, ⟨(.some 19), .fadr 1 (.r 18), (.some (16, true))⟩, ⟨(.some 20), .ld (.r 19), (.some (16, true))⟩, ⟨(.some 21), .mv (.r 5), (.some (16, true))⟩, ⟨(.some 22), .ixSl 1 (.r 20) (.r 21), (.some (16, true))⟩, ⟨(.some 23), .ld (.r 22), (.some (16, true))⟩, ⟨(.some 24), .mv (.r 6), (.some (16, true))⟩, ⟨(.some 25), .bin .and (.r 23) (.r 24), (.some (16, true))⟩, ⟨(.some 26), .bin .neq (.r 25) (.c (.u .u64 (.ofNat (nat_lit 0)))), (.some (16, true))⟩, ⟨(.some 27), .pick (.r 16) (.r 26) (.c (.b false)), .none⟩, ⟨(.some 4), .mv (.r 27), .none⟩])
 .ret))), 28, [.tmp 4]⟩
theorem AxZok234 : cfOf AxZ 234 = some AxZc234 := by kernel_rfl
/- (conch/first.sizes).non -/
noncomputable def AxZc235 : CF := ⟨(.seq (.reg [⟨(.some 2), .box 324 (.r 0), .none⟩, ⟨(.some 4), .mv (.c (.b false)), .none⟩])
 (.seq (.reg [⟨(.some 5), .mv (.r 1), .none⟩, ⟨(.some 6), .fadr 0 (.r 2), .none⟩, ⟨(.some 7), .ld (.r 6), .none⟩, ⟨(.some 8), .bin .gtr (.r 5) (.r 7), .none⟩, ⟨(.some 9), .mv (.r 8), .none⟩, ⟨(.some 10), .mv (.r 1), (.some (9, true))⟩, ⟨(.some 11), .fadr 1 (.r 2), (.some (9, true))⟩, ⟨(.some 12), .ld (.r 11), (.some (9, true))⟩, ⟨(.some 13), .bin .leq (.r 10) (.r 12), (.some (9, true))⟩, ⟨(.some 14), .pick (.r 9) (.r 13) (.c (.b false)), .none⟩, ⟨(.some 4), .mv (.r 14), .none⟩])
 .ret)), 15, [.tmp 4]⟩
theorem AxZok235 : cfOf AxZ 235 = some AxZc235 := by kernel_rfl
/- slices.Clone[[]uint64,uint64] -/
noncomputable def AxZc236 : CF := ⟨(.seq (.reg [⟨(.some 2), .mv (.c .nils), .none⟩])
 (.seq (.seq (.reg [⟨(.some 3), .mv (.r 0), .none⟩, ⟨(.some 4), .eq .slice false (.r 3) (.c .nils), .none⟩])
 (.cond (.r 4) (.seq (.reg [⟨(.some 2), .mv (.c .nils), .none⟩])
 .ret) .skip))
 (.seq (.reg [⟨(.some 5), .bslice 222 1 0 [(.u .u64 (.ofNat (nat_lit 0)))] [], .none⟩, ⟨(.some 6), .mv (.r 0), .none⟩, ⟨(.some 7), .app 222 1 (.r 5) (.r 6), .none⟩, ⟨(.some 2), .mv (.r 7), .none⟩])
 .ret))), 8, [.tmp 2]⟩
theorem AxZok236 : cfOf AxZ 236 = some AxZc236 := by kernel_rfl
/- slices.siftDownCmpFunc[conch/api.Item] -/
noncomputable def AxZc237 : CF := ⟨(.seq (.reg [⟨(.some 12), .mv (.r 1), .none⟩, ⟨(.some 10), .mv (.r 12), .none⟩])
 (.block 0 (.loop (.block 1 (.seq (.reg [⟨(.some 13), .mv (.r 10), .none⟩, ⟨(.some 14), .bin .mul (.c (.i (.ofNat (nat_lit 2)))) (.r 13), .none⟩, ⟨(.some 15), .bin .add (.r 14) (.c (.i (.ofNat (nat_lit 1)))), .none⟩, ⟨(.some 11), .mv (.r 15), .none⟩])
 (.seq (.seq (.reg [⟨(.some 16), .mv (.r 11), .none⟩, ⟨(.some 17), .mv (.r 2), .none⟩, ⟨(.some 18), .bin .geq (.r 16) (.r 17), .none⟩])
 (.cond (.r 18) (.exit 0) .skip))
 (.seq (.seq (.dreg [(⟨(.some 19), .mv (.r 11), .none⟩, false), (⟨(.some 20), .bin .add (.r 19) (.c (.i (.ofNat (nat_lit 1)))), .none⟩, false), (⟨(.some 21), .mv (.r 2), .none⟩, false), (⟨(.some 22), .bin .lss (.r 20) (.r 21), .none⟩, false), (⟨(.some 23), .mv (.r 22), .none⟩, false), (⟨(.some 24), .mv (.r 4), (.some (23, true))⟩, false), (⟨(.some 25), .mv (.r 0), (.some (23, true))⟩, false), (⟨(.some 26), .mv (.r 3), (.some (23, true))⟩, false), (⟨(.some 27), .mv (.r 11), (.some (23, true))⟩, false), (⟨(.some 28), .bin .add (.r 26) (.r 27), (.some (23, true))⟩, false), (⟨(.some 29), .ixSl 2 (.r 25) (.r 28), (.some (23, true))⟩, false), (⟨(.some 30), .lda 2 (.r 29), (.some (23, true))⟩, false), (⟨(.some 31), .mv (.r 0), (.some (23, true))⟩, false), (⟨(.some 32), .mv (.r 3), (.some (23, true))⟩, false), (⟨(.some 33), .mv (.r 11), (.some (23, true))⟩, false), (⟨(.some 34), .bin .add (.r 32) (.r 33), (.some (23, true))⟩, false), (⟨(.some 35), .bin .add (.r 34) (.c (.i (.ofNat (nat_lit 1)))), (.some (23, true))⟩, false), (⟨(.some 36), .ixSl 2 (.r 31) (.r 35), (.some (23, true))⟩, false), (⟨(.some 37), .lda 2 (.r 36), (.some (23, true))⟩, false), (⟨(.some 38), .callv (.r 24) [(.r 30), (.r 37)], (.some (23, true))⟩, true), (⟨(.some 39), .bin .lss (.r 38) (.c (.i (.ofNat (nat_lit 0)))), (.some (23, true))⟩, false), (⟨(.some 40), .pick (.r 23) (.r 39) (.c (.b false)), .none⟩, false)] [])
 (.cond (.r 40) (.reg [⟨(.some 41), .mv (.r 11), .none⟩, ⟨(.some 42), .bin .add (.r 41) (.c (.i (.ofNat (nat_lit 1)))), .none⟩, ⟨(.some 11), .mv (.r 42), .none⟩]) .skip))
 (.seq (.seq (.dreg [(⟨(.some 43), .mv (.r 4), .none⟩, false), (⟨(.some 44), .mv (.r 0), .none⟩, false), (⟨(.some 45), .mv (.r 3), .none⟩, false), (⟨(.some 46), .mv (.r 10), .none⟩, false), (⟨(.some 47), .bin .add (.r 45) (.r 46), .none⟩, false), (⟨(.some 48), .ixSl 2 (.r 44) (.r 47), .none⟩, false), (⟨(.some 49), .lda 2 (.r 48), .none⟩, false), (⟨(.some 50), .mv (.r 0), .none⟩, false), (⟨(.some 51), .mv (.r 3), .none⟩, false), (⟨(.some 52), .mv (.r 11), .none⟩, false), (⟨(.some 53), .bin .add (.r 51) (.r 52), .none⟩, false), (⟨(.some 54), .ixSl 2 (.r 50) (.r 53), .none⟩, false), (⟨(.some 55), .lda 2 (.r 54), .none⟩, false), (⟨(.some 56), .callv (.r 43) [(.r 49), (.r 55)], .none⟩, true), (⟨(.some 57), .bin .lss (.r 56) (.c (.i (.ofNat (nat_lit 0)))), .none⟩, false), (⟨(.some 58), .un .not (.r 57), .none⟩, false)] [])
 (.cond (.r 58) .ret .skip))
 (.seq (.dreg [(⟨(.some 59), .mv (.r 0), .none⟩, false), (⟨(.some 60), .mv (.r 3), .none⟩, false), (⟨(.some 61), .mv (.r 10), .none⟩, false), (⟨(.some 62), .bin .add (.r 60) (.r 61), .none⟩, false), (⟨(.some 63), .mv (.r 0), .none⟩, false), (⟨(.some 64), .mv (.r 3), .none⟩, false), (⟨(.some 65), .mv (.r 11), .none⟩, false), (⟨(.some 66), .bin .add (.r 64) (.r 65), .none⟩, false), (⟨(.some 67), .mv (.r 0), .none⟩, false), (⟨(.some 68), .mv (.r 3), .none⟩, false), (⟨(.some 69), .mv (.r 11), .none⟩, false), (⟨(.some 70), .bin .add (.r 68) (.r 69), .none⟩, false), (⟨(.some 71), .ixSl 2 (.r 67) (.r 70), .none⟩, false), (⟨(.some 72), .lda 2 (.r 71), .none⟩, false), (⟨(.some 73), .mv (.r 0), .none⟩, false), (⟨(.some 74), .mv (.r 3), .none⟩, false), (⟨(.some 75), .mv (.r 10), .none⟩, false), (⟨(.some 76), .bin .add (.r 74) (.r 75), .none⟩, false), (⟨(.some 77), .ixSl 2 (.r 73) (.r 76), .none⟩, false), (⟨(.some 78), .lda 2 (.r 77), .none⟩, false), (⟨(.some 79), .ixSl 2 (.r 59) (.r 62), .none⟩, false), (⟨.none, .st 2 (.r 79) (.r 72), .none⟩, true), (⟨(.some 80), .ixSl 2 (.r 63) (.r 66), .none⟩, false), (⟨.none, .st 2 (.r 80) (.r 78), .none⟩, true)] [])
 (.reg [⟨(.some 81), .mv (.r 11), .none⟩, ⟨(.some 10), .mv (.r 81), .none⟩])))))))))), 82, []⟩
theorem AxZok237 : cfOf AxZ 237 = some AxZc237 := by kernel_rfl
/- slices.nextPowerOfTwo -/
noncomputable def AxZc238 : CF := ⟨(.seq (.reg [⟨(.some 2), .mv (.c (.u .u64 (.ofNat (nat_lit 0)))), .none⟩])
 (.seq (.reg [⟨(.some 3), .mv (.r 0), .none⟩, ⟨(.some 4), .cvInt .u64 (.r 3), .none⟩, ⟨(.some 5), .call 209 [(.r 4)], .none⟩, ⟨(.some 6), .bin .shl (.c (.u .u64 (.ofNat (nat_lit 1)))) (.r 5), .none⟩, ⟨(.some 2), .mv (.r 6), .none⟩])
 .ret)), 7, [.tmp 2]⟩
theorem AxZok238 : cfOf AxZ 238 = some AxZc238 := by kernel_rfl
/- (*slices.xorshift).Next -/
noncomputable def AxZc239 : CF := ⟨(.seq (.reg [⟨(.some 2), .mv (.c (.u .u64 (.ofNat (nat_lit 0)))), .none⟩])
 (.seq (.dreg [(⟨(.some 3), .mv (.r 0), .none⟩, false), (⟨(.some 4), .nilck (.r 3), .none⟩, false), (⟨(.some 5), .ld (.r 4), .none⟩, false), (⟨(.some 6), .mv (.r 0), .none⟩, false), (⟨(.some 7), .nilck (.r 6), .none⟩, false), (⟨(.some 8), .ld (.r 7), .none⟩, false), (⟨(.some 9), .bin .shl (.r 8) (.c (.u .u64 (.ofNat (nat_lit 13)))), .none⟩, false), (⟨(.some 10), .bin .xor (.r 5) (.r 9), .none⟩, false), (⟨(.some 11), .nilck (.r 3), .none⟩, false), (⟨.none, .st 1 (.r 11) (.r 10), .none⟩, true)] [])
 (.seq (.dreg [(⟨(.some 12), .mv (.r 0), .none⟩, false), (⟨(.some 13), .nilck (.r 12), .none⟩, false), (⟨(.some 14), .ld (.r 13), .none⟩, false), (⟨(.some 15), .mv (.r 0), .none⟩, false), (⟨(.some 16), .nilck (.r 15), .none⟩, false), (⟨(.some 17), .ld (.r 16), .none⟩, false), (⟨(.some 18), .bin .shr (.r 17) (.c (.u .u64 (.ofNat (nat_lit 7)))), .none⟩, false), (⟨(.some 19), .bin .xor (.r 14) (.r 18), .none⟩, false), (⟨(.some 20), .nilck (.r 12), .none⟩, false), (⟨.none, .st 1 (.r 20) (.r 19), .none⟩, true)] [])
 (.seq (.dreg [(⟨(.some 21), .mv (.r 0), .none⟩, false), (⟨(.some 22), .nilck (.r 21), .none⟩, false), (⟨(.some 23), .ld (.r 22), .none⟩, false), (⟨(.some 24), .mv (.r 0), .none⟩, false), (⟨(.some 25), .nilck (.r 24), .none⟩, false), (⟨(.some 26), .ld (.r 25), .none⟩, false), (⟨(.some 27), .bin .shl (.r 26) (.c (.u .u64 (.ofNat (nat_lit 17)))), .none⟩, false), (⟨(.some 28), .bin .xor (.r 23) (.r 27), .none⟩, false), (⟨(.some 29), .nilck (.r 21), .none⟩, false), (⟨.none, .st 1 (.r 29) (.r 28), .none⟩, true)] [])
 (.seq (.reg [⟨(.some 30), .mv (.r 0), .none⟩, ⟨(.some 31), .nilck (.r 30), .none⟩, ⟨(.some 32), .ld (.r 31), .none⟩, ⟨(.some 2), .mv (.r 32), .none⟩])
 .ret))))), 33, [.tmp 2]⟩
theorem AxZok239 : cfOf AxZ 239 = some AxZc239 := by kernel_rfl
/- slices.medianAdjacentCmpFunc[conch/api.Item] -/
noncomputable def AxZc240 : CF := ⟨(.seq (.reg [⟨(.some 8), .mv (.c (.i (.ofNat (nat_lit 0)))), .none⟩])
 (.seq (.reg [⟨(.some 9), .mv (.r 0), .none⟩, ⟨(.some 10), .mv (.r 1), .none⟩, ⟨(.some 11), .bin .sub (.r 10) (.c (.i (.ofNat (nat_lit 1)))), .none⟩, ⟨(.some 12), .mv (.r 1), .none⟩, ⟨(.some 13), .mv (.r 1), .none⟩, ⟨(.some 14), .bin .add (.r 13) (.c (.i (.ofNat (nat_lit 1)))), .none⟩, ⟨(.some 15), .mv (.r 2), .none⟩, ⟨(.some 16), .mv (.r 3), .none⟩, ⟨(.some 17), .call 241 [(.r 9), (.r 11), (.r 12), (.r 14), (.r 15), (.r 16)], .none⟩, ⟨(.some 8), .mv (.r 17), .none⟩])
 .ret)), 18, [.tmp 8]⟩
theorem AxZok240 : cfOf AxZ 240 = some AxZc240 := by kernel_rfl
/- slices.medianCmpFunc[conch/api.Item] -/
noncomputable def AxZc241 : CF := ⟨(.seq (.reg [⟨(.some 12), .mv (.c (.i (.ofNat (nat_lit 0)))), .none⟩])
 (.seq (.reg [⟨(.some 14), .mv (.r 0), .none⟩, ⟨(.some 15), .mv (.r 1), .none⟩, ⟨(.some 16), .mv (.r 2), .none⟩, ⟨(.some 17), .mv (.r 4), .none⟩, ⟨(.some 18), .mv (.r 5), .none⟩, ⟨(.some 19), .call 242 [(.r 14), (.r 15), (.r 16), (.r 17), (.r 18)], .none⟩, ⟨(.some 13), .mv (.r 19), .none⟩, ⟨(.some 20), .ext (.r 13) 0, .none⟩, ⟨(.some 21), .ext (.r 13) 1, .none⟩, ⟨(.some 1), .mv (.r 20), .none⟩, ⟨(.some 2), .mv (.r 21), .none⟩])
 (.seq (.reg [⟨(.some 23), .mv (.r 0), .none⟩, ⟨(.some 24), .mv (.r 2), .none⟩, ⟨(.some 25), .mv (.r 3), .none⟩, ⟨(.some 26), .mv (.r 4), .none⟩, ⟨(.some 27), .mv (.r 5), .none⟩, ⟨(.some 28), .call 242 [(.r 23), (.r 24), (.r 25), (.r 26), (.r 27)], .none⟩, ⟨(.some 22), .mv (.r 28), .none⟩, ⟨(.some 29), .ext (.r 22) 0, .none⟩, ⟨(.some 30), .ext (.r 22) 1, .none⟩, ⟨(.some 2), .mv (.r 29), .none⟩, ⟨(.some 3), .mv (.r 30), .none⟩])
 (.seq (.reg [⟨(.some 32), .mv (.r 0), .none⟩, ⟨(.some 33), .mv (.r 1), .none⟩, ⟨(.some 34), .mv (.r 2), .none⟩, ⟨(.some 35), .mv (.r 4), .none⟩, ⟨(.some 36), .mv (.r 5), .none⟩, ⟨(.some 37), .call 242 [(.r 32), (.r 33), (.r 34), (.r 35), (.r 36)], .none⟩, ⟨(.some 31), .mv (.r 37), .none⟩, ⟨(.some 38), .ext (.r 31) 0, .none⟩, ⟨(.some 39), .ext (.r 31) 1, .none⟩, ⟨(.some 1), .mv (.r 38), .none⟩, ⟨(.some 2), .mv (.r 39), .none⟩])
 (.seq (.reg [⟨(.some 40), .mv (.r 2), .none⟩, ⟨(.some 12), .mv (.r 40), .none⟩])
 .ret))))), 41, [.tmp 12]⟩
theorem AxZok241 : cfOf AxZ 241 = some AxZc241 := by kernel_rfl
/- slices.order2CmpFunc[conch/api.Item] -/
noncomputable def AxZc242 : CF := ⟨(.seq (.reg [⟨(.some 10), .mv (.c (.i (.ofNat (nat_lit 0)))), .none⟩, ⟨(.some 11), .mv (.c (.i (.ofNat (nat_lit 0)))), .none⟩])
 (.seq (.seq (.dreg [(⟨(.some 12), .mv (.r 4), .none⟩, false), (⟨(.some 13), .mv (.r 0), .none⟩, false), (⟨(.some 14), .mv (.r 2), .none⟩, false), (⟨(.some 15), .ixSl 2 (.r 13) (.r 14), .none⟩, false), (⟨(.some 16), .lda 2 (.r 15), .none⟩, false), (⟨(.some 17), .mv (.r 0), .none⟩, false), (⟨(.some 18), .mv (.r 1), .none⟩, false), (⟨(.some 19), .ixSl 2 (.r 17) (.r 18), .none⟩, false), (⟨(.some 20), .lda 2 (.r 19), .none⟩, false), (⟨(.some 21), .callv (.r 12) [(.r 16), (.r 20)], .none⟩, true), (⟨(.some 22), .bin .lss (.r 21) (.c (.i (.ofNat (nat_lit 0)))), .none⟩, false)] [])
 (.cond (.r 22) (.seq (.reg [⟨(.some 23), .mv (.r 3), .none⟩, ⟨(.some 24), .nilck (.r 23), .none⟩, ⟨(.some 25), .ld (.r 24), .none⟩, ⟨(.some 26), .bin .add (.r 25) (.c (.i (.ofNat (nat_lit 1)))), .none⟩, ⟨(.some 27), .nilck (.r 23), .none⟩, ⟨.none, .st 1 (.r 27) (.r 26), .none⟩])
 (.seq (.reg [⟨(.some 28), .mv (.r 2), .none⟩, ⟨(.some 29), .mv (.r 1), .none⟩, ⟨(.some 10), .mv (.r 28), .none⟩, ⟨(.some 11), .mv (.r 29), .none⟩])
 .ret)) .skip))
 (.seq (.reg [⟨(.some 30), .mv (.r 1), .none⟩, ⟨(.some 31), .mv (.r 2), .none⟩, ⟨(.some 10), .mv (.r 30), .none⟩, ⟨(.some 11), .mv (.r 31), .none⟩])
 .ret))), 32, [.tmp 10, .tmp 11]⟩
theorem AxZok242 : cfOf AxZ 242 = some AxZc242 := by kernel_rfl
end Ax
