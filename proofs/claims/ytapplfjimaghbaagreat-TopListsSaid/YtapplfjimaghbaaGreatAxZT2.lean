/- The functions of the seat, compiled, 3: each is what the compiler (AxComp, AxEvS3) makes of the program's. Printed by wip/tools/PrintSeat.lean. -/
import Derived.Test.YtapplfjimaghbaaGreatAxZ
set_option linter.all false
namespace Ax
open Go
set_option maxRecDepth 100000
/- conch/gtok.white -/
noncomputable def AxZc121 : CF := ⟨(.seq (.reg [⟨(.some 2), .mv (.c (.b false)), .none⟩])
 (.seq (.reg [⟨(.some 3), .mv (.r 0), .none⟩, ⟨(.some 4), .call 167 [(.c (.s 4 (nat_lit 218761504))), (.r 3)], .none⟩, ⟨(.some 5), .bin .geq (.r 4) (.c (.i (.ofNat (nat_lit 0)))), .none⟩, ⟨(.some 2), .mv (.r 5), .none⟩])
 .ret)), 6, [.tmp 2]⟩
theorem AxZok121 : cfOf AxZ 121 = some AxZc121 := by kernel_rfl
/- conch/gtok.span -/
noncomputable def AxZc122 : CF := ⟨(.seq (.reg [⟨(.some 6), .mv (.c (.i (.ofNat (nat_lit 0)))), .none⟩])
 (.seq (.reg [⟨(.some 7), .mv (.c (.i (.ofNat (nat_lit 0)))), .none⟩])
 (.seq (.block 0 (.loop (.seq (.seq (.reg [⟨(.some 8), .mv (.r 1), .none⟩, ⟨(.some 9), .mv (.r 7), .none⟩, ⟨(.some 10), .bin .add (.r 8) (.r 9), .none⟩, ⟨(.some 11), .mv (.r 0), .none⟩, ⟨(.some 12), .lenStr (.r 11), .none⟩, ⟨(.some 13), .bin .lss (.r 10) (.r 12), .none⟩, ⟨(.some 14), .mv (.r 13), .none⟩, ⟨(.some 15), .mv (.r 2), (.some (14, true))⟩, ⟨(.some 16), .mv (.r 0), (.some (14, true))⟩, ⟨(.some 17), .mv (.r 1), (.some (14, true))⟩, ⟨(.some 18), .mv (.r 7), (.some (14, true))⟩, ⟨(.some 19), .bin .add (.r 17) (.r 18), (.some (14, true))⟩, ⟨(.some 20), .idxStr (.r 16) (.r 19), (.some (14, true))⟩, ⟨(.some 21), .callv (.r 15) [(.r 20)], (.some (14, true))⟩, ⟨(.some 22), .pick (.r 14) (.r 21) (.c (.b false)), .none⟩])
 (.cond (.r 22) .skip (.exit 0)))
 (.block 1 (.reg [⟨(.some 23), .mv (.r 7), .none⟩, ⟨(.some 24), .bin .add (.r 23) (.c (.i (.ofNat (nat_lit 1)))), .none⟩, ⟨(.some 7), .mv (.r 24), .none⟩])))))
 (.seq (.reg [⟨(.some 25), .mv (.r 7), .none⟩, ⟨(.some 6), .mv (.r 25), .none⟩])
 .ret)))), 26, [.tmp 6]⟩
theorem AxZok122 : cfOf AxZ 122 = some AxZc122 := by kernel_rfl
/- conch/gtok.comment -/
noncomputable def AxZc123 : CF := ⟨(.seq (.reg [⟨(.some 4), .mv (.c (.i (.ofNat (nat_lit 0)))), .none⟩, ⟨(.some 5), .mv (.c .nili), .none⟩])
 (.seq (.seq (.reg [⟨(.some 7), .mv (.r 0), .none⟩, ⟨(.some 8), .mv (.r 1), .none⟩, ⟨(.some 9), .slStr (.r 7) (.some (.r 8)) .none, .none⟩, ⟨(.some 10), .call 168 [(.r 9), (.c (.s 2 (nat_lit 10799)))], .none⟩, ⟨(.some 11), .un .not (.r 10), .none⟩])
 (.cond (.r 11) (.seq (.reg [⟨(.some 12), .mv (.r 1), .none⟩, ⟨(.some 13), .call 40 [(.c (.i (.ofNat (nat_lit 2)))), (.r 12)], .none⟩, ⟨(.some 4), .mv (.c (.i (.ofNat (nat_lit 0)))), .none⟩, ⟨(.some 5), .mv (.r 13), .none⟩])
 .ret) .skip))
 (.seq (.reg [⟨(.some 14), .mv (.r 0), .none⟩, ⟨(.some 15), .mv (.r 1), .none⟩, ⟨(.some 16), .bin .add (.r 15) (.c (.i (.ofNat (nat_lit 2)))), .none⟩, ⟨(.some 17), .slStr (.r 14) (.some (.r 16)) .none, .none⟩, ⟨(.some 18), .call 169 [(.r 17), (.c (.s 2 (nat_lit 12074)))], .none⟩, ⟨(.some 6), .mv (.r 18), .none⟩])
 (.seq (.seq (.reg [⟨(.some 19), .mv (.r 6), .none⟩, ⟨(.some 20), .bin .lss (.r 19) (.c (.i (.ofNat (nat_lit 0)))), .none⟩])
 (.cond (.r 20) (.seq (.reg [⟨(.some 21), .mv (.r 0), .none⟩, ⟨(.some 22), .lenStr (.r 21), .none⟩, ⟨(.some 23), .call 40 [(.c (.i (.ofNat (nat_lit 4)))), (.r 22)], .none⟩, ⟨(.some 4), .mv (.c (.i (.ofNat (nat_lit 0)))), .none⟩, ⟨(.some 5), .mv (.r 23), .none⟩])
 .ret) .skip))
 (.seq (.reg [⟨(.some 24), .mv (.r 6), .none⟩, ⟨(.some 25), .bin .add (.r 24) (.c (.i (.ofNat (nat_lit 4)))), .none⟩, ⟨(.some 4), .mv (.r 25), .none⟩, ⟨(.some 5), .mv (.c .nili), .none⟩])
 .ret))))), 26, [.tmp 4, .tmp 5]⟩
theorem AxZok123 : cfOf AxZ 123 = some AxZc123 := by kernel_rfl
/- conch/gtok.quoted -/
noncomputable def AxZc124 : CF := ⟨(.seq (.reg [⟨(.some 4), .mv (.c (.i (.ofNat (nat_lit 0)))), .none⟩, ⟨(.some 5), .mv (.c .nili), .none⟩])
 (.seq (.reg [⟨(.some 7), .mv (.r 0), .none⟩, ⟨(.some 8), .mv (.r 1), .none⟩, ⟨(.some 9), .bin .add (.r 8) (.c (.i (.ofNat (nat_lit 1)))), .none⟩, ⟨(.some 10), .call 122 [(.r 7), (.r 9), (.c (.fn 170 []))], .none⟩, ⟨(.some 11), .bin .add (.c (.i (.ofNat (nat_lit 1)))) (.r 10), .none⟩, ⟨(.some 6), .mv (.r 11), .none⟩])
 (.seq (.block 0 (.seq (.reg [⟨(.some 13), .mv (.r 1), .none⟩, ⟨(.some 14), .mv (.r 6), .none⟩, ⟨(.some 15), .bin .add (.r 13) (.r 14), .none⟩, ⟨(.some 16), .mv (.r 0), .none⟩, ⟨(.some 17), .lenStr (.r 16), .none⟩, ⟨(.some 18), .bin .geq (.r 15) (.r 17), .none⟩, ⟨(.some 12), .mv (.r 18), .none⟩])
 (.cond (.r 12) (.seq (.reg [⟨(.some 19), .mv (.r 0), .none⟩, ⟨(.some 20), .lenStr (.r 19), .none⟩, ⟨(.some 21), .call 40 [(.c (.i (.ofNat (nat_lit 4)))), (.r 20)], .none⟩, ⟨(.some 4), .mv (.c (.i (.ofNat (nat_lit 0)))), .none⟩, ⟨(.some 5), .mv (.r 21), .none⟩])
 .ret) (.seq (.reg [⟨(.some 23), .mv (.r 0), .none⟩, ⟨(.some 24), .mv (.r 1), .none⟩, ⟨(.some 25), .mv (.r 6), .none⟩, ⟨(.some 26), .bin .add (.r 24) (.r 25), .none⟩, ⟨(.some 27), .idxStr (.r 23) (.r 26), .none⟩, ⟨(.some 28), .bin .neq (.r 27) (.c (.u .u8 (.ofNat (nat_lit 39)))), .none⟩, ⟨(.some 29), .mv (.r 28), .none⟩, ⟨(.some 30), .mv (.r 6), (.some (29, false))⟩, ⟨(.some 31), .bin .eql (.r 30) (.c (.i (.ofNat (nat_lit 1)))), (.some (29, false))⟩, ⟨(.some 32), .pick (.r 29) (.c (.b true)) (.r 31), .none⟩, ⟨(.some 22), .mv (.r 32), .none⟩])
 (.cond (.r 22) (.seq (.reg [⟨(.some 33), .mv (.r 1), .none⟩, ⟨(.some 34), .mv (.r 6), .none⟩, ⟨(.some 35), .bin .add (.r 33) (.r 34), .none⟩, ⟨(.some 36), .call 40 [(.c (.i (.ofNat (nat_lit 2)))), (.r 35)], .none⟩, ⟨(.some 4), .mv (.c (.i (.ofNat (nat_lit 0)))), .none⟩, ⟨(.some 5), .mv (.r 36), .none⟩])
 .ret) (.seq (.reg [⟨(.some 38), .mv (.r 6), .none⟩, ⟨(.some 39), .bin .geq (.r 38) (.c (.i (.ofNat (nat_lit 24)))), .none⟩, ⟨(.some 37), .mv (.r 39), .none⟩])
 (.cond (.r 37) (.seq (.reg [⟨(.some 40), .mv (.r 1), .none⟩, ⟨(.some 41), .call 40 [(.c (.i (.ofNat (nat_lit 5)))), (.r 40)], .none⟩, ⟨(.some 4), .mv (.c (.i (.ofNat (nat_lit 0)))), .none⟩, ⟨(.some 5), .mv (.r 41), .none⟩])
 .ret) .skip)))))))
 (.seq (.reg [⟨(.some 42), .mv (.r 6), .none⟩, ⟨(.some 43), .bin .add (.r 42) (.c (.i (.ofNat (nat_lit 1)))), .none⟩, ⟨(.some 4), .mv (.r 43), .none⟩, ⟨(.some 5), .mv (.c .nili), .none⟩])
 .ret)))), 44, [.tmp 4, .tmp 5]⟩
theorem AxZok124 : cfOf AxZ 124 = some AxZc124 := by kernel_rfl
/- conch/gtok.mark -/
noncomputable def AxZc125 : CF := ⟨(.seq (.reg [⟨(.some 4), .mv (.c (.i (.ofNat (nat_lit 0)))), .none⟩, ⟨(.some 5), .mv (.c (.i (.ofNat (nat_lit 0)))), .none⟩, ⟨(.some 6), .mv (.c .nili), .none⟩])
 (.seq (.seq (.reg [⟨(.some 8), .mv (.r 0), .none⟩, ⟨(.some 9), .mv (.r 1), .none⟩, ⟨(.some 10), .slStr (.r 8) (.some (.r 9)) .none, .none⟩, ⟨(.some 11), .call 168 [(.r 10), (.c (.s 2 (nat_lit 9509)))], .none⟩])
 (.cond (.r 11) (.seq (.reg [⟨(.some 4), .mv (.c (.i (.ofNat (nat_lit 6)))), .none⟩, ⟨(.some 5), .mv (.c (.i (.ofNat (nat_lit 2)))), .none⟩, ⟨(.some 6), .mv (.c .nili), .none⟩])
 .ret) .skip))
 (.seq (.reg [⟨(.some 12), .mv (.r 0), .none⟩, ⟨(.some 13), .mv (.r 1), .none⟩, ⟨(.some 14), .bin .add (.r 13) (.c (.i (.ofNat (nat_lit 1)))), .none⟩, ⟨(.some 15), .call 122 [(.r 12), (.r 14), (.c (.fn 127 []))], .none⟩, ⟨(.some 7), .mv (.r 15), .none⟩])
 (.seq (.seq (.reg [⟨(.some 16), .mv (.r 0), .none⟩, ⟨(.some 17), .mv (.r 1), .none⟩, ⟨(.some 18), .bin .add (.r 17) (.c (.i (.ofNat (nat_lit 1)))), .none⟩, ⟨(.some 19), .mv (.r 1), .none⟩, ⟨(.some 20), .bin .add (.r 19) (.c (.i (.ofNat (nat_lit 1)))), .none⟩, ⟨(.some 21), .mv (.r 7), .none⟩, ⟨(.some 22), .bin .add (.r 20) (.r 21), .none⟩, ⟨(.some 23), .slStr (.r 16) (.some (.r 18)) (.some (.r 22)), .none⟩])
 (.block 0 (.seq (.reg [⟨(.some 25), .bin .eql (.r 23) (.c (.s 5 (nat_lit 474147942260))), .none⟩, ⟨(.some 24), .mv (.r 25), .none⟩])
 (.cond (.r 24) (.seq (.reg [⟨(.some 26), .mv (.r 7), .none⟩, ⟨(.some 27), .bin .add (.c (.i (.ofNat (nat_lit 1)))) (.r 26), .none⟩, ⟨(.some 4), .mv (.c (.i (.ofNat (nat_lit 7)))), .none⟩, ⟨(.some 5), .mv (.r 27), .none⟩, ⟨(.some 6), .mv (.c .nili), .none⟩])
 .ret) (.seq (.reg [⟨(.some 29), .bin .eql (.r 23) (.c (.s 5 (nat_lit 500135195763))), .none⟩, ⟨(.some 28), .mv (.r 29), .none⟩])
 (.cond (.r 28) (.seq (.reg [⟨(.some 30), .mv (.r 7), .none⟩, ⟨(.some 31), .bin .add (.c (.i (.ofNat (nat_lit 1)))) (.r 30), .none⟩, ⟨(.some 4), .mv (.c (.i (.ofNat (nat_lit 8)))), .none⟩, ⟨(.some 5), .mv (.r 31), .none⟩, ⟨(.some 6), .mv (.c .nili), .none⟩])
 .ret) .skip))))))
 (.seq (.reg [⟨(.some 32), .mv (.r 1), .none⟩, ⟨(.some 33), .call 40 [(.c (.i (.ofNat (nat_lit 2)))), (.r 32)], .none⟩, ⟨(.some 4), .mv (.c (.i (.ofNat (nat_lit 0)))), .none⟩, ⟨(.some 5), .mv (.c (.i (.ofNat (nat_lit 0)))), .none⟩, ⟨(.some 6), .mv (.r 33), .none⟩])
 .ret))))), 34, [.tmp 4, .tmp 5, .tmp 6]⟩
theorem AxZok125 : cfOf AxZ 125 = some AxZc125 := by kernel_rfl
/- conch/char.Class -/
noncomputable def AxZc126 : CF := ⟨(.seq (.reg [⟨(.some 2), .mv (.c (.i (.ofNat (nat_lit 0)))), .none⟩])
 (.seq (.seq (.reg [⟨(.some 3), .mv (.r 0), .none⟩])
 (.block 0 (.seq (.block 7 (.seq (.block 6 (.seq (.block 5 (.seq (.block 4 (.seq (.block 3 (.block 2 (.seq (.block 1 (.seq (.seq (.seq (.reg [⟨(.some 5), .bin .eql (.r 3) (.c (.u .u8 (.ofNat (nat_lit 0)))), .none⟩, ⟨(.some 4), .mv (.r 5), .none⟩])
 (.cond (.r 4) (.exit 1) .skip))
 (.seq (.seq (.reg [⟨(.some 7), .bin .eql (.r 3) (.c (.u .u8 (.ofNat (nat_lit 32)))), .none⟩, ⟨(.some 6), .mv (.r 7), .none⟩])
 (.cond (.r 6) (.exit 2) .skip))
 (.seq (.seq (.reg [⟨(.some 9), .bin .eql (.r 3) (.c (.u .u8 (.ofNat (nat_lit 9)))), .none⟩, ⟨(.some 8), .mv (.r 9), .none⟩])
 (.cond (.r 8) (.exit 3) .skip))
 (.seq (.seq (.reg [⟨(.some 11), .bin .eql (.r 3) (.c (.u .u8 (.ofNat (nat_lit 10)))), .none⟩, ⟨(.some 10), .mv (.r 11), .none⟩])
 (.cond (.r 10) (.exit 4) .skip))
 (.seq (.seq (.seq (.reg [⟨(.some 13), .bin .eql (.r 3) (.c (.u .u8 (.ofNat (nat_lit 38)))), .none⟩, ⟨(.some 12), .mv (.r 13), .none⟩])
 (.cond (.r 12) .skip (.seq (.reg [⟨(.some 14), .bin .eql (.r 3) (.c (.u .u8 (.ofNat (nat_lit 124)))), .none⟩, ⟨(.some 12), .mv (.r 14), .none⟩])
 (.cond (.r 12) .skip (.seq (.reg [⟨(.some 15), .bin .eql (.r 3) (.c (.u .u8 (.ofNat (nat_lit 59)))), .none⟩, ⟨(.some 12), .mv (.r 15), .none⟩])
 (.cond (.r 12) .skip (.seq (.reg [⟨(.some 16), .bin .eql (.r 3) (.c (.u .u8 (.ofNat (nat_lit 60)))), .none⟩, ⟨(.some 12), .mv (.r 16), .none⟩])
 (.cond (.r 12) .skip (.seq (.reg [⟨(.some 17), .bin .eql (.r 3) (.c (.u .u8 (.ofNat (nat_lit 62)))), .none⟩, ⟨(.some 12), .mv (.r 17), .none⟩])
 (.cond (.r 12) .skip (.seq (.reg [⟨(.some 18), .bin .eql (.r 3) (.c (.u .u8 (.ofNat (nat_lit 40)))), .none⟩, ⟨(.some 12), .mv (.r 18), .none⟩])
 (.cond (.r 12) .skip (.reg [⟨(.some 19), .bin .eql (.r 3) (.c (.u .u8 (.ofNat (nat_lit 41)))), .none⟩, ⟨(.some 12), .mv (.r 19), .none⟩])))))))))))))
 (.cond (.r 12) (.exit 5) .skip))
 (.seq (.seq (.seq (.reg [⟨(.some 21), .bin .eql (.r 3) (.c (.u .u8 (.ofNat (nat_lit 39)))), .none⟩, ⟨(.some 20), .mv (.r 21), .none⟩])
 (.cond (.r 20) .skip (.seq (.reg [⟨(.some 22), .bin .eql (.r 3) (.c (.u .u8 (.ofNat (nat_lit 34)))), .none⟩, ⟨(.some 20), .mv (.r 22), .none⟩])
 (.cond (.r 20) .skip (.seq (.reg [⟨(.some 23), .bin .eql (.r 3) (.c (.u .u8 (.ofNat (nat_lit 92)))), .none⟩, ⟨(.some 20), .mv (.r 23), .none⟩])
 (.cond (.r 20) .skip (.reg [⟨(.some 24), .bin .eql (.r 3) (.c (.u .u8 (.ofNat (nat_lit 96)))), .none⟩, ⟨(.some 20), .mv (.r 24), .none⟩])))))))
 (.cond (.r 20) (.exit 6) .skip))
 (.seq (.reg [⟨(.some 26), .bin .eql (.r 3) (.c (.u .u8 (.ofNat (nat_lit 36)))), .none⟩, ⟨(.some 25), .mv (.r 26), .none⟩])
 (.cond (.r 25) (.exit 7) .skip))))))))
 (.exit 0)))
 (.seq (.seq (.reg [⟨(.some 2), .mv (.c (.i (.ofNat (nat_lit 0)))), .none⟩])
 .ret)
 (.exit 0)))))
 (.seq (.seq (.reg [⟨(.some 2), .mv (.c (.i (.ofNat (nat_lit 1)))), .none⟩])
 .ret)
 (.exit 0))))
 (.seq (.seq (.reg [⟨(.some 2), .mv (.c (.i (.ofNat (nat_lit 2)))), .none⟩])
 .ret)
 (.exit 0))))
 (.seq (.seq (.reg [⟨(.some 2), .mv (.c (.i (.ofNat (nat_lit 5)))), .none⟩])
 .ret)
 (.exit 0))))
 (.seq (.seq (.reg [⟨(.some 2), .mv (.c (.i (.ofNat (nat_lit 6)))), .none⟩])
 .ret)
 (.exit 0))))
 (.seq (.seq (.reg [⟨(.some 2), .mv (.c (.i (.ofNat (nat_lit 7)))), .none⟩])
 .ret)
 (.exit 0)))))
 (.seq (.reg [⟨(.some 27), .mv (.r 0), .none⟩, ⟨(.some 28), .call 171 [(.r 27)], .none⟩, ⟨(.some 2), .mv (.r 28), .none⟩])
 .ret))), 29, [.tmp 2]⟩
theorem AxZok126 : cfOf AxZ 126 = some AxZc126 := by kernel_rfl
/- conch/gtok.letter -/
noncomputable def AxZc127 : CF := ⟨(.seq (.reg [⟨(.some 2), .mv (.c (.b false)), .none⟩])
 (.seq (.reg [⟨(.some 4), .mv (.r 0), .none⟩, ⟨(.some 5), .call 126 [(.r 4)], .none⟩, ⟨(.some 3), .mv (.r 5), .none⟩])
 (.seq (.reg [⟨(.some 6), .mv (.r 3), .none⟩, ⟨(.some 7), .bin .eql (.r 6) (.c (.i (.ofNat (nat_lit 4)))), .none⟩, ⟨(.some 8), .mv (.r 7), .none⟩, ⟨(.some 9), .mv (.r 3), (.some (8, false))⟩, ⟨(.some 10), .bin .eql (.r 9) (.c (.i (.ofNat (nat_lit 3)))), (.some (8, false))⟩, ⟨(.some 11), .pick (.r 8) (.c (.b true)) (.r 10), .none⟩, ⟨(.some 2), .mv (.r 11), .none⟩])
 .ret))), 12, [.tmp 2]⟩
theorem AxZok127 : cfOf AxZ 127 = some AxZc127 := by kernel_rfl
/- conch/gtok.sign -/
noncomputable def AxZc128 : CF := ⟨(.seq (.reg [⟨(.some 2), .mv (.c (.i (.ofNat (nat_lit 0)))), .none⟩])
 (.seq (.seq (.reg [⟨(.some 3), .mv (.r 0), .none⟩])
 (.block 0 (.seq (.reg [⟨(.some 5), .bin .eql (.r 3) (.c (.u .u8 (.ofNat (nat_lit 58)))), .none⟩, ⟨(.some 4), .mv (.r 5), .none⟩])
 (.cond (.r 4) (.seq (.reg [⟨(.some 2), .mv (.c (.i (.ofNat (nat_lit 3)))), .none⟩])
 .ret) (.seq (.reg [⟨(.some 7), .bin .eql (.r 3) (.c (.u .u8 (.ofNat (nat_lit 124)))), .none⟩, ⟨(.some 6), .mv (.r 7), .none⟩])
 (.cond (.r 6) (.seq (.reg [⟨(.some 2), .mv (.c (.i (.ofNat (nat_lit 4)))), .none⟩])
 .ret) (.seq (.reg [⟨(.some 9), .bin .eql (.r 3) (.c (.u .u8 (.ofNat (nat_lit 59)))), .none⟩, ⟨(.some 8), .mv (.r 9), .none⟩])
 (.cond (.r 8) (.seq (.reg [⟨(.some 2), .mv (.c (.i (.ofNat (nat_lit 5)))), .none⟩])
 .ret) .skip))))))))
 (.seq (.reg [⟨(.some 2), .mv (.c (.i (.ofNat (nat_lit 0)))), .none⟩])
 .ret))), 10, [.tmp 2]⟩
theorem AxZok128 : cfOf AxZ 128 = some AxZc128 := by kernel_rfl
/- (*conch/gread.reader).symbol -/
noncomputable def AxZc129 : CF := ⟨(.seq (.reg [⟨(.some 2), .mv (.c (.b false)), .none⟩])
 (.seq (.reg [⟨(.some 3), .mv (.r 0), .none⟩, ⟨(.some 4), .call 71 [(.r 3), (.c (.i (.ofNat (nat_lit 1))))], .none⟩, ⟨(.some 5), .mv (.r 4), .none⟩, ⟨(.some 6), .mv (.r 0), (.some (5, false))⟩, ⟨(.some 7), .call 71 [(.r 6), (.c (.i (.ofNat (nat_lit 2))))], (.some (5, false))⟩, ⟨(.some 8), .pick (.r 5) (.c (.b true)) (.r 7), .none⟩, ⟨(.some 2), .mv (.r 8), .none⟩])
 .ret)), 9, [.tmp 2]⟩
theorem AxZok129 : cfOf AxZ 129 = some AxZc129 := by kernel_rfl
/- (*conch/gread.reader).bad -/
noncomputable def AxZc130 : CF := ⟨(.seq (.seq (.reg [⟨(.some 2), .mv (.r 0), .none⟩, ⟨(.some 3), .call 71 [(.r 2), (.c (.i (.ofNat (nat_lit 0))))], .none⟩])
 (.cond (.r 3) (.reg [⟨(.some 4), .mv (.r 0), .none⟩, ⟨(.some 5), .nilck (.r 4), .none⟩, ⟨(.some 6), .fadr 0 (.r 5), .none⟩, ⟨(.some 7), .ld (.r 6), .none⟩, ⟨(.some 8), .ixSl 3 (.r 7) (.c (.i (.ofNat (nat_lit 0)))), .none⟩, ⟨(.some 9), .fadr 2 (.r 8), .none⟩, ⟨(.some 10), .ld (.r 9), .none⟩, ⟨(.some 11), .call 135 [(.c (.i (.ofNat (nat_lit 4)))), (.r 10)], .none⟩]) .skip))
 (.reg [⟨(.some 12), .mv (.r 0), .none⟩, ⟨(.some 13), .nilck (.r 12), .none⟩, ⟨(.some 14), .fadr 0 (.r 13), .none⟩, ⟨(.some 15), .ld (.r 14), .none⟩, ⟨(.some 16), .ixSl 3 (.r 15) (.c (.i (.ofNat (nat_lit 0)))), .none⟩, ⟨(.some 17), .fadr 2 (.r 16), .none⟩, ⟨(.some 18), .ld (.r 17), .none⟩, ⟨(.some 19), .call 135 [(.c (.i (.ofNat (nat_lit 3)))), (.r 18)], .none⟩])), 20, []⟩
theorem AxZok130 : cfOf AxZ 130 = some AxZc130 := by kernel_rfl
/- (*conch/gread.reader).want -/
noncomputable def AxZc131 : CF := ⟨(.seq (.reg [⟨(.some 4), .alloc 158 [(.i (.ofNat (nat_lit 0))), (.s 0 (nat_lit 0)), (.i (.ofNat (nat_lit 0)))], .none⟩])
 (.seq (.seq (.reg [⟨(.some 5), .mv (.r 0), .none⟩, ⟨(.some 6), .mv (.r 1), .none⟩, ⟨(.some 7), .call 71 [(.r 5), (.r 6)], .none⟩, ⟨(.some 8), .un .not (.r 7), .none⟩])
 (.cond (.r 8) (.reg [⟨(.some 9), .mv (.r 0), .none⟩, ⟨(.some 10), .call 130 [(.r 9)], .none⟩]) .skip))
 (.seq (.reg [⟨(.some 11), .mv (.r 0), .none⟩, ⟨(.some 12), .call 73 [(.r 11)], .none⟩, ⟨.none, .st 3 (.r 4) (.r 12), .none⟩])
 .ret))), 13, [.cell 4 3 true]⟩
theorem AxZok131 : cfOf AxZ 131 = some AxZc131 := by kernel_rfl
/- (*conch/gread.reader).side -/
noncomputable def AxZc132 : CF := ⟨(.seq (.reg [⟨(.some 2), .alloc 168 [.nils, (.i (.ofNat (nat_lit 0)))], .none⟩])
 (.seq (.reg [⟨(.some 4), .mv (.r 0), .none⟩, ⟨(.some 5), .nilck (.r 4), .none⟩, ⟨(.some 6), .fadr 0 (.r 5), .none⟩, ⟨(.some 7), .ld (.r 6), .none⟩, ⟨(.some 8), .ixSl 3 (.r 7) (.c (.i (.ofNat (nat_lit 0)))), .none⟩, ⟨(.some 9), .fadr 2 (.r 8), .none⟩, ⟨(.some 10), .ld (.r 9), .none⟩, ⟨(.some 11), .build [.nils, (.i (.ofNat (nat_lit 0)))] [(1, 1, (.r 10))], .none⟩, ⟨(.some 3), .alloc 168 [.nils, (.i (.ofNat (nat_lit 0)))], .none⟩, ⟨.none, .st 2 (.r 3) (.r 11), .none⟩])
 (.seq (.block 0 (.loop (.seq (.seq (.reg [⟨(.some 12), .mv (.r 0), .none⟩, ⟨(.some 13), .call 129 [(.r 12)], .none⟩])
 (.cond (.r 13) .skip (.exit 0)))
 (.block 1 (.dreg [(⟨(.some 14), .fadr 0 (.r 3), .none⟩, false), (⟨(.some 15), .ld (.r 14), .none⟩, false), (⟨(.some 16), .mv (.r 0), .none⟩, false), (⟨(.some 17), .call 73 [(.r 16)], .none⟩, true), (⟨(.some 18), .bslice 158 3 1 [(.i (.ofNat (nat_lit 0))), (.s 0 (nat_lit 0)), (.i (.ofNat (nat_lit 0)))] [(0, 3, (.r 17))], .none⟩, true), (⟨(.some 19), .app 158 3 (.r 15) (.r 18), .none⟩, true), (⟨(.some 20), .fadr 0 (.r 3), .none⟩, false), (⟨.none, .st 1 (.r 20) (.r 19), .none⟩, true)] [(⟨(.some 15), .ld (.r 14), .none⟩, 0, 3)])))))
 (.seq (.reg [⟨(.some 21), .lda 2 (.r 3), .none⟩, ⟨.none, .st 2 (.r 2) (.r 21), .none⟩])
 .ret)))), 22, [.cell 2 2 true]⟩
theorem AxZok132 : cfOf AxZ 132 = some AxZc132 := by kernel_rfl
/- (*conch/gread.builder).heads$1 -/
noncomputable def AxZc133 : CF := ⟨(.seq (.reg [⟨(.some 5), .recover, .none⟩, ⟨(.some 1), .mv (.r 5), .none⟩])
 (.seq (.reg [⟨(.some 7), .mv (.r 1), .none⟩, ⟨(.some 8), .tas (.agg [(.i (.ofNat (nat_lit 0))), (.i (.ofNat (nat_lit 0)))]) 93 true (.r 7), .none⟩, ⟨(.some 6), .mv (.r 8), .none⟩, ⟨(.some 9), .ext (.r 6) 0, .none⟩, ⟨(.some 10), .ext (.r 6) 1, .none⟩, ⟨(.some 2), .alloc 93 [(.i (.ofNat (nat_lit 0))), (.i (.ofNat (nat_lit 0)))], .none⟩, ⟨.none, .st 2 (.r 2) (.r 9), .none⟩, ⟨(.some 3), .mv (.r 10), .none⟩])
 (.seq (.seq (.reg [⟨(.some 11), .mv (.r 1), .none⟩, ⟨(.some 12), .eq .iface true (.r 11) (.c .nili), .none⟩, ⟨(.some 13), .mv (.r 12), .none⟩, ⟨(.some 14), .mv (.r 3), (.some (13, true))⟩, ⟨(.some 15), .un .not (.r 14), (.some (13, true))⟩, ⟨(.some 16), .pick (.r 13) (.r 15) (.c (.b false)), .none⟩])
 (.cond (.r 16) (.reg [⟨(.some 17), .mv (.r 1), .none⟩, ⟨.none, .bad, .none⟩]) .skip))
 (.seq (.seq (.reg [⟨(.some 18), .ld (.r 0), .none⟩, ⟨(.some 19), .call 134 [(.r 18)], .none⟩, ⟨(.some 4), .mv (.r 19), .none⟩])
 (.seq (.reg [⟨(.some 20), .mv (.r 4), .none⟩, ⟨(.some 21), .bin .leq (.r 20) (.c (.i (.ofNat (nat_lit 8192)))), .none⟩, ⟨(.some 22), .mv (.r 21), .none⟩, ⟨(.some 23), .mv (.r 1), (.some (22, true))⟩, ⟨(.some 24), .eq .iface false (.r 23) (.c .nili), (.some (22, true))⟩, ⟨(.some 25), .mv (.r 24), (.some (22, true))⟩, ⟨(.some 26), .mv (.r 4), (.some (25, false))⟩, ⟨(.some 27), .fadr 1 (.r 2), (.some (25, false))⟩, ⟨(.some 28), .ld (.r 27), (.some (25, false))⟩, ⟨(.some 29), .bin .lss (.r 26) (.r 28), (.some (25, false))⟩, ⟨(.some 30), .pick (.r 25) (.c (.b true)) (.r 29), (.some (22, true))⟩, ⟨(.some 31), .pick (.r 22) (.r 30) (.c (.b false)), .none⟩])
 (.cond (.r 31) (.reg [⟨(.some 32), .mv (.r 4), .none⟩, ⟨(.some 33), .call 135 [(.c (.i (.ofNat (nat_lit 8)))), (.r 32)], .none⟩]) .skip)))
 (.seq (.reg [⟨(.some 34), .mv (.r 1), .none⟩, ⟨(.some 35), .eq .iface true (.r 34) (.c .nili), .none⟩])
 (.cond (.r 35) (.reg [⟨(.some 36), .lda 2 (.r 2), .none⟩, ⟨(.some 37), .mkIf 93 (.r 36), .none⟩, ⟨.none, .bad, .none⟩]) .skip)))))), 38, []⟩
theorem AxZok133 : cfOf AxZ 133 = some AxZc133 := by kernel_rfl
/- (*conch/gread.builder).second -/
noncomputable def AxZc134 : CF := ⟨(.seq (.reg [⟨(.some 2), .mv (.c (.i (.ofNat (nat_lit 0)))), .none⟩])
 (.seq (.seq (.reg [⟨(.some 3), .mv (.r 0), .none⟩, ⟨(.some 4), .nilck (.r 3), .none⟩, ⟨(.some 5), .fadr 0 (.r 4), .none⟩, ⟨(.some 6), .ld (.r 5), .none⟩, ⟨(.some 7), .nilck (.r 6), .none⟩, ⟨(.some 8), .fadr 2 (.r 7), .none⟩, ⟨(.some 9), .ld (.r 8), .none⟩, ⟨(.some 10), .lenSl (.r 9), .none⟩, ⟨(.some 11), .bin .lss (.r 10) (.c (.i (.ofNat (nat_lit 2)))), .none⟩])
 (.cond (.r 11) (.seq (.reg [⟨(.some 2), .mv (.c (.i (.ofNat (nat_lit 8193)))), .none⟩])
 .ret) .skip))
 (.seq (.reg [⟨(.some 12), .mv (.r 0), .none⟩, ⟨(.some 13), .nilck (.r 12), .none⟩, ⟨(.some 14), .fadr 0 (.r 13), .none⟩, ⟨(.some 15), .ld (.r 14), .none⟩, ⟨(.some 16), .nilck (.r 15), .none⟩, ⟨(.some 17), .fadr 2 (.r 16), .none⟩, ⟨(.some 18), .ld (.r 17), .none⟩, ⟨(.some 19), .ixSl 1 (.r 18) (.c (.i (.ofNat (nat_lit 1)))), .none⟩, ⟨(.some 20), .ld (.r 19), .none⟩, ⟨(.some 2), .mv (.r 20), .none⟩])
 .ret))), 21, [.tmp 2]⟩
theorem AxZok134 : cfOf AxZ 134 = some AxZc134 := by kernel_rfl
/- conch/gread.fail -/
noncomputable def AxZc135 : CF := ⟨(.reg [⟨(.some 4), .mv (.r 0), .none⟩, ⟨(.some 5), .mv (.r 1), .none⟩, ⟨(.some 6), .build [(.i (.ofNat (nat_lit 0))), (.i (.ofNat (nat_lit 0)))] [(0, 1, (.r 4)), (1, 1, (.r 5))], .none⟩, ⟨(.some 7), .mkIf 93 (.r 6), .none⟩, ⟨.none, .bad, .none⟩]), 8, []⟩
theorem AxZok135 : cfOf AxZ 135 = some AxZc135 := by kernel_rfl
/- (*conch/gread.builder).declare -/
noncomputable def AxZc136 : CF := ⟨(.seq (.reg [⟨(.some 5), .mv (.r 0), .none⟩, ⟨(.some 6), .nilck (.r 5), .none⟩, ⟨(.some 7), .fadr 0 (.r 6), .none⟩, ⟨(.some 8), .ld (.r 7), .none⟩, ⟨(.some 9), .nilck (.r 8), .none⟩, ⟨(.some 10), .fadr 3 (.r 9), .none⟩, ⟨(.some 11), .ld (.r 10), .none⟩, ⟨(.some 2), .mv (.r 11), .none⟩])
 (.seq (.seq (.reg [⟨(.some 12), .mv (.r 0), .none⟩, ⟨(.some 13), .nilck (.r 12), .none⟩, ⟨(.some 14), .fadr 0 (.r 13), .none⟩, ⟨(.some 15), .ld (.r 14), .none⟩, ⟨(.some 16), .nilck (.r 15), .none⟩, ⟨(.some 17), .fadr 1 (.r 16), .none⟩, ⟨(.some 18), .ld (.r 17), .none⟩, ⟨(.some 19), .lenSl (.r 18), .none⟩, ⟨(.some 20), .mv (.c (.i (.ofNat (nat_lit 0)))), .none⟩])
 (.block 0 (.loop (.seq (.reg [⟨(.some 21), .bin .lss (.r 20) (.r 19), .none⟩])
 (.seq (.cond (.r 21) .skip (.exit 0))
 (.seq (.block 1 (.seq (.reg [⟨(.some 22), .ixSl 3 (.r 18) (.r 20), .none⟩, ⟨(.some 23), .lda 3 (.r 22), .none⟩, ⟨(.some 4), .alloc 158 [(.i (.ofNat (nat_lit 0))), (.s 0 (nat_lit 0)), (.i (.ofNat (nat_lit 0)))], .none⟩, ⟨.none, .st 3 (.r 4) (.r 23), .none⟩])
 (.seq (.seq (.dreg [(⟨(.some 24), .mv (.r 2), .none⟩, false), (⟨(.some 25), .lenSl (.r 24), .none⟩, false), (⟨(.some 26), .bin .gtr (.r 25) (.c (.i (.ofNat (nat_lit 0)))), .none⟩, false), (⟨(.some 27), .mv (.r 26), .none⟩, false), (⟨(.some 28), .mv (.r 0), (.some (27, true))⟩, false), (⟨(.some 29), .nilck (.r 28), (.some (27, true))⟩, false), (⟨(.some 30), .fadr 0 (.r 29), (.some (27, true))⟩, false), (⟨(.some 31), .ld (.r 30), (.some (27, true))⟩, false), (⟨(.some 32), .nilck (.r 31), (.some (27, true))⟩, false), (⟨(.some 33), .fadr 2 (.r 32), (.some (27, true))⟩, false), (⟨(.some 34), .ld (.r 33), (.some (27, true))⟩, false), (⟨(.some 35), .ixSl 1 (.r 34) (.c (.i (.ofNat (nat_lit 0)))), (.some (27, true))⟩, false), (⟨(.some 36), .ld (.r 35), (.some (27, true))⟩, false), (⟨(.some 37), .fadr 2 (.r 4), (.some (27, true))⟩, false), (⟨(.some 38), .ld (.r 37), (.some (27, true))⟩, false), (⟨(.some 39), .bin .lss (.r 36) (.r 38), (.some (27, true))⟩, false), (⟨(.some 40), .pick (.r 27) (.r 39) (.c (.b false)), .none⟩, false)] [])
 (.cond (.r 40) (.seq (.reg [⟨(.some 41), .mv (.r 0), .none⟩, ⟨(.some 42), .call 172 [(.r 41)], .none⟩])
 (.reg [⟨(.some 2), .mv (.c .nils), .none⟩])) .skip))
 (.seq (.seq (.dreg [(⟨(.some 43), .mv (.r 0), .none⟩, false), (⟨(.some 44), .nilck (.r 43), .none⟩, false), (⟨(.some 45), .fadr 1 (.r 44), .none⟩, false), (⟨(.some 46), .ld (.r 45), .none⟩, false), (⟨(.some 47), .fadr 1 (.r 4), .none⟩, false), (⟨(.some 48), .ld (.r 47), .none⟩, false), (⟨(.some 49), .lookup (.leaf .str) (.i (.ofNat (nat_lit 0))) false (.r 46) (.r 48), .none⟩, false), (⟨(.some 50), .bin .gtr (.r 49) (.c (.i (.ofNat (nat_lit 0)))), .none⟩, false)] [])
 (.cond (.r 50) (.reg [⟨(.some 51), .fadr 2 (.r 4), .none⟩, ⟨(.some 52), .ld (.r 51), .none⟩, ⟨(.some 53), .call 135 [(.c (.i (.ofNat (nat_lit 8)))), (.r 52)], .none⟩]) .skip))
 (.reg [⟨(.some 54), .mv (.r 0), .none⟩, ⟨(.some 55), .lda 3 (.r 4), .none⟩, ⟨(.some 56), .call 173 [(.r 54), (.r 55)], .none⟩])))))
 (.reg [⟨(.some 57), .bin .add (.r 20) (.c (.i (.ofNat (nat_lit 1)))), .none⟩, ⟨(.some 20), .mv (.r 57), .none⟩])))))))
 (.seq (.reg [⟨(.some 58), .mv (.r 2), .none⟩, ⟨(.some 59), .lenSl (.r 58), .none⟩, ⟨(.some 60), .bin .gtr (.r 59) (.c (.i (.ofNat (nat_lit 0)))), .none⟩])
 (.cond (.r 60) (.reg [⟨(.some 61), .mv (.r 0), .none⟩, ⟨(.some 62), .call 172 [(.r 61)], .none⟩]) .skip)))), 63, []⟩
theorem AxZok136 : cfOf AxZ 136 = some AxZc136 := by kernel_rfl
/- (*conch/gread.builder).symbol -/
noncomputable def AxZc137 : CF := ⟨(.seq (.reg [⟨(.some 4), .box 158 (.r 1), .none⟩])
 (.block 0 (.seq (.reg [⟨(.some 7), .mv (.r 2), .none⟩, ⟨(.some 8), .bin .geq (.r 7) (.c (.i (.ofNat (nat_lit 8)))), .none⟩, ⟨(.some 6), .mv (.r 8), .none⟩])
 (.cond (.r 6) (.reg [⟨(.some 9), .fadr 2 (.r 4), .none⟩, ⟨(.some 10), .ld (.r 9), .none⟩, ⟨(.some 11), .call 135 [(.c (.i (.ofNat (nat_lit 7)))), (.r 10)], .none⟩]) (.seq (.dreg [(⟨(.some 13), .mv (.r 0), .none⟩, false), (⟨(.some 14), .nilck (.r 13), .none⟩, false), (⟨(.some 15), .fadr 1 (.r 14), .none⟩, false), (⟨(.some 16), .ld (.r 15), .none⟩, false), (⟨(.some 17), .fadr 1 (.r 4), .none⟩, false), (⟨(.some 18), .ld (.r 17), .none⟩, false), (⟨(.some 19), .lookup (.leaf .str) (.i (.ofNat (nat_lit 0))) false (.r 16) (.r 18), .none⟩, false), (⟨(.some 20), .bin .gtr (.r 19) (.c (.i (.ofNat (nat_lit 0)))), .none⟩, false), (⟨(.some 12), .mv (.r 20), .none⟩, false)] [])
 (.cond (.r 12) .skip (.seq (.reg [⟨(.some 22), .fadr 0 (.r 4), .none⟩, ⟨(.some 23), .ld (.r 22), .none⟩, ⟨(.some 24), .bin .eql (.r 23) (.c (.i (.ofNat (nat_lit 2)))), .none⟩, ⟨(.some 21), .mv (.r 24), .none⟩])
 (.cond (.r 21) (.reg [⟨(.some 25), .mv (.r 0), .none⟩, ⟨(.some 26), .lda 3 (.r 4), .none⟩, ⟨(.some 27), .call 173 [(.r 25), (.r 26)], .none⟩]) (.seq (.dreg [(⟨(.some 29), .mv (.r 0), .none⟩, false), (⟨(.some 30), .nilck (.r 29), .none⟩, false), (⟨(.some 31), .fadr 0 (.r 30), .none⟩, false), (⟨(.some 32), .ld (.r 31), .none⟩, false), (⟨(.some 33), .nilck (.r 32), .none⟩, false), (⟨(.some 34), .fadr 5 (.r 33), .none⟩, false), (⟨(.some 35), .ld (.r 34), .none⟩, false), (⟨(.some 36), .fadr 1 (.r 4), .none⟩, false), (⟨(.some 37), .ld (.r 36), .none⟩, false), (⟨(.some 38), .lookup (.leaf .str) (.i (.ofNat (nat_lit 0))) false (.r 35) (.r 37), .none⟩, false), (⟨(.some 39), .bin .eql (.r 38) (.c (.i (.ofNat (nat_lit 0)))), .none⟩, false), (⟨(.some 28), .mv (.r 39), .none⟩, false)] [])
 (.cond (.r 28) (.reg [⟨(.some 40), .fadr 2 (.r 4), .none⟩, ⟨(.some 41), .ld (.r 40), .none⟩, ⟨(.some 42), .call 135 [(.c (.i (.ofNat (nat_lit 9)))), (.r 41)], .none⟩]) .skip)))))))))), 43, []⟩
theorem AxZok137 : cfOf AxZ 137 = some AxZc137 := by kernel_rfl
/- slices.ContainsFunc[[][]string,[]string] -/
noncomputable def AxZc138 : CF := ⟨(.seq (.reg [⟨(.some 4), .mv (.c (.b false)), .none⟩])
 (.seq (.reg [⟨(.some 5), .mv (.r 0), .none⟩, ⟨(.some 6), .mv (.r 1), .none⟩, ⟨(.some 7), .call 174 [(.r 5), (.r 6)], .none⟩, ⟨(.some 8), .bin .geq (.r 7) (.c (.i (.ofNat (nat_lit 0)))), .none⟩, ⟨(.some 4), .mv (.r 8), .none⟩])
 .ret)), 9, [.tmp 4]⟩
theorem AxZok138 : cfOf AxZ 138 = some AxZc138 := by kernel_rfl
/- (*conch/gread.builder).side$1 -/
noncomputable def AxZc139 : CF := ⟨(.seq (.reg [⟨(.some 3), .mv (.c (.b false)), .none⟩])
 (.seq (.reg [⟨(.some 4), .ld (.r 1), .none⟩, ⟨(.some 5), .mv (.r 0), .none⟩, ⟨(.some 6), .call 140 [(.r 4), (.r 5)], .none⟩, ⟨(.some 3), .mv (.r 6), .none⟩])
 .ret)), 7, [.tmp 3]⟩
theorem AxZok139 : cfOf AxZ 139 = some AxZc139 := by kernel_rfl
/- slices.Equal[[]string,string] -/
noncomputable def AxZc140 : CF := ⟨(.seq (.reg [⟨(.some 4), .mv (.c (.b false)), .none⟩])
 (.seq (.seq (.reg [⟨(.some 6), .mv (.r 0), .none⟩, ⟨(.some 7), .lenSl (.r 6), .none⟩, ⟨(.some 8), .mv (.r 1), .none⟩, ⟨(.some 9), .lenSl (.r 8), .none⟩, ⟨(.some 10), .bin .neq (.r 7) (.r 9), .none⟩])
 (.cond (.r 10) (.seq (.reg [⟨(.some 4), .mv (.c (.b false)), .none⟩])
 .ret) .skip))
 (.seq (.seq (.reg [⟨(.some 11), .mv (.r 0), .none⟩, ⟨(.some 12), .lenSl (.r 11), .none⟩, ⟨(.some 13), .mv (.c (.i (.ofNat (nat_lit 0)))), .none⟩])
 (.block 0 (.loop (.seq (.reg [⟨(.some 14), .bin .lss (.r 13) (.r 12), .none⟩])
 (.seq (.cond (.r 14) .skip (.exit 0))
 (.seq (.block 1 (.seq (.reg [⟨(.some 15), .mv (.r 13), .none⟩, ⟨(.some 5), .mv (.r 15), .none⟩])
 (.seq (.dreg [(⟨(.some 16), .mv (.r 0), .none⟩, false), (⟨(.some 17), .mv (.r 5), .none⟩, false), (⟨(.some 18), .ixSl 1 (.r 16) (.r 17), .none⟩, false), (⟨(.some 19), .ld (.r 18), .none⟩, false), (⟨(.some 20), .mv (.r 1), .none⟩, false), (⟨(.some 21), .mv (.r 5), .none⟩, false), (⟨(.some 22), .ixSl 1 (.r 20) (.r 21), .none⟩, false), (⟨(.some 23), .ld (.r 22), .none⟩, false), (⟨(.some 24), .bin .neq (.r 19) (.r 23), .none⟩, false)] [])
 (.cond (.r 24) (.seq (.reg [⟨(.some 4), .mv (.c (.b false)), .none⟩])
 .ret) .skip))))
 (.reg [⟨(.some 25), .bin .add (.r 13) (.c (.i (.ofNat (nat_lit 1)))), .none⟩, ⟨(.some 13), .mv (.r 25), .none⟩])))))))
 (.seq (.reg [⟨(.some 4), .mv (.c (.b true)), .none⟩])
 .ret)))), 26, [.tmp 4]⟩
theorem AxZok140 : cfOf AxZ 140 = some AxZc140 := by kernel_rfl
/- slices.Index[[]string,string] -/
noncomputable def AxZc141 : CF := ⟨(.seq (.reg [⟨(.some 4), .mv (.c (.i (.ofNat (nat_lit 0)))), .none⟩])
 (.seq (.seq (.reg [⟨(.some 6), .mv (.r 0), .none⟩, ⟨(.some 7), .lenSl (.r 6), .none⟩, ⟨(.some 8), .mv (.c (.i (.ofNat (nat_lit 0)))), .none⟩])
 (.block 0 (.loop (.seq (.reg [⟨(.some 9), .bin .lss (.r 8) (.r 7), .none⟩])
 (.seq (.cond (.r 9) .skip (.exit 0))
 (.seq (.block 1 (.seq (.reg [⟨(.some 10), .mv (.r 8), .none⟩, ⟨(.some 5), .mv (.r 10), .none⟩])
 (.seq (.reg [⟨(.some 11), .mv (.r 1), .none⟩, ⟨(.some 12), .mv (.r 0), .none⟩, ⟨(.some 13), .mv (.r 5), .none⟩, ⟨(.some 14), .ixSl 1 (.r 12) (.r 13), .none⟩, ⟨(.some 15), .ld (.r 14), .none⟩, ⟨(.some 16), .bin .eql (.r 11) (.r 15), .none⟩])
 (.cond (.r 16) (.seq (.reg [⟨(.some 17), .mv (.r 5), .none⟩, ⟨(.some 4), .mv (.r 17), .none⟩])
 .ret) .skip))))
 (.reg [⟨(.some 18), .bin .add (.r 8) (.c (.i (.ofNat (nat_lit 1)))), .none⟩, ⟨(.some 8), .mv (.r 18), .none⟩])))))))
 (.seq (.reg [⟨(.some 4), .mv (.c (.i (.negSucc (nat_lit 0)))), .none⟩])
 .ret))), 19, [.tmp 4]⟩
theorem AxZok141 : cfOf AxZ 141 = some AxZc141 := by kernel_rfl
/- conch/look.Of -/
noncomputable def AxZc142 : CF := ⟨(.seq (.reg [⟨(.some 1), .box 53 (.r 0), .none⟩, ⟨(.some 2), .mv (.c .nils), .none⟩, ⟨(.some 3), .mv (.c (.i (.ofNat (nat_lit 0)))), .none⟩])
 (.seq (.reg [⟨(.some 14), .lda 4 (.r 1), .none⟩, ⟨(.some 15), .call 44 [(.r 14)], .none⟩, ⟨(.some 13), .mv (.r 15), .none⟩, ⟨(.some 16), .ext (.r 13) 0, .none⟩, ⟨(.some 17), .ext (.r 13) 1, .none⟩, ⟨(.some 4), .mv (.r 16), .none⟩, ⟨(.some 5), .mv (.r 17), .none⟩])
 (.seq (.seq (.reg [⟨(.some 18), .mv (.r 5), .none⟩, ⟨(.some 19), .bin .neq (.r 18) (.c (.i (.ofNat (nat_lit 0)))), .none⟩])
 (.cond (.r 19) (.seq (.reg [⟨(.some 20), .mv (.r 5), .none⟩, ⟨(.some 2), .mv (.c .nils), .none⟩, ⟨(.some 3), .mv (.r 20), .none⟩])
 .ret) .skip))
 (.seq (.dreg [(⟨(.some 21), .lda 4 (.r 1), .none⟩, false), (⟨(.some 22), .mv (.r 4), .none⟩, false), (⟨(.some 23), .mv (.r 4), .none⟩, false), (⟨(.some 24), .lenSl (.r 23), .none⟩, false), (⟨(.some 25), .mkSl 317 1 [.nils] (.r 24) (.r 24), .none⟩, true), (⟨(.some 26), .build [.nils, .nils, .nils, (.i (.ofNat (nat_lit 0))), .nils, .nils, .nils, .nils, .nils, .nils, .nils, .nils, .nils] [(0, 4, (.r 21)), (4, 1, (.r 22)), (12, 1, (.r 25))], .none⟩, false), (⟨(.some 27), .box 283 (.r 26), .none⟩, true), (⟨(.some 6), .mv (.r 27), .none⟩, false)] [(⟨(.some 21), .lda 4 (.r 1), .none⟩, 0, 2)])
 (.seq (.reg [⟨(.some 28), .mv (.r 6), .none⟩, ⟨(.some 29), .call 175 [(.r 28)], .none⟩])
 (.seq (.seq (.reg [⟨(.some 30), .mv (.r 4), .none⟩, ⟨(.some 31), .lenSl (.r 30), .none⟩, ⟨(.some 32), .mv (.c (.i (.ofNat (nat_lit 0)))), .none⟩])
 (.block 0 (.loop (.seq (.reg [⟨(.some 33), .bin .lss (.r 32) (.r 31), .none⟩])
 (.seq (.cond (.r 33) .skip (.exit 0))
 (.seq (.block 1 (.seq (.reg [⟨(.some 34), .mv (.r 32), .none⟩, ⟨(.some 7), .mv (.r 34), .none⟩])
 (.seq (.dreg [(⟨(.some 35), .mv (.r 6), .none⟩, false), (⟨(.some 36), .mv (.r 6), .none⟩, false), (⟨(.some 37), .nilck (.r 36), .none⟩, false), (⟨(.some 38), .fadr 9 (.r 37), .none⟩, false), (⟨(.some 39), .ld (.r 38), .none⟩, false), (⟨(.some 40), .mv (.r 6), .none⟩, false), (⟨(.some 41), .nilck (.r 40), .none⟩, false), (⟨(.some 42), .fadr 10 (.r 41), .none⟩, false), (⟨(.some 43), .ld (.r 42), .none⟩, false), (⟨(.some 44), .lenSl (.r 43), .none⟩, false), (⟨(.some 45), .bslice 3 1 1 [(.i (.ofNat (nat_lit 0)))] [(0, 1, (.r 44))], .none⟩, true), (⟨(.some 46), .app 3 1 (.r 39) (.r 45), .none⟩, true), (⟨(.some 47), .nilck (.r 35), .none⟩, false), (⟨(.some 48), .fadr 9 (.r 47), .none⟩, false), (⟨.none, .st 1 (.r 48) (.r 46), .none⟩, true)] [(⟨(.some 39), .ld (.r 38), .none⟩, 0, 2)])
 (.seq (.reg [⟨(.some 49), .mv (.r 4), .none⟩, ⟨(.some 50), .mv (.r 7), .none⟩, ⟨(.some 51), .ixSl 2 (.r 49) (.r 50), .none⟩, ⟨(.some 52), .fadr 0 (.r 51), .none⟩, ⟨(.some 53), .ld (.r 52), .none⟩, ⟨(.some 54), .lenSl (.r 53), .none⟩, ⟨(.some 55), .mv (.c (.i (.ofNat (nat_lit 0)))), .none⟩])
 (.block 2 (.loop (.seq (.reg [⟨(.some 56), .bin .lss (.r 55) (.r 54), .none⟩])
 (.seq (.cond (.r 56) .skip (.exit 2))
 (.seq (.block 3 (.reg [⟨(.some 57), .mv (.r 6), .none⟩, ⟨(.some 58), .call 176 [(.r 57)], .none⟩]))
 (.reg [⟨(.some 59), .bin .add (.r 55) (.c (.i (.ofNat (nat_lit 1)))), .none⟩, ⟨(.some 55), .mv (.r 59), .none⟩]))))))))))
 (.reg [⟨(.some 60), .bin .add (.r 32) (.c (.i (.ofNat (nat_lit 1)))), .none⟩, ⟨(.some 32), .mv (.r 60), .none⟩])))))))
 (.seq (.reg [⟨(.some 61), .mv (.r 6), .none⟩, ⟨(.some 62), .nilck (.r 61), .none⟩, ⟨(.some 63), .fadr 10 (.r 62), .none⟩, ⟨(.some 64), .ld (.r 63), .none⟩, ⟨(.some 65), .ixSl 1 (.r 64) (.c (.i (.ofNat (nat_lit 0)))), .none⟩, ⟨(.some 66), .ld (.r 65), .none⟩, ⟨(.some 67), .call 177 [(.r 66), (.c (.i (.ofNat (nat_lit 0))))], .none⟩])
 (.seq (.seq (.reg [⟨(.some 68), .mv (.r 4), .none⟩, ⟨(.some 69), .lenSl (.r 68), .none⟩, ⟨(.some 70), .mv (.c (.i (.ofNat (nat_lit 0)))), .none⟩])
 (.block 4 (.loop (.seq (.reg [⟨(.some 71), .bin .lss (.r 70) (.r 69), .none⟩])
 (.seq (.cond (.r 71) .skip (.exit 4))
 (.seq (.block 5 (.seq (.reg [⟨(.some 72), .mv (.r 70), .none⟩, ⟨(.some 8), .mv (.r 72), .none⟩])
 (.seq (.reg [⟨(.some 73), .mv (.r 4), .none⟩, ⟨(.some 74), .mv (.r 8), .none⟩, ⟨(.some 75), .ixSl 2 (.r 73) (.r 74), .none⟩, ⟨(.some 76), .fadr 0 (.r 75), .none⟩, ⟨(.some 77), .ld (.r 76), .none⟩, ⟨(.some 78), .lenSl (.r 77), .none⟩, ⟨(.some 79), .mv (.c (.i (.ofNat (nat_lit 0)))), .none⟩])
 (.block 6 (.loop (.seq (.reg [⟨(.some 80), .bin .lss (.r 79) (.r 78), .none⟩])
 (.seq (.cond (.r 80) .skip (.exit 6))
 (.seq (.block 7 (.seq (.reg [⟨(.some 81), .mv (.r 79), .none⟩, ⟨(.some 82), .ixSl 2 (.r 77) (.r 79), .none⟩, ⟨(.some 83), .lda 2 (.r 82), .none⟩, ⟨(.some 10), .alloc 259 [(.i (.ofNat (nat_lit 0))), (.i (.ofNat (nat_lit 0)))], .none⟩, ⟨(.some 9), .mv (.r 81), .none⟩, ⟨.none, .st 2 (.r 10) (.r 83), .none⟩])
 (.dreg [(⟨(.some 84), .mv (.r 6), .none⟩, false), (⟨(.some 85), .mv (.r 8), .none⟩, false), (⟨(.some 86), .mv (.r 6), .none⟩, false), (⟨(.some 87), .nilck (.r 86), .none⟩, false), (⟨(.some 88), .fadr 9 (.r 87), .none⟩, false), (⟨(.some 89), .ld (.r 88), .none⟩, false), (⟨(.some 90), .mv (.r 8), .none⟩, false), (⟨(.some 91), .ixSl 1 (.r 89) (.r 90), .none⟩, false), (⟨(.some 92), .ld (.r 91), .none⟩, false), (⟨(.some 93), .mv (.r 9), .none⟩, false), (⟨(.some 94), .bin .add (.r 92) (.r 93), .none⟩, false), (⟨(.some 95), .lda 2 (.r 10), .none⟩, false), (⟨(.some 96), .call 178 [(.r 84), (.r 85), (.r 94), (.r 95)], .none⟩, true)] [])))
 (.reg [⟨(.some 97), .bin .add (.r 79) (.c (.i (.ofNat (nat_lit 1)))), .none⟩, ⟨(.some 79), .mv (.r 97), .none⟩])))))))))
 (.reg [⟨(.some 98), .bin .add (.r 70) (.c (.i (.ofNat (nat_lit 1)))), .none⟩, ⟨(.some 70), .mv (.r 98), .none⟩])))))))
 (.seq (.reg [⟨(.some 99), .mv (.r 6), .none⟩, ⟨(.some 100), .call 179 [(.r 99)], .none⟩])
 (.seq (.reg [⟨(.some 11), .mv (.c .nils), .none⟩])
 (.seq (.seq (.reg [⟨(.some 101), .mv (.r 4), .none⟩, ⟨(.some 102), .lenSl (.r 101), .none⟩, ⟨(.some 103), .mv (.c (.i (.ofNat (nat_lit 0)))), .none⟩])
 (.block 8 (.loop (.seq (.reg [⟨(.some 104), .bin .lss (.r 103) (.r 102), .none⟩])
 (.seq (.cond (.r 104) .skip (.exit 8))
 (.seq (.block 9 (.seq (.reg [⟨(.some 105), .mv (.r 103), .none⟩, ⟨(.some 12), .mv (.r 105), .none⟩])
 (.reg [⟨(.some 106), .mv (.r 11), .none⟩, ⟨(.some 107), .mv (.r 6), .none⟩, ⟨(.some 108), .mv (.r 12), .none⟩, ⟨(.some 109), .call 180 [(.r 107), (.r 108)], .none⟩, ⟨(.some 110), .bslice 188 1 1 [.nils] [(0, 1, (.r 109))], .none⟩, ⟨(.some 111), .app 188 1 (.r 106) (.r 110), .none⟩, ⟨(.some 11), .mv (.r 111), .none⟩])))
 (.reg [⟨(.some 112), .bin .add (.r 103) (.c (.i (.ofNat (nat_lit 1)))), .none⟩, ⟨(.some 103), .mv (.r 112), .none⟩])))))))
 (.seq (.reg [⟨(.some 113), .mv (.r 11), .none⟩, ⟨(.some 2), .mv (.r 113), .none⟩, ⟨(.some 3), .mv (.c (.i (.ofNat (nat_lit 0)))), .none⟩])
 .ret)))))))))))), 114, [.tmp 2, .tmp 3]⟩
theorem AxZok142 : cfOf AxZ 142 = some AxZc142 := by kernel_rfl
/- (conch/acts.made).at -/
noncomputable def AxZc143 : CF := ⟨(.seq (.reg [⟨(.some 3), .box 173 (.r 0), .none⟩, ⟨(.some 6), .mv (.c .nils), .none⟩])
 (.seq (.reg [⟨(.some 7), .alloc 184 [.nils], .none⟩])
 (.seq (.seq (.dreg [(⟨(.some 9), .fadr 0 (.r 3), .none⟩, false), (⟨(.some 10), .ld (.r 9), .none⟩, false), (⟨(.some 11), .fadr 1 (.r 3), .none⟩, false), (⟨(.some 12), .ld (.r 11), .none⟩, false), (⟨(.some 13), .mv (.r 1), .none⟩, false), (⟨(.some 14), .ixSl 2 (.r 12) (.r 13), .none⟩, false), (⟨(.some 15), .lda 2 (.r 14), .none⟩, false), (⟨(.some 16), .fadr 2 (.r 3), .none⟩, false), (⟨(.some 17), .ld (.r 16), .none⟩, false), (⟨(.some 18), .mv (.r 1), .none⟩, false), (⟨(.some 19), .ixSl 1 (.r 17) (.r 18), .none⟩, false), (⟨(.some 20), .ld (.r 19), .none⟩, false), (⟨(.some 21), .mv (.r 2), .none⟩, false), (⟨(.some 22), .call 82 [(.r 10), (.r 15), (.r 20), (.r 21)], .none⟩, true)] [])
 (.block 0 (.rng (.r 22) [23] (.reg [⟨(.some 8), .alloc 83 [(.i (.ofNat (nat_lit 0))), (.i (.ofNat (nat_lit 0)))], .none⟩, ⟨.none, .st 2 (.r 8) (.r 23), .none⟩]) (.block 1 (.reg [⟨(.some 24), .ld (.r 7), .none⟩, ⟨(.some 25), .lda 2 (.r 8), .none⟩, ⟨(.some 26), .bslice 83 2 1 [(.i (.ofNat (nat_lit 0))), (.i (.ofNat (nat_lit 0)))] [(0, 2, (.r 25))], .none⟩, ⟨(.some 27), .app 83 2 (.r 24) (.r 26), .none⟩, ⟨.none, .st 1 (.r 7) (.r 27), .none⟩])))))
 (.seq (.reg [⟨(.some 28), .ld (.r 7), .none⟩, ⟨(.some 6), .mv (.r 28), .none⟩])
 .ret)))), 29, [.tmp 6]⟩
theorem AxZok143 : cfOf AxZ 143 = some AxZc143 := by kernel_rfl
/- conch/acts.possible$1 -/
noncomputable def AxZc144 : CF := ⟨(.seq (.seq (.reg [⟨(.some 12), .fadr 1 (.r 1), .none⟩, ⟨(.some 13), .ld (.r 12), .none⟩, ⟨(.some 14), .lenSl (.r 13), .none⟩, ⟨(.some 15), .mv (.c (.i (.ofNat (nat_lit 0)))), .none⟩])
 (.block 0 (.loop (.seq (.reg [⟨(.some 16), .bin .lss (.r 15) (.r 14), .none⟩])
 (.seq (.cond (.r 16) .skip (.exit 0))
 (.seq (.block 1 (.seq (.reg [⟨(.some 17), .ixSl 2 (.r 13) (.r 15), .none⟩, ⟨(.some 18), .lda 2 (.r 17), .none⟩, ⟨(.some 7), .alloc 201 [(.i (.ofNat (nat_lit 0))), (.i (.ofNat (nat_lit 0)))], .none⟩, ⟨.none, .st 2 (.r 7) (.r 18), .none⟩])
 (.seq (.reg [⟨(.some 19), .ld (.r 2), .none⟩, ⟨(.some 20), .bin .gtr (.r 19) (.c (.i (.ofNat (nat_lit 0)))), .none⟩, ⟨(.some 21), .mv (.r 20), .none⟩, ⟨(.some 22), .fadr 0 (.r 7), (.some (21, true))⟩, ⟨(.some 23), .ld (.r 22), (.some (21, true))⟩, ⟨(.some 24), .ld (.r 2), (.some (21, true))⟩, ⟨(.some 25), .bin .eql (.r 23) (.r 24), (.some (21, true))⟩, ⟨(.some 26), .pick (.r 21) (.r 25) (.c (.b false)), .none⟩, ⟨(.some 27), .mv (.r 26), .none⟩, ⟨(.some 28), .mv (.r 0), (.some (27, true))⟩, ⟨(.some 29), .fadr 1 (.r 7), (.some (27, true))⟩, ⟨(.some 30), .ld (.r 29), (.some (27, true))⟩, ⟨(.some 31), .build [(.i (.ofNat (nat_lit 0))), (.i (.ofNat (nat_lit 0)))] [(0, 1, (.c (.i (.ofNat (nat_lit 1))))), (1, 1, (.r 30))], (.some (27, true))⟩, ⟨(.some 32), .callv (.r 28) [(.r 31)], (.some (27, true))⟩, ⟨(.some 33), .un .not (.r 32), (.some (27, true))⟩, ⟨(.some 34), .pick (.r 27) (.r 33) (.c (.b false)), .none⟩])
 (.cond (.r 34) .ret .skip))))
 (.reg [⟨(.some 35), .bin .add (.r 15) (.c (.i (.ofNat (nat_lit 1)))), .none⟩, ⟨(.some 15), .mv (.r 35), .none⟩])))))))
 (.seq (.seq (.reg [⟨(.some 36), .ld (.r 3), .none⟩, ⟨(.some 37), .lenSl (.r 36), .none⟩, ⟨(.some 38), .mv (.c (.i (.ofNat (nat_lit 0)))), .none⟩])
 (.block 2 (.loop (.seq (.reg [⟨(.some 39), .bin .lss (.r 38) (.r 37), .none⟩])
 (.seq (.cond (.r 39) .skip (.exit 2))
 (.seq (.block 3 (.seq (.reg [⟨(.some 40), .ixSl 2 (.r 36) (.r 38), .none⟩, ⟨(.some 41), .lda 2 (.r 40), .none⟩, ⟨(.some 9), .alloc 255 [(.i (.ofNat (nat_lit 0))), .nils], .none⟩, ⟨.none, .st 2 (.r 9) (.r 41), .none⟩])
 (.seq (.reg [⟨(.some 42), .fadr 0 (.r 9), .none⟩, ⟨(.some 43), .ld (.r 42), .none⟩, ⟨(.some 44), .ld (.r 4), .none⟩, ⟨(.some 45), .bin .eql (.r 43) (.r 44), .none⟩, ⟨(.some 46), .mv (.r 45), .none⟩, ⟨(.some 47), .fadr 1 (.r 9), (.some (46, true))⟩, ⟨(.some 48), .ld (.r 47), (.some (46, true))⟩, ⟨(.some 49), .ld (.r 2), (.some (46, true))⟩, ⟨(.some 50), .call 104 [(.r 48), (.r 49)], (.some (46, true))⟩, ⟨(.some 51), .pick (.r 46) (.r 50) (.c (.b false)), .none⟩, ⟨(.some 52), .mv (.r 51), .none⟩, ⟨(.some 53), .mv (.r 0), (.some (52, true))⟩, ⟨(.some 54), .build [(.i (.ofNat (nat_lit 0))), (.i (.ofNat (nat_lit 0)))] [(0, 1, (.c (.i (.ofNat (nat_lit 3)))))], (.some (52, true))⟩, ⟨(.some 55), .callv (.r 53) [(.r 54)], (.some (52, true))⟩, ⟨(.some 56), .un .not (.r 55), (.some (52, true))⟩, ⟨(.some 57), .pick (.r 52) (.r 56) (.c (.b false)), .none⟩])
 (.cond (.r 57) .ret .skip))))
 (.reg [⟨(.some 58), .bin .add (.r 38) (.c (.i (.ofNat (nat_lit 1)))), .none⟩, ⟨(.some 38), .mv (.r 58), .none⟩])))))))
 (.seq (.reg [⟨(.some 59), .ld (.r 3), .none⟩, ⟨(.some 60), .lenSl (.r 59), .none⟩, ⟨(.some 61), .mv (.c (.i (.ofNat (nat_lit 0)))), .none⟩])
 (.block 4 (.loop (.seq (.reg [⟨(.some 62), .bin .lss (.r 61) (.r 60), .none⟩])
 (.seq (.cond (.r 62) .skip (.exit 4))
 (.seq (.block 5 (.seq (.reg [⟨(.some 63), .ixSl 2 (.r 59) (.r 61), .none⟩, ⟨(.some 64), .lda 2 (.r 63), .none⟩, ⟨(.some 11), .alloc 255 [(.i (.ofNat (nat_lit 0))), .nils], .none⟩, ⟨.none, .st 2 (.r 11) (.r 64), .none⟩])
 (.seq (.reg [⟨(.some 65), .fadr 0 (.r 11), .none⟩, ⟨(.some 66), .ld (.r 65), .none⟩, ⟨(.some 67), .ld (.r 4), .none⟩, ⟨(.some 68), .bin .neq (.r 66) (.r 67), .none⟩, ⟨(.some 69), .mv (.r 68), .none⟩, ⟨(.some 70), .fadr 1 (.r 11), (.some (69, true))⟩, ⟨(.some 71), .ld (.r 70), (.some (69, true))⟩, ⟨(.some 72), .ld (.r 2), (.some (69, true))⟩, ⟨(.some 73), .call 104 [(.r 71), (.r 72)], (.some (69, true))⟩, ⟨(.some 74), .pick (.r 69) (.r 73) (.c (.b false)), .none⟩, ⟨(.some 75), .mv (.r 74), .none⟩, ⟨(.some 76), .mv (.r 0), (.some (75, true))⟩, ⟨(.some 77), .fadr 0 (.r 11), (.some (75, true))⟩, ⟨(.some 78), .ld (.r 77), (.some (75, true))⟩, ⟨(.some 79), .build [(.i (.ofNat (nat_lit 0))), (.i (.ofNat (nat_lit 0)))] [(0, 1, (.c (.i (.ofNat (nat_lit 2))))), (1, 1, (.r 78))], (.some (75, true))⟩, ⟨(.some 80), .callv (.r 76) [(.r 79)], (.some (75, true))⟩, ⟨(.some 81), .un .not (.r 80), (.some (75, true))⟩, ⟨(.some 82), .pick (.r 75) (.r 81) (.c (.b false)), .none⟩])
 (.cond (.r 82) .ret .skip))))
 (.reg [⟨(.some 83), .bin .add (.r 61) (.c (.i (.ofNat (nat_lit 1)))), .none⟩, ⟨(.some 61), .mv (.r 83), .none⟩]))))))))), 84, []⟩
theorem AxZok144 : cfOf AxZ 144 = some AxZc144 := by kernel_rfl
/- (*conch/auto.builder).rules -/
noncomputable def AxZc145 : CF := ⟨(.seq (.reg [⟨(.some 4), .mv (.c .nils), .none⟩])
 (.seq (.reg [⟨(.some 5), .mv (.c .nils), .none⟩])
 (.seq (.seq (.reg [⟨(.some 8), .mv (.r 0), .none⟩, ⟨(.some 9), .nilck (.r 8), .none⟩, ⟨(.some 10), .fadr 0 (.r 9), .none⟩, ⟨(.some 11), .lda 4 (.r 10), .none⟩, ⟨(.some 12), .mv (.r 1), .none⟩, ⟨(.some 13), .call 116 [(.r 11), (.r 12)], .none⟩, ⟨(.some 14), .lenSl (.r 13), .none⟩, ⟨(.some 15), .mv (.c (.i (.ofNat (nat_lit 0)))), .none⟩])
 (.block 0 (.loop (.seq (.reg [⟨(.some 16), .bin .lss (.r 15) (.r 14), .none⟩])
 (.seq (.cond (.r 16) .skip (.exit 0))
 (.seq (.block 1 (.seq (.reg [⟨(.some 17), .ixSl 1 (.r 13) (.r 15), .none⟩, ⟨(.some 18), .ld (.r 17), .none⟩, ⟨(.some 7), .mv (.r 18), .none⟩])
 (.reg [⟨(.some 19), .mv (.r 5), .none⟩, ⟨(.some 20), .mv (.r 7), .none⟩, ⟨(.some 21), .build [(.i (.ofNat (nat_lit 0))), (.i (.ofNat (nat_lit 0)))] [(0, 1, (.r 20))], .none⟩, ⟨(.some 22), .bslice 259 2 1 [(.i (.ofNat (nat_lit 0))), (.i (.ofNat (nat_lit 0)))] [(0, 2, (.r 21))], .none⟩, ⟨(.some 23), .app 259 2 (.r 19) (.r 22), .none⟩, ⟨(.some 5), .mv (.r 23), .none⟩])))
 (.reg [⟨(.some 24), .bin .add (.r 15) (.c (.i (.ofNat (nat_lit 1)))), .none⟩, ⟨(.some 15), .mv (.r 24), .none⟩])))))))
 (.seq (.reg [⟨(.some 25), .mv (.r 5), .none⟩, ⟨(.some 4), .mv (.r 25), .none⟩])
 .ret)))), 26, [.tmp 4]⟩
theorem AxZok145 : cfOf AxZ 145 = some AxZc145 := by kernel_rfl
/- (*conch/auto.builder).next -/
noncomputable def AxZc146 : CF := ⟨(.seq (.reg [⟨(.some 3), .box 259 (.r 1), .none⟩, ⟨(.some 4), .mv (.c (.i (.ofNat (nat_lit 0)))), .none⟩])
 (.seq (.dreg [(⟨(.some 8), .mv (.r 0), .none⟩, false), (⟨(.some 9), .nilck (.r 8), .none⟩, false), (⟨(.some 10), .fadr 0 (.r 9), .none⟩, false), (⟨(.some 11), .lda 4 (.r 10), .none⟩, false), (⟨(.some 12), .fadr 0 (.r 3), .none⟩, false), (⟨(.some 13), .ld (.r 12), .none⟩, false), (⟨(.some 14), .call 81 [(.r 11), (.r 13)], .none⟩, true), (⟨(.some 7), .mv (.r 14), .none⟩, false), (⟨(.some 15), .ext (.r 7) 0, .none⟩, false), (⟨(.some 16), .ext (.r 7) 1, .none⟩, false), (⟨(.some 5), .alloc 149 [(.i (.ofNat (nat_lit 0))), .nils], .none⟩, true), (⟨.none, .st 2 (.r 5) (.r 15), .none⟩, true), (⟨(.some 6), .mv (.r 16), .none⟩, false)] [])
 (.seq (.seq (.reg [⟨(.some 17), .fadr 1 (.r 3), .none⟩, ⟨(.some 18), .ld (.r 17), .none⟩, ⟨(.some 19), .fadr 1 (.r 5), .none⟩, ⟨(.some 20), .ld (.r 19), .none⟩, ⟨(.some 21), .lenSl (.r 20), .none⟩, ⟨(.some 22), .bin .geq (.r 18) (.r 21), .none⟩])
 (.cond (.r 22) (.seq (.reg [⟨(.some 4), .mv (.c (.i (.ofNat (nat_lit 0)))), .none⟩])
 .ret) .skip))
 (.seq (.reg [⟨(.some 23), .fadr 1 (.r 5), .none⟩, ⟨(.some 24), .ld (.r 23), .none⟩, ⟨(.some 25), .fadr 1 (.r 3), .none⟩, ⟨(.some 26), .ld (.r 25), .none⟩, ⟨(.some 27), .ixSl 1 (.r 24) (.r 26), .none⟩, ⟨(.some 28), .ld (.r 27), .none⟩, ⟨(.some 4), .mv (.r 28), .none⟩])
 .ret)))), 29, [.tmp 4]⟩
theorem AxZok146 : cfOf AxZ 146 = some AxZc146 := by kernel_rfl
/- conch/auto.key -/
noncomputable def AxZc147 : CF := ⟨(.seq (.reg [⟨(.some 2), .mv (.c (.s 0 (nat_lit 0))), .none⟩])
 (.seq (.reg [⟨(.some 3), .alloc 134 [.nilp, .nils], .none⟩])
 (.seq (.seq (.reg [⟨(.some 6), .mv (.r 0), .none⟩, ⟨(.some 7), .lenSl (.r 6), .none⟩, ⟨(.some 8), .mv (.c (.i (.ofNat (nat_lit 0)))), .none⟩])
 (.block 0 (.loop (.seq (.reg [⟨(.some 9), .bin .lss (.r 8) (.r 7), .none⟩])
 (.seq (.cond (.r 9) .skip (.exit 0))
 (.seq (.block 1 (.seq (.reg [⟨(.some 10), .ixSl 2 (.r 6) (.r 8), .none⟩, ⟨(.some 11), .lda 2 (.r 10), .none⟩, ⟨(.some 5), .alloc 259 [(.i (.ofNat (nat_lit 0))), (.i (.ofNat (nat_lit 0)))], .none⟩, ⟨.none, .st 2 (.r 5) (.r 11), .none⟩])
 (.reg [⟨(.some 12), .fadr 0 (.r 5), .none⟩, ⟨(.some 13), .ld (.r 12), .none⟩, ⟨(.some 14), .bin .shr (.r 13) (.c (.u .u64 (.ofNat (nat_lit 8)))), .none⟩, ⟨(.some 15), .cvInt .u8 (.r 14), .none⟩, ⟨(.some 16), .fadr 0 (.r 5), .none⟩, ⟨(.some 17), .ld (.r 16), .none⟩, ⟨(.some 18), .cvInt .u8 (.r 17), .none⟩, ⟨(.some 19), .fadr 1 (.r 5), .none⟩, ⟨(.some 20), .ld (.r 19), .none⟩, ⟨(.some 21), .cvInt .u8 (.r 20), .none⟩, ⟨(.some 22), .bslice 5 1 3 [(.u .u8 (.ofNat (nat_lit 0)))] [(0, 1, (.r 15)), (1, 1, (.r 18)), (2, 1, (.r 21))], .none⟩, ⟨(.some 23), .call 181 [(.r 3), (.r 22)], .none⟩])))
 (.reg [⟨(.some 24), .bin .add (.r 8) (.c (.i (.ofNat (nat_lit 1)))), .none⟩, ⟨(.some 8), .mv (.r 24), .none⟩])))))))
 (.seq (.reg [⟨(.some 25), .call 59 [(.r 3)], .none⟩, ⟨(.some 2), .mv (.r 25), .none⟩])
 .ret)))), 26, [.tmp 2]⟩
theorem AxZok147 : cfOf AxZ 147 = some AxZc147 := by kernel_rfl
/- conch/item.may -/
noncomputable def AxZc148 : CF := ⟨(.seq (.reg [⟨(.some 1), .box 53 (.r 0), .none⟩, ⟨(.some 2), .mv (.c (.b false)), .none⟩])
 (.seq (.reg [⟨(.some 3), .lda 4 (.r 1), .none⟩, ⟨(.some 4), .call 64 [(.r 3)], .none⟩, ⟨(.some 5), .bin .eql (.r 4) (.c (.i (.ofNat (nat_lit 0)))), .none⟩, ⟨(.some 2), .mv (.r 5), .none⟩])
 .ret)), 6, [.tmp 2]⟩
theorem AxZok148 : cfOf AxZ 148 = some AxZc148 := by kernel_rfl
/- (*conch/auto.builder).steps$1 -/
noncomputable def AxZc149 : CF := ⟨(.seq (.reg [⟨(.some 3), .box 259 (.r 0), .none⟩])
 (.seq (.reg [⟨(.some 5), .ld (.r 1), .none⟩, ⟨(.some 6), .lda 2 (.r 3), .none⟩, ⟨(.some 7), .call 146 [(.r 5), (.r 6)], .none⟩, ⟨(.some 4), .mv (.r 7), .none⟩])
 (.seq (.reg [⟨(.some 8), .mv (.r 4), .none⟩, ⟨(.some 9), .bin .gtr (.r 8) (.c (.i (.ofNat (nat_lit 0)))), .none⟩])
 (.cond (.r 9) (.dreg [(⟨(.some 10), .ld (.r 2), .none⟩, false), (⟨(.some 11), .mv (.r 4), .none⟩, false), (⟨(.some 12), .ld (.r 2), .none⟩, false), (⟨(.some 13), .mv (.r 4), .none⟩, false), (⟨(.some 14), .ixSl 1 (.r 12) (.r 13), .none⟩, false), (⟨(.some 15), .ld (.r 14), .none⟩, false), (⟨(.some 16), .fadr 0 (.r 3), .none⟩, false), (⟨(.some 17), .ld (.r 16), .none⟩, false), (⟨(.some 18), .fadr 1 (.r 3), .none⟩, false), (⟨(.some 19), .ld (.r 18), .none⟩, false), (⟨(.some 20), .bin .add (.r 19) (.c (.i (.ofNat (nat_lit 1)))), .none⟩, false), (⟨(.some 21), .build [(.i (.ofNat (nat_lit 0))), (.i (.ofNat (nat_lit 0)))] [(0, 1, (.r 17)), (1, 1, (.r 20))], .none⟩, false), (⟨(.some 22), .bslice 259 2 1 [(.i (.ofNat (nat_lit 0))), (.i (.ofNat (nat_lit 0)))] [(0, 2, (.r 21))], .none⟩, true), (⟨(.some 23), .app 259 2 (.r 15) (.r 22), .none⟩, true), (⟨(.some 24), .ixSl 1 (.r 10) (.r 11), .none⟩, false), (⟨.none, .st 1 (.r 24) (.r 23), .none⟩, true)] [(⟨(.some 10), .ld (.r 2), .none⟩, 0, 3), (⟨(.some 12), .ld (.r 2), .none⟩, 0, 2), (⟨(.some 15), .ld (.r 14), .none⟩, 0, 2)]) .skip)))), 25, []⟩
theorem AxZok149 : cfOf AxZ 149 = some AxZc149 := by kernel_rfl
/- conch/auto.order -/
noncomputable def AxZc150 : CF := ⟨(.seq (.reg [⟨(.some 2), .mv (.c .nils), .none⟩])
 (.seq (.reg [⟨(.some 3), .mv (.r 0), .none⟩, ⟨(.some 4), .call 182 [(.r 3), (.c (.fn 183 []))], .none⟩])
 (.seq (.reg [⟨(.some 5), .mv (.r 0), .none⟩, ⟨(.some 6), .call 184 [(.r 5)], .none⟩, ⟨(.some 2), .mv (.r 6), .none⟩])
 .ret))), 7, [.tmp 2]⟩
theorem AxZok150 : cfOf AxZ 150 = some AxZc150 := by kernel_rfl
/- conch/least.shortlex$1 -/
noncomputable def AxZc151 : CF := ⟨(.seq (.reg [⟨(.some 4), .mv (.c (.b false)), .none⟩])
 (.seq (.seq (.reg [⟨(.some 5), .mv (.r 0), .none⟩, ⟨(.some 6), .lenSl (.r 5), .none⟩, ⟨(.some 7), .mv (.r 1), .none⟩, ⟨(.some 8), .lenSl (.r 7), .none⟩, ⟨(.some 9), .bin .neq (.r 6) (.r 8), .none⟩])
 (.cond (.r 9) (.seq (.reg [⟨(.some 10), .mv (.r 0), .none⟩, ⟨(.some 11), .lenSl (.r 10), .none⟩, ⟨(.some 12), .mv (.r 1), .none⟩, ⟨(.some 13), .lenSl (.r 12), .none⟩, ⟨(.some 14), .bin .lss (.r 11) (.r 13), .none⟩, ⟨(.some 4), .mv (.r 14), .none⟩])
 .ret) .skip))
 (.seq (.reg [⟨(.some 15), .mv (.r 0), .none⟩, ⟨(.some 16), .mv (.r 1), .none⟩, ⟨(.some 17), .call 96 [(.r 15), (.r 16)], .none⟩, ⟨(.some 18), .bin .lss (.r 17) (.c (.i (.ofNat (nat_lit 0)))), .none⟩, ⟨(.some 4), .mv (.r 18), .none⟩])
 .ret))), 19, [.tmp 4]⟩
theorem AxZok151 : cfOf AxZ 151 = some AxZc151 := by kernel_rfl
/- slices.IndexFunc[[]conch/api.Trans,conch/api.Trans] -/
noncomputable def AxZc152 : CF := ⟨(.seq (.reg [⟨(.some 4), .mv (.c (.i (.ofNat (nat_lit 0)))), .none⟩])
 (.seq (.seq (.reg [⟨(.some 6), .mv (.r 0), .none⟩, ⟨(.some 7), .lenSl (.r 6), .none⟩, ⟨(.some 8), .mv (.c (.i (.ofNat (nat_lit 0)))), .none⟩])
 (.block 0 (.loop (.seq (.reg [⟨(.some 9), .bin .lss (.r 8) (.r 7), .none⟩])
 (.seq (.cond (.r 9) .skip (.exit 0))
 (.seq (.block 1 (.seq (.reg [⟨(.some 10), .mv (.r 8), .none⟩, ⟨(.some 5), .mv (.r 10), .none⟩])
 (.seq (.reg [⟨(.some 11), .mv (.r 1), .none⟩, ⟨(.some 12), .mv (.r 0), .none⟩, ⟨(.some 13), .mv (.r 5), .none⟩, ⟨(.some 14), .ixSl 2 (.r 12) (.r 13), .none⟩, ⟨(.some 15), .lda 2 (.r 14), .none⟩, ⟨(.some 16), .callv (.r 11) [(.r 15)], .none⟩])
 (.cond (.r 16) (.seq (.reg [⟨(.some 17), .mv (.r 5), .none⟩, ⟨(.some 4), .mv (.r 17), .none⟩])
 .ret) .skip))))
 (.reg [⟨(.some 18), .bin .add (.r 8) (.c (.i (.ofNat (nat_lit 1)))), .none⟩, ⟨(.some 8), .mv (.r 18), .none⟩])))))))
 (.seq (.reg [⟨(.some 4), .mv (.c (.i (.negSucc (nat_lit 0)))), .none⟩])
 .ret))), 19, [.tmp 4]⟩
theorem AxZok152 : cfOf AxZ 152 = some AxZc152 := by kernel_rfl
/- (*conch/least.Words).Line -/
noncomputable def AxZc153 : CF := ⟨(.seq (.reg [⟨(.some 4), .mv (.c .nils), .none⟩, ⟨(.some 5), .mv (.c (.b false)), .none⟩])
 (.seq (.seq (.reg [⟨(.some 7), .mv (.r 0), .none⟩, ⟨(.some 8), .eq .ptr false (.r 7) (.c .nilp), .none⟩])
 (.cond (.r 8) (.seq (.reg [⟨(.some 4), .mv (.c .nils), .none⟩, ⟨(.some 5), .mv (.c (.b false)), .none⟩])
 .ret) .skip))
 (.seq (.reg [⟨(.some 9), .mv (.r 0), .none⟩, ⟨(.some 10), .mv (.r 1), .none⟩, ⟨(.some 11), .call 91 [(.r 9), (.r 10)], .none⟩, ⟨(.some 6), .alloc 206 [(.b false), (.b false), .nils], .none⟩, ⟨.none, .st 3 (.r 6) (.r 11), .none⟩])
 (.seq (.dreg [(⟨(.some 12), .fadr 2 (.r 6), .none⟩, false), (⟨(.some 13), .ld (.r 12), .none⟩, false), (⟨(.some 14), .fadr 0 (.r 6), .none⟩, false), (⟨(.some 15), .ld (.r 14), .none⟩, false), (⟨(.some 16), .mv (.r 15), .none⟩, false), (⟨(.some 17), .fadr 1 (.r 6), (.some (16, true))⟩, false), (⟨(.some 18), .ld (.r 17), (.some (16, true))⟩, false), (⟨(.some 19), .un .not (.r 18), (.some (16, true))⟩, false), (⟨(.some 20), .pick (.r 16) (.r 19) (.c (.b false)), .none⟩, false), (⟨(.some 4), .mv (.r 13), .none⟩, false), (⟨(.some 5), .mv (.r 20), .none⟩, false)] [])
 .ret)))), 21, [.tmp 4, .tmp 5]⟩
theorem AxZok153 : cfOf AxZ 153 = some AxZc153 := by kernel_rfl
/- cmp.Compare[int] -/
noncomputable def AxZc154 : CF := ⟨(.seq (.reg [⟨(.some 4), .mv (.c (.i (.ofNat (nat_lit 0)))), .none⟩])
 (.seq (.reg [⟨(.some 7), .mv (.r 0), .none⟩, ⟨(.some 8), .call 185 [(.r 7)], .none⟩, ⟨(.some 5), .mv (.r 8), .none⟩])
 (.seq (.reg [⟨(.some 9), .mv (.r 1), .none⟩, ⟨(.some 10), .call 185 [(.r 9)], .none⟩, ⟨(.some 6), .mv (.r 10), .none⟩])
 (.seq (.seq (.reg [⟨(.some 11), .mv (.r 5), .none⟩])
 (.cond (.r 11) (.seq (.seq (.reg [⟨(.some 12), .mv (.r 6), .none⟩])
 (.cond (.r 12) (.seq (.reg [⟨(.some 4), .mv (.c (.i (.ofNat (nat_lit 0)))), .none⟩])
 .ret) .skip))
 (.seq (.reg [⟨(.some 4), .mv (.c (.i (.negSucc (nat_lit 0)))), .none⟩])
 .ret)) .skip))
 (.seq (.seq (.reg [⟨(.some 13), .mv (.r 6), .none⟩])
 (.cond (.r 13) (.seq (.reg [⟨(.some 4), .mv (.c (.i (.ofNat (nat_lit 1)))), .none⟩])
 .ret) .skip))
 (.seq (.seq (.reg [⟨(.some 14), .mv (.r 0), .none⟩, ⟨(.some 15), .mv (.r 1), .none⟩, ⟨(.some 16), .bin .lss (.r 14) (.r 15), .none⟩])
 (.cond (.r 16) (.seq (.reg [⟨(.some 4), .mv (.c (.i (.negSucc (nat_lit 0)))), .none⟩])
 .ret) .skip))
 (.seq (.seq (.reg [⟨(.some 17), .mv (.r 0), .none⟩, ⟨(.some 18), .mv (.r 1), .none⟩, ⟨(.some 19), .bin .gtr (.r 17) (.r 18), .none⟩])
 (.cond (.r 19) (.seq (.reg [⟨(.some 4), .mv (.c (.i (.ofNat (nat_lit 1)))), .none⟩])
 .ret) .skip))
 (.seq (.reg [⟨(.some 4), .mv (.c (.i (.ofNat (nat_lit 0)))), .none⟩])
 .ret)))))))), 20, [.tmp 4]⟩
theorem AxZok154 : cfOf AxZ 154 = some AxZc154 := by kernel_rfl
/- slices.Index[[]int,int] -/
noncomputable def AxZc156 : CF := ⟨(.seq (.reg [⟨(.some 4), .mv (.c (.i (.ofNat (nat_lit 0)))), .none⟩])
 (.seq (.seq (.reg [⟨(.some 6), .mv (.r 0), .none⟩, ⟨(.some 7), .lenSl (.r 6), .none⟩, ⟨(.some 8), .mv (.c (.i (.ofNat (nat_lit 0)))), .none⟩])
 (.block 0 (.loop (.seq (.reg [⟨(.some 9), .bin .lss (.r 8) (.r 7), .none⟩])
 (.seq (.cond (.r 9) .skip (.exit 0))
 (.seq (.block 1 (.seq (.reg [⟨(.some 10), .mv (.r 8), .none⟩, ⟨(.some 5), .mv (.r 10), .none⟩])
 (.seq (.reg [⟨(.some 11), .mv (.r 1), .none⟩, ⟨(.some 12), .mv (.r 0), .none⟩, ⟨(.some 13), .mv (.r 5), .none⟩, ⟨(.some 14), .ixSl 1 (.r 12) (.r 13), .none⟩, ⟨(.some 15), .ld (.r 14), .none⟩, ⟨(.some 16), .bin .eql (.r 11) (.r 15), .none⟩])
 (.cond (.r 16) (.seq (.reg [⟨(.some 17), .mv (.r 5), .none⟩, ⟨(.some 4), .mv (.r 17), .none⟩])
 .ret) .skip))))
 (.reg [⟨(.some 18), .bin .add (.r 8) (.c (.i (.ofNat (nat_lit 1)))), .none⟩, ⟨(.some 8), .mv (.r 18), .none⟩])))))))
 (.seq (.reg [⟨(.some 4), .mv (.c (.i (.negSucc (nat_lit 0)))), .none⟩])
 .ret))), 19, [.tmp 4]⟩
theorem AxZok156 : cfOf AxZ 156 = some AxZc156 := by kernel_rfl
/- slices.ContainsFunc[[]conch/api.Rule,conch/api.Rule] -/
noncomputable def AxZc157 : CF := ⟨(.seq (.reg [⟨(.some 4), .mv (.c (.b false)), .none⟩])
 (.seq (.reg [⟨(.some 5), .mv (.r 0), .none⟩, ⟨(.some 6), .mv (.r 1), .none⟩, ⟨(.some 7), .call 117 [(.r 5), (.r 6)], .none⟩, ⟨(.some 8), .bin .geq (.r 7) (.c (.i (.ofNat (nat_lit 0)))), .none⟩, ⟨(.some 4), .mv (.r 8), .none⟩])
 .ret)), 9, [.tmp 4]⟩
theorem AxZok157 : cfOf AxZ 157 = some AxZc157 := by kernel_rfl
/- conch/gram.all[conch/api.Rule]$1 -/
noncomputable def AxZc158 : CF := ⟨(.seq (.reg [⟨(.some 2), .box 149 (.r 0), .none⟩, ⟨(.some 3), .mv (.c (.b false)), .none⟩])
 (.seq (.reg [⟨(.some 4), .ld (.r 1), .none⟩, ⟨(.some 5), .lda 2 (.r 2), .none⟩, ⟨(.some 6), .callv (.r 4) [(.r 5)], .none⟩, ⟨(.some 7), .un .not (.r 6), .none⟩, ⟨(.some 3), .mv (.r 7), .none⟩])
 .ret)), 8, [.tmp 3]⟩
theorem AxZok158 : cfOf AxZ 158 = some AxZc158 := by kernel_rfl
/- slices.ContainsFunc[[]string,string] -/
noncomputable def AxZc159 : CF := ⟨(.seq (.reg [⟨(.some 4), .mv (.c (.b false)), .none⟩])
 (.seq (.reg [⟨(.some 5), .mv (.r 0), .none⟩, ⟨(.some 6), .mv (.r 1), .none⟩, ⟨(.some 7), .call 186 [(.r 5), (.r 6)], .none⟩, ⟨(.some 8), .bin .geq (.r 7) (.c (.i (.ofNat (nat_lit 0)))), .none⟩, ⟨(.some 4), .mv (.r 8), .none⟩])
 .ret)), 9, [.tmp 4]⟩
theorem AxZok159 : cfOf AxZ 159 = some AxZc159 := by kernel_rfl
/- conch/gram.all[string]$1 -/
noncomputable def AxZc160 : CF := ⟨(.seq (.reg [⟨(.some 3), .mv (.c (.b false)), .none⟩])
 (.seq (.reg [⟨(.some 4), .ld (.r 1), .none⟩, ⟨(.some 5), .mv (.r 0), .none⟩, ⟨(.some 6), .callv (.r 4) [(.r 5)], .none⟩, ⟨(.some 7), .un .not (.r 6), .none⟩, ⟨(.some 3), .mv (.r 7), .none⟩])
 .ret)), 8, [.tmp 3]⟩
theorem AxZok160 : cfOf AxZ 160 = some AxZc160 := by kernel_rfl
/- conch/char.Name -/
noncomputable def AxZc161 : CF := ⟨(.seq (.reg [⟨(.some 2), .mv (.c (.b false)), .none⟩])
 (.seq (.seq (.reg [⟨(.some 3), .mv (.r 0), .none⟩, ⟨(.some 4), .call 187 [(.r 3)], .none⟩, ⟨(.some 5), .un .not (.r 4), .none⟩])
 (.cond (.r 5) (.seq (.reg [⟨(.some 2), .mv (.c (.b false)), .none⟩])
 .ret) .skip))
 (.seq (.reg [⟨(.some 6), .mv (.r 0), .none⟩, ⟨(.some 7), .call 188 [(.r 6), (.c (.fn 189 []))], .none⟩, ⟨(.some 2), .mv (.r 7), .none⟩])
 .ret))), 8, [.tmp 2]⟩
theorem AxZok161 : cfOf AxZ 161 = some AxZc161 := by kernel_rfl
/- slices.Concat[[]string,string] -/
noncomputable def AxZc162 : CF := ⟨(.seq (.reg [⟨(.some 2), .mv (.c .nils), .none⟩])
 (.seq (.reg [⟨(.some 3), .mv (.c (.i (.ofNat (nat_lit 0)))), .none⟩])
 (.seq (.seq (.reg [⟨(.some 9), .mv (.r 0), .none⟩, ⟨(.some 10), .lenSl (.r 9), .none⟩, ⟨(.some 11), .mv (.c (.i (.ofNat (nat_lit 0)))), .none⟩])
 (.block 0 (.loop (.seq (.reg [⟨(.some 12), .bin .lss (.r 11) (.r 10), .none⟩])
 (.seq (.cond (.r 12) .skip (.exit 0))
 (.seq (.block 1 (.seq (.reg [⟨(.some 13), .ixSl 1 (.r 9) (.r 11), .none⟩, ⟨(.some 14), .ld (.r 13), .none⟩, ⟨(.some 5), .mv (.r 14), .none⟩])
 (.seq (.reg [⟨(.some 15), .mv (.r 3), .none⟩, ⟨(.some 16), .mv (.r 5), .none⟩, ⟨(.some 17), .lenSl (.r 16), .none⟩, ⟨(.some 18), .bin .add (.r 15) (.r 17), .none⟩, ⟨(.some 3), .mv (.r 18), .none⟩])
 (.seq (.reg [⟨(.some 19), .mv (.r 3), .none⟩, ⟨(.some 20), .bin .lss (.r 19) (.c (.i (.ofNat (nat_lit 0)))), .none⟩])
 (.cond (.r 20) (.reg [⟨(.some 21), .mkIf 9 (.c (.s 16 (nat_lit 134789072936214216453580009062074836332))), .none⟩, ⟨.none, .bad, .none⟩]) .skip)))))
 (.reg [⟨(.some 22), .bin .add (.r 11) (.c (.i (.ofNat (nat_lit 1)))), .none⟩, ⟨(.some 11), .mv (.r 22), .none⟩])))))))
 (.seq (.reg [⟨(.some 23), .mv (.r 3), .none⟩, ⟨(.some 24), .call 190 [(.c .nils), (.r 23)], .none⟩, ⟨(.some 6), .mv (.r 24), .none⟩])
 (.seq (.seq (.reg [⟨(.some 25), .mv (.r 0), .none⟩, ⟨(.some 26), .lenSl (.r 25), .none⟩, ⟨(.some 27), .mv (.c (.i (.ofNat (nat_lit 0)))), .none⟩])
 (.block 2 (.loop (.seq (.reg [⟨(.some 28), .bin .lss (.r 27) (.r 26), .none⟩])
 (.seq (.cond (.r 28) .skip (.exit 2))
 (.seq (.block 3 (.seq (.reg [⟨(.some 29), .ixSl 1 (.r 25) (.r 27), .none⟩, ⟨(.some 30), .ld (.r 29), .none⟩, ⟨(.some 8), .mv (.r 30), .none⟩])
 (.reg [⟨(.some 31), .mv (.r 6), .none⟩, ⟨(.some 32), .mv (.r 8), .none⟩, ⟨(.some 33), .app 9 1 (.r 31) (.r 32), .none⟩, ⟨(.some 6), .mv (.r 33), .none⟩])))
 (.reg [⟨(.some 34), .bin .add (.r 27) (.c (.i (.ofNat (nat_lit 1)))), .none⟩, ⟨(.some 27), .mv (.r 34), .none⟩])))))))
 (.seq (.reg [⟨(.some 35), .mv (.r 6), .none⟩, ⟨(.some 2), .mv (.r 35), .none⟩])
 .ret)))))), 36, [.tmp 2]⟩
theorem AxZok162 : cfOf AxZ 162 = some AxZc162 := by kernel_rfl
/- conch/gram.all[int] -/
noncomputable def AxZc163 : CF := ⟨(.seq (.reg [⟨(.some 3), .box 81 (.r 1), .none⟩, ⟨(.some 4), .mv (.c (.b false)), .none⟩])
 (.seq (.reg [⟨(.some 5), .mv (.r 0), .none⟩, ⟨(.some 6), .mkFn 192 [(.r 3)], .none⟩, ⟨(.some 7), .call 191 [(.r 5), (.r 6)], .none⟩, ⟨(.some 8), .un .not (.r 7), .none⟩, ⟨(.some 4), .mv (.r 8), .none⟩])
 .ret)), 9, [.tmp 4]⟩
theorem AxZok163 : cfOf AxZ 163 = some AxZc163 := by kernel_rfl
/- conch/gram.known$1 -/
noncomputable def AxZc164 : CF := ⟨(.seq (.reg [⟨(.some 3), .mv (.c (.b false)), .none⟩])
 (.seq (.reg [⟨(.some 4), .lda 4 (.r 1), .none⟩, ⟨(.some 5), .mv (.r 0), .none⟩, ⟨(.some 6), .call 89 [(.r 4), (.r 5)], .none⟩, ⟨(.some 7), .mv (.r 6), .none⟩, ⟨(.some 8), .lda 4 (.r 1), (.some (7, false))⟩, ⟨(.some 9), .mv (.r 0), (.some (7, false))⟩, ⟨(.some 10), .call 103 [(.r 8), (.r 9)], (.some (7, false))⟩, ⟨(.some 11), .pick (.r 7) (.c (.b true)) (.r 10), .none⟩, ⟨(.some 3), .mv (.r 11), .none⟩])
 .ret)), 12, [.tmp 3]⟩
theorem AxZok164 : cfOf AxZ 164 = some AxZc164 := by kernel_rfl
/- conch/gram.unlike[conch/api.Rule]$1 -/
noncomputable def AxZc165 : CF := ⟨(.seq (.reg [⟨(.some 4), .box 149 (.r 0), .none⟩, ⟨(.some 5), .mv (.c (.b false)), .none⟩])
 (.seq (.dreg [(⟨(.some 6), .ld (.r 1), .none⟩, false), (⟨(.some 7), .lda 2 (.r 4), .none⟩, false), (⟨(.some 8), .ld (.r 2), .none⟩, false), (⟨(.some 9), .ld (.r 3), .none⟩, false), (⟨(.some 10), .ixSl 2 (.r 8) (.r 9), .none⟩, false), (⟨(.some 11), .lda 2 (.r 10), .none⟩, false), (⟨(.some 12), .callv (.r 6) [(.r 7), (.r 11)], .none⟩, true), (⟨(.some 5), .mv (.r 12), .none⟩, false)] [])
 .ret)), 13, [.tmp 5]⟩
theorem AxZok165 : cfOf AxZ 165 = some AxZc165 := by kernel_rfl
/- cmp.Less[int] -/
noncomputable def AxZc166 : CF := ⟨(.seq (.reg [⟨(.some 4), .mv (.c (.b false)), .none⟩])
 (.seq (.reg [⟨(.some 5), .mv (.r 0), .none⟩, ⟨(.some 6), .call 185 [(.r 5)], .none⟩, ⟨(.some 7), .mv (.r 6), .none⟩, ⟨(.some 8), .mv (.r 1), (.some (7, true))⟩, ⟨(.some 9), .call 185 [(.r 8)], (.some (7, true))⟩, ⟨(.some 10), .un .not (.r 9), (.some (7, true))⟩, ⟨(.some 11), .pick (.r 7) (.r 10) (.c (.b false)), .none⟩, ⟨(.some 12), .mv (.r 11), .none⟩, ⟨(.some 13), .mv (.r 0), (.some (12, false))⟩, ⟨(.some 14), .mv (.r 1), (.some (12, false))⟩, ⟨(.some 15), .bin .lss (.r 13) (.r 14), (.some (12, false))⟩, ⟨(.some 16), .pick (.r 12) (.c (.b true)) (.r 15), .none⟩, ⟨(.some 4), .mv (.r 16), .none⟩])
 .ret)), 17, [.tmp 4]⟩
theorem AxZok166 : cfOf AxZ 166 = some AxZc166 := by kernel_rfl
/- strings.IndexByte -/
noncomputable def AxZc167 : CF := ⟨(.seq (.reg [⟨(.some 4), .mv (.c (.i (.ofNat (nat_lit 0)))), .none⟩])
 (.seq (.reg [⟨(.some 5), .mv (.r 0), .none⟩, ⟨(.some 6), .mv (.r 1), .none⟩, ⟨(.some 7), .call 193 [(.r 5), (.r 6)], .none⟩, ⟨(.some 4), .mv (.r 7), .none⟩])
 .ret)), 8, [.tmp 4]⟩
theorem AxZok167 : cfOf AxZ 167 = some AxZc167 := by kernel_rfl
/- strings.HasPrefix -/
noncomputable def AxZc168 : CF := ⟨(.seq (.reg [⟨(.some 4), .mv (.c (.b false)), .none⟩])
 (.seq (.reg [⟨(.some 5), .mv (.r 0), .none⟩, ⟨(.some 6), .mv (.r 1), .none⟩, ⟨(.some 7), .call 194 [(.r 5), (.r 6)], .none⟩, ⟨(.some 4), .mv (.r 7), .none⟩])
 .ret)), 8, [.tmp 4]⟩
theorem AxZok168 : cfOf AxZ 168 = some AxZc168 := by kernel_rfl
/- strings.Index -/
noncomputable def AxZc169 : CF := ⟨(.seq (.reg [⟨(.some 4), .mv (.c (.i (.ofNat (nat_lit 0)))), .none⟩])
 (.seq (.reg [⟨(.some 5), .mv (.r 0), .none⟩, ⟨(.some 6), .mv (.r 1), .none⟩, ⟨(.some 7), .call 195 [(.r 5), (.r 6)], .none⟩, ⟨(.some 4), .mv (.r 7), .none⟩])
 .ret)), 8, [.tmp 4]⟩
theorem AxZok169 : cfOf AxZ 169 = some AxZc169 := by kernel_rfl
/- conch/gtok.inside -/
noncomputable def AxZc170 : CF := ⟨(.seq (.reg [⟨(.some 2), .mv (.c (.b false)), .none⟩])
 (.seq (.reg [⟨(.some 3), .mv (.r 0), .none⟩, ⟨(.some 4), .bin .gtr (.r 3) (.c (.u .u8 (.ofNat (nat_lit 32)))), .none⟩, ⟨(.some 5), .mv (.r 4), .none⟩, ⟨(.some 6), .mv (.r 0), (.some (5, true))⟩, ⟨(.some 7), .bin .leq (.r 6) (.c (.u .u8 (.ofNat (nat_lit 126)))), (.some (5, true))⟩, ⟨(.some 8), .pick (.r 5) (.r 7) (.c (.b false)), .none⟩, ⟨(.some 9), .mv (.r 8), .none⟩, ⟨(.some 10), .mv (.r 0), (.some (9, true))⟩, ⟨(.some 11), .bin .neq (.r 10) (.c (.u .u8 (.ofNat (nat_lit 39)))), (.some (9, true))⟩, ⟨(.some 12), .pick (.r 9) (.r 11) (.c (.b false)), .none⟩, ⟨(.some 2), .mv (.r 12), .none⟩])
 .ret)), 13, [.tmp 2]⟩
theorem AxZok170 : cfOf AxZ 170 = some AxZc170 := by kernel_rfl
/- conch/char.letter -/
noncomputable def AxZc171 : CF := ⟨(.seq (.reg [⟨(.some 2), .mv (.c (.i (.ofNat (nat_lit 0)))), .none⟩])
 (.seq (.block 0 (.seq (.reg [⟨(.some 4), .mv (.r 0), .none⟩, ⟨(.some 5), .bin .geq (.r 4) (.c (.u .u8 (.ofNat (nat_lit 48)))), .none⟩, ⟨(.some 6), .mv (.r 5), .none⟩, ⟨(.some 7), .mv (.r 0), (.some (6, true))⟩, ⟨(.some 8), .bin .leq (.r 7) (.c (.u .u8 (.ofNat (nat_lit 57)))), (.some (6, true))⟩, ⟨(.some 9), .pick (.r 6) (.r 8) (.c (.b false)), .none⟩, ⟨(.some 3), .mv (.r 9), .none⟩])
 (.cond (.r 3) (.seq (.reg [⟨(.some 2), .mv (.c (.i (.ofNat (nat_lit 3)))), .none⟩])
 .ret) (.seq (.seq (.reg [⟨(.some 11), .mv (.r 0), .none⟩, ⟨(.some 12), .bin .eql (.r 11) (.c (.u .u8 (.ofNat (nat_lit 95)))), .none⟩, ⟨(.some 10), .mv (.r 12), .none⟩])
 (.cond (.r 10) .skip (.reg [⟨(.some 13), .mv (.r 0), .none⟩, ⟨(.some 14), .bin .or (.r 13) (.c (.u .u8 (.ofNat (nat_lit 32)))), .none⟩, ⟨(.some 15), .bin .geq (.r 14) (.c (.u .u8 (.ofNat (nat_lit 97)))), .none⟩, ⟨(.some 16), .mv (.r 15), .none⟩, ⟨(.some 17), .mv (.r 0), (.some (16, true))⟩, ⟨(.some 18), .bin .or (.r 17) (.c (.u .u8 (.ofNat (nat_lit 32)))), (.some (16, true))⟩, ⟨(.some 19), .bin .leq (.r 18) (.c (.u .u8 (.ofNat (nat_lit 122)))), (.some (16, true))⟩, ⟨(.some 20), .pick (.r 16) (.r 19) (.c (.b false)), .none⟩, ⟨(.some 10), .mv (.r 20), .none⟩])))
 (.cond (.r 10) (.seq (.reg [⟨(.some 2), .mv (.c (.i (.ofNat (nat_lit 4)))), .none⟩])
 .ret) .skip)))))
 (.seq (.reg [⟨(.some 2), .mv (.c (.i (.ofNat (nat_lit 8)))), .none⟩])
 .ret))), 21, [.tmp 2]⟩
theorem AxZok171 : cfOf AxZ 171 = some AxZc171 := by kernel_rfl
/- (*conch/gread.builder).start -/
noncomputable def AxZc172 : CF := ⟨(.seq (.dreg [(⟨(.some 2), .mv (.r 0), .none⟩, false), (⟨(.some 3), .nilck (.r 2), .none⟩, false), (⟨(.some 4), .fadr 0 (.r 3), .none⟩, false), (⟨(.some 5), .ld (.r 4), .none⟩, false), (⟨(.some 6), .nilck (.r 5), .none⟩, false), (⟨(.some 7), .fadr 5 (.r 6), .none⟩, false), (⟨(.some 8), .ld (.r 7), .none⟩, false), (⟨(.some 9), .mv (.r 0), .none⟩, false), (⟨(.some 10), .nilck (.r 9), .none⟩, false), (⟨(.some 11), .fadr 0 (.r 10), .none⟩, false), (⟨(.some 12), .ld (.r 11), .none⟩, false), (⟨(.some 13), .nilck (.r 12), .none⟩, false), (⟨(.some 14), .fadr 3 (.r 13), .none⟩, false), (⟨(.some 15), .ld (.r 14), .none⟩, false), (⟨(.some 16), .ixSl 3 (.r 15) (.c (.i (.ofNat (nat_lit 0)))), .none⟩, false), (⟨(.some 17), .fadr 1 (.r 16), .none⟩, false), (⟨(.some 18), .ld (.r 17), .none⟩, false), (⟨(.some 19), .lookup (.leaf .str) (.i (.ofNat (nat_lit 0))) false (.r 8) (.r 18), .none⟩, false), (⟨(.some 20), .bin .eql (.r 19) (.c (.i (.ofNat (nat_lit 0)))), .none⟩, false)] [])
 (.cond (.r 20) (.reg [⟨(.some 21), .mv (.r 0), .none⟩, ⟨(.some 22), .nilck (.r 21), .none⟩, ⟨(.some 23), .fadr 0 (.r 22), .none⟩, ⟨(.some 24), .ld (.r 23), .none⟩, ⟨(.some 25), .nilck (.r 24), .none⟩, ⟨(.some 26), .fadr 3 (.r 25), .none⟩, ⟨(.some 27), .ld (.r 26), .none⟩, ⟨(.some 28), .ixSl 3 (.r 27) (.c (.i (.ofNat (nat_lit 0)))), .none⟩, ⟨(.some 29), .fadr 2 (.r 28), .none⟩, ⟨(.some 30), .ld (.r 29), .none⟩, ⟨(.some 31), .call 135 [(.c (.i (.ofNat (nat_lit 9)))), (.r 30)], .none⟩]) .skip)), 32, []⟩
theorem AxZok172 : cfOf AxZ 172 = some AxZc172 := by kernel_rfl
/- (*conch/gread.builder).term -/
noncomputable def AxZc173 : CF := ⟨(.seq (.reg [⟨(.some 3), .box 158 (.r 1), .none⟩])
 (.seq (.seq (.reg [⟨(.some 4), .mv (.r 0), .none⟩, ⟨(.some 5), .nilck (.r 4), .none⟩, ⟨(.some 6), .fadr 3 (.r 5), .none⟩, ⟨(.some 7), .fadr 0 (.r 6), .none⟩, ⟨(.some 8), .ld (.r 7), .none⟩, ⟨(.some 9), .lenSl (.r 8), .none⟩, ⟨(.some 10), .bin .geq (.r 9) (.c (.i (.ofNat (nat_lit 120)))), .none⟩])
 (.cond (.r 10) (.reg [⟨(.some 11), .fadr 2 (.r 3), .none⟩, ⟨(.some 12), .ld (.r 11), .none⟩, ⟨(.some 13), .call 135 [(.c (.i (.ofNat (nat_lit 7)))), (.r 12)], .none⟩]) .skip))
 (.seq (.dreg [(⟨(.some 14), .mv (.r 0), .none⟩, false), (⟨(.some 15), .mv (.r 0), .none⟩, false), (⟨(.some 16), .nilck (.r 15), .none⟩, false), (⟨(.some 17), .fadr 3 (.r 16), .none⟩, false), (⟨(.some 18), .fadr 0 (.r 17), .none⟩, false), (⟨(.some 19), .ld (.r 18), .none⟩, false), (⟨(.some 20), .fadr 1 (.r 3), .none⟩, false), (⟨(.some 21), .ld (.r 20), .none⟩, false), (⟨(.some 22), .bslice 9 1 1 [(.s 0 (nat_lit 0))] [(0, 1, (.r 21))], .none⟩, true), (⟨(.some 23), .app 9 1 (.r 19) (.r 22), .none⟩, true), (⟨(.some 24), .nilck (.r 14), .none⟩, false), (⟨(.some 25), .fadr 3 (.r 24), .none⟩, false), (⟨(.some 26), .fadr 0 (.r 25), .none⟩, false), (⟨.none, .st 1 (.r 26) (.r 23), .none⟩, true)] [(⟨(.some 19), .ld (.r 18), .none⟩, 0, 2)])
 (.dreg [(⟨(.some 27), .mv (.r 0), .none⟩, false), (⟨(.some 28), .nilck (.r 27), .none⟩, false), (⟨(.some 29), .fadr 1 (.r 28), .none⟩, false), (⟨(.some 30), .ld (.r 29), .none⟩, false), (⟨(.some 31), .fadr 1 (.r 3), .none⟩, false), (⟨(.some 32), .ld (.r 31), .none⟩, false), (⟨(.some 33), .mv (.r 0), .none⟩, false), (⟨(.some 34), .nilck (.r 33), .none⟩, false), (⟨(.some 35), .fadr 3 (.r 34), .none⟩, false), (⟨(.some 36), .fadr 0 (.r 35), .none⟩, false), (⟨(.some 37), .ld (.r 36), .none⟩, false), (⟨(.some 38), .lenSl (.r 37), .none⟩, false), (⟨.none, .mupd (.leaf .str) (.r 30) (.r 32) (.r 38), .none⟩, true)] [])))), 39, []⟩
theorem AxZok173 : cfOf AxZ 173 = some AxZc173 := by kernel_rfl
/- slices.IndexFunc[[][]string,[]string] -/
noncomputable def AxZc174 : CF := ⟨(.seq (.reg [⟨(.some 4), .mv (.c (.i (.ofNat (nat_lit 0)))), .none⟩])
 (.seq (.seq (.reg [⟨(.some 6), .mv (.r 0), .none⟩, ⟨(.some 7), .lenSl (.r 6), .none⟩, ⟨(.some 8), .mv (.c (.i (.ofNat (nat_lit 0)))), .none⟩])
 (.block 0 (.loop (.seq (.reg [⟨(.some 9), .bin .lss (.r 8) (.r 7), .none⟩])
 (.seq (.cond (.r 9) .skip (.exit 0))
 (.seq (.block 1 (.seq (.reg [⟨(.some 10), .mv (.r 8), .none⟩, ⟨(.some 5), .mv (.r 10), .none⟩])
 (.seq (.reg [⟨(.some 11), .mv (.r 1), .none⟩, ⟨(.some 12), .mv (.r 0), .none⟩, ⟨(.some 13), .mv (.r 5), .none⟩, ⟨(.some 14), .ixSl 1 (.r 12) (.r 13), .none⟩, ⟨(.some 15), .ld (.r 14), .none⟩, ⟨(.some 16), .callv (.r 11) [(.r 15)], .none⟩])
 (.cond (.r 16) (.seq (.reg [⟨(.some 17), .mv (.r 5), .none⟩, ⟨(.some 4), .mv (.r 17), .none⟩])
 .ret) .skip))))
 (.reg [⟨(.some 18), .bin .add (.r 8) (.c (.i (.ofNat (nat_lit 1)))), .none⟩, ⟨(.some 8), .mv (.r 18), .none⟩])))))))
 (.seq (.reg [⟨(.some 4), .mv (.c (.i (.negSucc (nat_lit 0)))), .none⟩])
 .ret))), 19, [.tmp 4]⟩
theorem AxZok174 : cfOf AxZ 174 = some AxZc174 := by kernel_rfl
/- (*conch/look.maker).prepare -/
noncomputable def AxZc175 : CF := ⟨(.seq (.reg [⟨(.some 11), .mv (.r 0), .none⟩, ⟨(.some 12), .nilck (.r 11), .none⟩, ⟨(.some 13), .fadr 0 (.r 12), .none⟩, ⟨(.some 14), .lda 4 (.r 13), .none⟩, ⟨(.some 15), .call 196 [(.r 14)], .none⟩, ⟨(.some 2), .mv (.r 15), .none⟩])
 (.seq (.reg [⟨(.some 16), .mv (.r 0), .none⟩, ⟨(.some 17), .mv (.r 0), .none⟩, ⟨(.some 18), .nilck (.r 17), .none⟩, ⟨(.some 19), .fadr 0 (.r 18), .none⟩, ⟨(.some 20), .lda 4 (.r 19), .none⟩, ⟨(.some 21), .call 88 [(.r 20)], .none⟩, ⟨(.some 22), .bin .add (.r 21) (.c (.i (.ofNat (nat_lit 1)))), .none⟩, ⟨(.some 23), .mkSl 22 1 [.nils] (.r 22) (.r 22), .none⟩, ⟨(.some 24), .nilck (.r 16), .none⟩, ⟨(.some 25), .fadr 7 (.r 24), .none⟩, ⟨.none, .st 1 (.r 25) (.r 23), .none⟩])
 (.seq (.seq (.reg [⟨(.some 26), .mv (.r 0), .none⟩, ⟨(.some 27), .nilck (.r 26), .none⟩, ⟨(.some 28), .fadr 0 (.r 27), .none⟩, ⟨(.some 29), .fadr 2 (.r 28), .none⟩, ⟨(.some 30), .ld (.r 29), .none⟩, ⟨(.some 31), .lenSl (.r 30), .none⟩, ⟨(.some 32), .bin .add (.r 31) (.c (.i (.ofNat (nat_lit 1)))), .none⟩, ⟨(.some 33), .mv (.c (.i (.ofNat (nat_lit 0)))), .none⟩])
 (.block 0 (.loop (.seq (.reg [⟨(.some 34), .bin .lss (.r 33) (.r 32), .none⟩])
 (.seq (.cond (.r 34) .skip (.exit 0))
 (.seq (.block 1 (.seq (.reg [⟨(.some 35), .mv (.r 33), .none⟩, ⟨(.some 3), .mv (.r 35), .none⟩])
 (.seq (.reg [⟨(.some 37), .mv (.r 0), .none⟩, ⟨(.some 38), .nilck (.r 37), .none⟩, ⟨(.some 39), .fadr 0 (.r 38), .none⟩, ⟨(.some 40), .lda 4 (.r 39), .none⟩, ⟨(.some 41), .mv (.r 3), .none⟩, ⟨(.some 42), .call 81 [(.r 40), (.r 41)], .none⟩, ⟨(.some 36), .mv (.r 42), .none⟩, ⟨(.some 43), .ext (.r 36) 0, .none⟩, ⟨(.some 44), .ext (.r 36) 1, .none⟩, ⟨(.some 4), .alloc 149 [(.i (.ofNat (nat_lit 0))), .nils], .none⟩, ⟨.none, .st 2 (.r 4) (.r 43), .none⟩, ⟨(.some 5), .mv (.r 44), .none⟩])
 (.seq (.dreg [(⟨(.some 45), .mv (.r 0), .none⟩, false), (⟨(.some 46), .mv (.r 0), .none⟩, false), (⟨(.some 47), .nilck (.r 46), .none⟩, false), (⟨(.some 48), .fadr 5 (.r 47), .none⟩, false), (⟨(.some 49), .ld (.r 48), .none⟩, false), (⟨(.some 50), .fadr 1 (.r 4), .none⟩, false), (⟨(.some 51), .ld (.r 50), .none⟩, false), (⟨(.some 52), .bslice 22 1 1 [.nils] [(0, 1, (.r 51))], .none⟩, true), (⟨(.some 53), .app 22 1 (.r 49) (.r 52), .none⟩, true), (⟨(.some 54), .nilck (.r 45), .none⟩, false), (⟨(.some 55), .fadr 5 (.r 54), .none⟩, false), (⟨.none, .st 1 (.r 55) (.r 53), .none⟩, true)] [(⟨(.some 49), .ld (.r 48), .none⟩, 0, 2)])
 (.seq (.seq (.reg [⟨(.some 56), .mv (.r 3), .none⟩, ⟨(.some 57), .mv (.r 0), .none⟩, ⟨(.some 58), .nilck (.r 57), .none⟩, ⟨(.some 59), .fadr 0 (.r 58), .none⟩, ⟨(.some 60), .fadr 2 (.r 59), .none⟩, ⟨(.some 61), .ld (.r 60), .none⟩, ⟨(.some 62), .lenSl (.r 61), .none⟩, ⟨(.some 63), .bin .lss (.r 56) (.r 62), .none⟩])
 (.cond (.r 63) (.dreg [(⟨(.some 64), .mv (.r 0), .none⟩, false), (⟨(.some 65), .nilck (.r 64), .none⟩, false), (⟨(.some 66), .fadr 7 (.r 65), .none⟩, false), (⟨(.some 67), .ld (.r 66), .none⟩, false), (⟨(.some 68), .fadr 0 (.r 4), .none⟩, false), (⟨(.some 69), .ld (.r 68), .none⟩, false), (⟨(.some 70), .mv (.r 0), .none⟩, false), (⟨(.some 71), .nilck (.r 70), .none⟩, false), (⟨(.some 72), .fadr 7 (.r 71), .none⟩, false), (⟨(.some 73), .ld (.r 72), .none⟩, false), (⟨(.some 74), .fadr 0 (.r 4), .none⟩, false), (⟨(.some 75), .ld (.r 74), .none⟩, false), (⟨(.some 76), .ixSl 1 (.r 73) (.r 75), .none⟩, false), (⟨(.some 77), .ld (.r 76), .none⟩, false), (⟨(.some 78), .mv (.r 3), .none⟩, false), (⟨(.some 79), .bslice 3 1 1 [(.i (.ofNat (nat_lit 0)))] [(0, 1, (.r 78))], .none⟩, true), (⟨(.some 80), .app 3 1 (.r 77) (.r 79), .none⟩, true), (⟨(.some 81), .ixSl 1 (.r 67) (.r 69), .none⟩, false), (⟨.none, .st 1 (.r 81) (.r 80), .none⟩, true)] [(⟨(.some 67), .ld (.r 66), .none⟩, 0, 3), (⟨(.some 69), .ld (.r 68), .none⟩, 0, 3), (⟨(.some 73), .ld (.r 72), .none⟩, 0, 2), (⟨(.some 75), .ld (.r 74), .none⟩, 0, 2), (⟨(.some 77), .ld (.r 76), .none⟩, 0, 2)]) .skip))
 (.seq (.reg [⟨(.some 6), .mv (.c .nils), .none⟩])
 (.seq (.seq (.reg [⟨(.some 82), .fadr 1 (.r 4), .none⟩, ⟨(.some 83), .ld (.r 82), .none⟩, ⟨(.some 84), .lenSl (.r 83), .none⟩, ⟨(.some 85), .mv (.c (.i (.ofNat (nat_lit 0)))), .none⟩])
 (.block 2 (.loop (.seq (.reg [⟨(.some 86), .bin .lss (.r 85) (.r 84), .none⟩])
 (.seq (.cond (.r 86) .skip (.exit 2))
 (.seq (.block 3 (.seq (.reg [⟨(.some 87), .mv (.r 85), .none⟩, ⟨(.some 7), .mv (.r 87), .none⟩])
 (.seq (.reg [⟨(.some 89), .mv (.r 2), .none⟩, ⟨(.some 90), .fadr 1 (.r 4), .none⟩, ⟨(.some 91), .ld (.r 90), .none⟩, ⟨(.some 92), .mv (.r 7), .none⟩, ⟨(.some 93), .bin .add (.r 92) (.c (.i (.ofNat (nat_lit 1)))), .none⟩, ⟨(.some 94), .slSl 1 (.r 91) (.some (.r 93)) .none .none, .none⟩, ⟨(.some 95), .call 197 [(.r 89), (.r 94)], .none⟩, ⟨(.some 88), .mv (.r 95), .none⟩, ⟨(.some 96), .ext (.r 88) 0, .none⟩, ⟨(.some 97), .ext (.r 88) 1, .none⟩, ⟨(.some 8), .mv (.r 96), .none⟩, ⟨(.some 9), .mv (.r 97), .none⟩])
 (.reg [⟨(.some 98), .mv (.r 6), .none⟩, ⟨(.some 99), .mv (.r 0), .none⟩, ⟨(.some 100), .mv (.r 8), .none⟩, ⟨(.some 101), .call 198 [(.r 99), (.r 100)], .none⟩, ⟨(.some 102), .mv (.r 9), .none⟩, ⟨(.some 103), .build [.nilp, (.b false)] [(0, 1, (.r 101)), (1, 1, (.r 102))], .none⟩, ⟨(.some 104), .bslice 299 2 1 [.nilp, (.b false)] [(0, 2, (.r 103))], .none⟩, ⟨(.some 105), .app 299 2 (.r 98) (.r 104), .none⟩, ⟨(.some 6), .mv (.r 105), .none⟩]))))
 (.reg [⟨(.some 106), .bin .add (.r 85) (.c (.i (.ofNat (nat_lit 1)))), .none⟩, ⟨(.some 85), .mv (.r 106), .none⟩])))))))
 (.reg [⟨(.some 107), .mv (.r 0), .none⟩, ⟨(.some 108), .mv (.r 0), .none⟩, ⟨(.some 109), .nilck (.r 108), .none⟩, ⟨(.some 110), .fadr 6 (.r 109), .none⟩, ⟨(.some 111), .ld (.r 110), .none⟩, ⟨(.some 112), .mv (.r 6), .none⟩, ⟨(.some 113), .bslice 296 1 1 [.nils] [(0, 1, (.r 112))], .none⟩, ⟨(.some 114), .app 296 1 (.r 111) (.r 113), .none⟩, ⟨(.some 115), .nilck (.r 107), .none⟩, ⟨(.some 116), .fadr 6 (.r 115), .none⟩, ⟨.none, .st 1 (.r 116) (.r 114), .none⟩]))))))))
 (.reg [⟨(.some 117), .bin .add (.r 33) (.c (.i (.ofNat (nat_lit 1)))), .none⟩, ⟨(.some 33), .mv (.r 117), .none⟩])))))))
 (.seq (.reg [⟨(.some 118), .mv (.r 0), .none⟩, ⟨(.some 119), .mv (.r 0), .none⟩, ⟨(.some 120), .nilck (.r 119), .none⟩, ⟨(.some 121), .fadr 0 (.r 120), .none⟩, ⟨(.some 122), .lda 4 (.r 121), .none⟩, ⟨(.some 123), .call 88 [(.r 122)], .none⟩, ⟨(.some 124), .bin .add (.r 123) (.c (.i (.ofNat (nat_lit 1)))), .none⟩, ⟨(.some 125), .mkSl 300 1 [.nils] (.r 124) (.r 124), .none⟩, ⟨(.some 126), .nilck (.r 118), .none⟩, ⟨(.some 127), .fadr 8 (.r 126), .none⟩, ⟨.none, .st 1 (.r 127) (.r 125), .none⟩])
 (.seq (.reg [⟨(.some 128), .mv (.r 0), .none⟩, ⟨(.some 129), .nilck (.r 128), .none⟩, ⟨(.some 130), .fadr 0 (.r 129), .none⟩, ⟨(.some 131), .fadr 0 (.r 130), .none⟩, ⟨(.some 132), .ld (.r 131), .none⟩, ⟨(.some 133), .lenSl (.r 132), .none⟩, ⟨(.some 134), .bin .add (.r 133) (.c (.i (.ofNat (nat_lit 1)))), .none⟩, ⟨(.some 10), .mv (.r 134), .none⟩])
 (.block 4 (.loop (.seq (.seq (.reg [⟨(.some 135), .mv (.r 10), .none⟩, ⟨(.some 136), .mv (.r 0), .none⟩, ⟨(.some 137), .nilck (.r 136), .none⟩, ⟨(.some 138), .fadr 0 (.r 137), .none⟩, ⟨(.some 139), .lda 4 (.r 138), .none⟩, ⟨(.some 140), .call 88 [(.r 139)], .none⟩, ⟨(.some 141), .bin .leq (.r 135) (.r 140), .none⟩])
 (.cond (.r 141) .skip (.exit 4)))
 (.seq (.block 5 (.dreg [(⟨(.some 144), .mv (.r 0), .none⟩, false), (⟨(.some 145), .nilck (.r 144), .none⟩, false), (⟨(.some 146), .fadr 8 (.r 145), .none⟩, false), (⟨(.some 147), .ld (.r 146), .none⟩, false), (⟨(.some 148), .mv (.r 10), .none⟩, false), (⟨(.some 149), .mv (.r 0), .none⟩, false), (⟨(.some 150), .mv (.r 10), .none⟩, false), (⟨(.some 151), .call 199 [(.r 149), (.r 150)], .none⟩, true), (⟨(.some 152), .ixSl 1 (.r 147) (.r 148), .none⟩, false), (⟨.none, .st 1 (.r 152) (.r 151), .none⟩, true)] [(⟨(.some 147), .ld (.r 146), .none⟩, 0, 2)]))
 (.reg [⟨(.some 142), .mv (.r 10), .none⟩, ⟨(.some 143), .bin .add (.r 142) (.c (.i (.ofNat (nat_lit 1)))), .none⟩, ⟨(.some 10), .mv (.r 143), .none⟩])))))))))), 153, []⟩
theorem AxZok175 : cfOf AxZ 175 = some AxZc175 := by kernel_rfl
/- (*conch/look.maker).fresh -/
noncomputable def AxZc176 : CF := ⟨(.seq (.reg [⟨(.some 2), .mv (.c (.i (.ofNat (nat_lit 0)))), .none⟩])
 (.seq (.dreg [(⟨(.some 3), .mv (.r 0), .none⟩, false), (⟨(.some 4), .mv (.r 0), .none⟩, false), (⟨(.some 5), .nilck (.r 4), .none⟩, false), (⟨(.some 6), .fadr 10 (.r 5), .none⟩, false), (⟨(.some 7), .ld (.r 6), .none⟩, false), (⟨(.some 8), .mv (.r 0), .none⟩, false), (⟨(.some 9), .nilck (.r 8), .none⟩, false), (⟨(.some 10), .fadr 0 (.r 9), .none⟩, false), (⟨(.some 11), .fadr 0 (.r 10), .none⟩, false), (⟨(.some 12), .ld (.r 11), .none⟩, false), (⟨(.some 13), .lenSl (.r 12), .none⟩, false), (⟨(.some 14), .bin .add (.r 13) (.c (.i (.ofNat (nat_lit 1)))), .none⟩, false), (⟨(.some 15), .call 200 [(.r 14)], .none⟩, true), (⟨(.some 16), .bslice 284 1 1 [.nilp] [(0, 1, (.r 15))], .none⟩, true), (⟨(.some 17), .app 284 1 (.r 7) (.r 16), .none⟩, true), (⟨(.some 18), .nilck (.r 3), .none⟩, false), (⟨(.some 19), .fadr 10 (.r 18), .none⟩, false), (⟨.none, .st 1 (.r 19) (.r 17), .none⟩, true)] [(⟨(.some 7), .ld (.r 6), .none⟩, 0, 3)])
 (.seq (.reg [⟨(.some 20), .mv (.r 0), .none⟩, ⟨(.some 21), .nilck (.r 20), .none⟩, ⟨(.some 22), .fadr 10 (.r 21), .none⟩, ⟨(.some 23), .ld (.r 22), .none⟩, ⟨(.some 24), .lenSl (.r 23), .none⟩, ⟨(.some 25), .bin .sub (.r 24) (.c (.i (.ofNat (nat_lit 1)))), .none⟩, ⟨(.some 2), .mv (.r 25), .none⟩])
 .ret))), 26, [.tmp 2]⟩
theorem AxZok176 : cfOf AxZ 176 = some AxZc176 := by kernel_rfl
/- (*conch/bits.Set).Put -/
noncomputable def AxZc177 : CF := ⟨(.seq (.reg [⟨(.some 4), .mv (.c (.b false)), .none⟩])
 (.seq (.reg [⟨(.some 9), .mv (.r 0), .none⟩, ⟨(.some 10), .mv (.r 1), .none⟩, ⟨(.some 11), .call 201 [(.r 9), (.r 10)], .none⟩, ⟨(.some 8), .mv (.r 11), .none⟩, ⟨(.some 12), .ext (.r 8) 0, .none⟩, ⟨(.some 13), .ext (.r 8) 1, .none⟩, ⟨(.some 14), .ext (.r 8) 2, .none⟩, ⟨(.some 5), .mv (.r 12), .none⟩, ⟨(.some 6), .mv (.r 13), .none⟩, ⟨(.some 7), .mv (.r 14), .none⟩])
 (.seq (.seq (.reg [⟨(.some 15), .mv (.r 7), .none⟩, ⟨(.some 16), .un .not (.r 15), .none⟩, ⟨(.some 17), .mv (.r 16), .none⟩, ⟨(.some 18), .mv (.r 0), (.some (17, false))⟩, ⟨(.some 19), .nilck (.r 18), (.some (17, false))⟩, ⟨(.some 20), .fadr 1 (.r 19), (.some (17, false))⟩, ⟨(.some 21), .ld (.r 20), (.some (17, false))⟩, ⟨(.some 22), .mv (.r 5), (.some (17, false))⟩, ⟨(.some 23), .ixSl 1 (.r 21) (.r 22), (.some (17, false))⟩, ⟨(.some 24), .ld (.r 23), (.some (17, false))⟩, ⟨(.some 25), .mv (.r 6), (.some (17, false))⟩, ⟨(.some 26), .bin .and (.r 24) (.r 25), (.some (17, false))⟩, ⟨(.some 27), .bin .neq (.r 26) (.c (.u .u64 (.ofNat (nat_lit 0)))), (.some (17, false))⟩, ⟨(.some 28), .pick (.r 17) (.c (.b true)) (.r 27), .none⟩])
 (.cond (.r 28) (.seq (.reg [⟨(.some 4), .mv (.c (.b false)), .none⟩])
 .ret) .skip))
 (.seq (.reg [⟨(.some 29), .mv (.r 0), .none⟩, ⟨(.some 30), .nilck (.r 29), .none⟩, ⟨(.some 31), .fadr 1 (.r 30), .none⟩, ⟨(.some 32), .ld (.r 31), .none⟩, ⟨(.some 33), .mv (.r 5), .none⟩, ⟨(.some 34), .ixSl 1 (.r 32) (.r 33), .none⟩, ⟨(.some 35), .ld (.r 34), .none⟩, ⟨(.some 36), .mv (.r 6), .none⟩, ⟨(.some 37), .bin .or (.r 35) (.r 36), .none⟩, ⟨(.some 38), .ixSl 1 (.r 32) (.r 33), .none⟩, ⟨.none, .st 1 (.r 38) (.r 37), .none⟩])
 (.seq (.reg [⟨(.some 4), .mv (.c (.b true)), .none⟩])
 .ret))))), 39, [.tmp 4]⟩
theorem AxZok177 : cfOf AxZ 177 = some AxZc177 := by kernel_rfl
/- (*conch/look.maker).item -/
noncomputable def AxZc178 : CF := ⟨(.seq (.reg [⟨(.some 7), .box 259 (.r 3), .none⟩])
 (.seq (.dreg [(⟨(.some 17), .mv (.r 0), .none⟩, false), (⟨(.some 18), .nilck (.r 17), .none⟩, false), (⟨(.some 19), .fadr 5 (.r 18), .none⟩, false), (⟨(.some 20), .ld (.r 19), .none⟩, false), (⟨(.some 21), .fadr 0 (.r 7), .none⟩, false), (⟨(.some 22), .ld (.r 21), .none⟩, false), (⟨(.some 23), .ixSl 1 (.r 20) (.r 22), .none⟩, false), (⟨(.some 24), .ld (.r 23), .none⟩, false), (⟨(.some 8), .mv (.r 24), .none⟩, false)] [])
 (.seq (.seq (.reg [⟨(.some 25), .fadr 1 (.r 7), .none⟩, ⟨(.some 26), .ld (.r 25), .none⟩, ⟨(.some 27), .mv (.r 8), .none⟩, ⟨(.some 28), .lenSl (.r 27), .none⟩, ⟨(.some 29), .bin .geq (.r 26) (.r 28), .none⟩])
 (.cond (.r 29) .ret .skip))
 (.seq (.dreg [(⟨(.some 30), .mv (.r 0), .none⟩, false), (⟨(.some 31), .mv (.r 0), .none⟩, false), (⟨(.some 32), .nilck (.r 31), .none⟩, false), (⟨(.some 33), .fadr 11 (.r 32), .none⟩, false), (⟨(.some 34), .ld (.r 33), .none⟩, false), (⟨(.some 35), .mv (.r 0), .none⟩, false), (⟨(.some 36), .mv (.r 1), .none⟩, false), (⟨(.some 37), .lda 2 (.r 7), .none⟩, false), (⟨(.some 38), .call 202 [(.r 35), (.r 36), (.r 37)], .none⟩, true), (⟨(.some 39), .mv (.r 2), .none⟩, false), (⟨(.some 40), .build [(.i (.ofNat (nat_lit 0))), (.i (.ofNat (nat_lit 0))), .nilp, (.b false)] [(0, 1, (.r 38)), (1, 1, (.r 39)), (2, 1, (.c .nilp)), (3, 1, (.c (.b true)))], .none⟩, false), (⟨(.some 41), .bslice 310 4 1 [(.i (.ofNat (nat_lit 0))), (.i (.ofNat (nat_lit 0))), .nilp, (.b false)] [(0, 4, (.r 40))], .none⟩, true), (⟨(.some 42), .app 310 4 (.r 34) (.r 41), .none⟩, true), (⟨(.some 43), .nilck (.r 30), .none⟩, false), (⟨(.some 44), .fadr 11 (.r 43), .none⟩, false), (⟨.none, .st 1 (.r 44) (.r 42), .none⟩, true)] [(⟨(.some 34), .ld (.r 33), .none⟩, 0, 3)])
 (.seq (.seq (.dreg [(⟨(.some 45), .mv (.r 0), .none⟩, false), (⟨(.some 46), .nilck (.r 45), .none⟩, false), (⟨(.some 47), .fadr 0 (.r 46), .none⟩, false), (⟨(.some 48), .lda 4 (.r 47), .none⟩, false), (⟨(.some 49), .mv (.r 8), .none⟩, false), (⟨(.some 50), .fadr 1 (.r 7), .none⟩, false), (⟨(.some 51), .ld (.r 50), .none⟩, false), (⟨(.some 52), .ixSl 1 (.r 49) (.r 51), .none⟩, false), (⟨(.some 53), .ld (.r 52), .none⟩, false), (⟨(.some 54), .call 103 [(.r 48), (.r 53)], .none⟩, true), (⟨(.some 55), .un .not (.r 54), .none⟩, false)] [])
 (.cond (.r 55) .ret .skip))
 (.seq (.dreg [(⟨(.some 56), .mv (.r 0), .none⟩, false), (⟨(.some 57), .nilck (.r 56), .none⟩, false), (⟨(.some 58), .fadr 6 (.r 57), .none⟩, false), (⟨(.some 59), .ld (.r 58), .none⟩, false), (⟨(.some 60), .fadr 0 (.r 7), .none⟩, false), (⟨(.some 61), .ld (.r 60), .none⟩, false), (⟨(.some 62), .ixSl 1 (.r 59) (.r 61), .none⟩, false), (⟨(.some 63), .ld (.r 62), .none⟩, false), (⟨(.some 64), .fadr 1 (.r 7), .none⟩, false), (⟨(.some 65), .ld (.r 64), .none⟩, false), (⟨(.some 66), .ixSl 2 (.r 63) (.r 65), .none⟩, false), (⟨(.some 67), .lda 2 (.r 66), .none⟩, false), (⟨(.some 9), .alloc 299 [.nilp, (.b false)], .none⟩, true), (⟨.none, .st 2 (.r 9) (.r 67), .none⟩, true)] [(⟨(.some 59), .ld (.r 58), .none⟩, 0, 2), (⟨(.some 61), .ld (.r 60), .none⟩, 0, 2), (⟨(.some 63), .ld (.r 62), .none⟩, 0, 2), (⟨(.some 65), .ld (.r 64), .none⟩, 0, 2), (⟨(.some 67), .lda 2 (.r 66), .none⟩, 0, 2)])
 (.seq (.reg [⟨(.some 68), .fadr 1 (.r 9), .none⟩, ⟨(.some 69), .ld (.r 68), .none⟩, ⟨(.some 70), .un .not (.r 69), .none⟩, ⟨(.some 71), .mv (.r 70), .none⟩, ⟨(.some 72), .fadr 0 (.r 9), (.some (71, true))⟩, ⟨(.some 73), .ld (.r 72), (.some (71, true))⟩, ⟨(.some 74), .call 203 [(.r 73), (.c (.i (.ofNat (nat_lit 0))))], (.some (71, true))⟩, ⟨(.some 75), .bin .lss (.r 74) (.c (.i (.ofNat (nat_lit 0)))), (.some (71, true))⟩, ⟨(.some 76), .pick (.r 71) (.r 75) (.c (.b false)), .none⟩, ⟨(.some 10), .mv (.r 76), .none⟩])
 (.seq (.dreg [(⟨(.some 77), .mv (.r 0), .none⟩, false), (⟨(.some 78), .nilck (.r 77), .none⟩, false), (⟨(.some 79), .fadr 8 (.r 78), .none⟩, false), (⟨(.some 80), .ld (.r 79), .none⟩, false), (⟨(.some 81), .mv (.r 8), .none⟩, false), (⟨(.some 82), .fadr 1 (.r 7), .none⟩, false), (⟨(.some 83), .ld (.r 82), .none⟩, false), (⟨(.some 84), .ixSl 1 (.r 81) (.r 83), .none⟩, false), (⟨(.some 85), .ld (.r 84), .none⟩, false), (⟨(.some 86), .ixSl 1 (.r 80) (.r 85), .none⟩, false), (⟨(.some 87), .ld (.r 86), .none⟩, false), (⟨(.some 88), .lenSl (.r 87), .none⟩, false), (⟨(.some 89), .mv (.c (.i (.ofNat (nat_lit 0)))), .none⟩, false)] [])
 (.block 0 (.loop (.seq (.reg [⟨(.some 90), .bin .lss (.r 89) (.r 88), .none⟩])
 (.seq (.cond (.r 90) .skip (.exit 0))
 (.seq (.block 1 (.seq (.reg [⟨(.some 91), .ixSl 3 (.r 87) (.r 89), .none⟩, ⟨(.some 92), .lda 3 (.r 91), .none⟩, ⟨(.some 12), .alloc 313 [(.i (.ofNat (nat_lit 0))), .nilp, (.b false)], .none⟩, ⟨.none, .st 3 (.r 12) (.r 92), .none⟩])
 (.seq (.reg [⟨(.some 93), .fadr 1 (.r 12), .none⟩, ⟨(.some 94), .ld (.r 93), .none⟩, ⟨(.some 13), .mv (.r 94), .none⟩])
 (.seq (.seq (.reg [⟨(.some 95), .fadr 2 (.r 12), .none⟩, ⟨(.some 96), .ld (.r 95), .none⟩])
 (.cond (.r 96) (.seq (.reg [⟨(.some 97), .fadr 1 (.r 12), .none⟩, ⟨(.some 98), .ld (.r 97), .none⟩, ⟨(.some 99), .call 204 [(.r 98)], .none⟩, ⟨(.some 13), .mv (.r 99), .none⟩])
 (.reg [⟨(.some 100), .mv (.r 13), .none⟩, ⟨(.some 101), .fadr 0 (.r 9), .none⟩, ⟨(.some 102), .ld (.r 101), .none⟩, ⟨(.some 103), .call 205 [(.r 100), (.r 102)], .none⟩])) .skip))
 (.seq (.dreg [(⟨(.some 104), .mv (.r 0), .none⟩, false), (⟨(.some 105), .nilck (.r 104), .none⟩, false), (⟨(.some 106), .fadr 7 (.r 105), .none⟩, false), (⟨(.some 107), .ld (.r 106), .none⟩, false), (⟨(.some 108), .fadr 0 (.r 12), .none⟩, false), (⟨(.some 109), .ld (.r 108), .none⟩, false), (⟨(.some 110), .ixSl 1 (.r 107) (.r 109), .none⟩, false), (⟨(.some 111), .ld (.r 110), .none⟩, false), (⟨(.some 112), .lenSl (.r 111), .none⟩, false), (⟨(.some 113), .mv (.c (.i (.ofNat (nat_lit 0)))), .none⟩, false)] [])
 (.block 2 (.loop (.seq (.reg [⟨(.some 114), .bin .lss (.r 113) (.r 112), .none⟩])
 (.seq (.cond (.r 114) .skip (.exit 2))
 (.seq (.block 3 (.seq (.reg [⟨(.some 115), .ixSl 1 (.r 111) (.r 113), .none⟩, ⟨(.some 116), .ld (.r 115), .none⟩, ⟨(.some 15), .mv (.r 116), .none⟩])
 (.seq (.reg [⟨(.some 16), .mv (.c (.i (.ofNat (nat_lit 0)))), .none⟩])
 (.seq (.seq (.reg [⟨(.some 117), .mv (.r 0), .none⟩, ⟨(.some 118), .nilck (.r 117), .none⟩, ⟨(.some 119), .fadr 5 (.r 118), .none⟩, ⟨(.some 120), .ld (.r 119), .none⟩, ⟨(.some 121), .mv (.r 15), .none⟩, ⟨(.some 122), .ixSl 1 (.r 120) (.r 121), .none⟩, ⟨(.some 123), .ld (.r 122), .none⟩, ⟨(.some 124), .lenSl (.r 123), .none⟩, ⟨(.some 125), .bin .eql (.r 124) (.c (.i (.ofNat (nat_lit 0)))), .none⟩])
 (.cond (.r 125) (.reg [⟨(.some 126), .mv (.r 0), .none⟩, ⟨(.some 127), .mv (.r 1), .none⟩, ⟨(.some 128), .mv (.r 15), .none⟩, ⟨(.some 129), .call 206 [(.r 126), (.r 127), (.r 128)], .none⟩, ⟨(.some 16), .mv (.r 129), .none⟩]) (.reg [⟨(.some 130), .mv (.r 0), .none⟩, ⟨(.some 131), .mv (.r 1), .none⟩, ⟨(.some 132), .mv (.r 15), .none⟩, ⟨(.some 133), .build [(.i (.ofNat (nat_lit 0))), (.i (.ofNat (nat_lit 0)))] [(0, 1, (.r 132))], .none⟩, ⟨(.some 134), .call 202 [(.r 130), (.r 131), (.r 133)], .none⟩, ⟨(.some 16), .mv (.r 134), .none⟩])))
 (.seq (.reg [⟨(.some 135), .mv (.r 10), .none⟩, ⟨(.some 136), .un .not (.r 135), .none⟩])
 (.cond (.r 136) (.dreg [(⟨(.some 137), .mv (.r 0), .none⟩, false), (⟨(.some 138), .mv (.r 0), .none⟩, false), (⟨(.some 139), .nilck (.r 138), .none⟩, false), (⟨(.some 140), .fadr 11 (.r 139), .none⟩, false), (⟨(.some 141), .ld (.r 140), .none⟩, false), (⟨(.some 142), .mv (.r 16), .none⟩, false), (⟨(.some 143), .mv (.r 2), .none⟩, false), (⟨(.some 144), .mv (.r 13), .none⟩, false), (⟨(.some 145), .fadr 2 (.r 12), .none⟩, false), (⟨(.some 146), .ld (.r 145), .none⟩, false), (⟨(.some 147), .mv (.r 146), .none⟩, false), (⟨(.some 148), .fadr 1 (.r 9), (.some (147, true))⟩, false), (⟨(.some 149), .ld (.r 148), (.some (147, true))⟩, false), (⟨(.some 150), .pick (.r 147) (.r 149) (.c (.b false)), .none⟩, false), (⟨(.some 151), .build [(.i (.ofNat (nat_lit 0))), (.i (.ofNat (nat_lit 0))), .nilp, (.b false)] [(0, 1, (.r 142)), (1, 1, (.r 143)), (2, 1, (.r 144)), (3, 1, (.r 150))], .none⟩, false), (⟨(.some 152), .bslice 310 4 1 [(.i (.ofNat (nat_lit 0))), (.i (.ofNat (nat_lit 0))), .nilp, (.b false)] [(0, 4, (.r 151))], .none⟩, true), (⟨(.some 153), .app 310 4 (.r 141) (.r 152), .none⟩, true), (⟨(.some 154), .nilck (.r 137), .none⟩, false), (⟨(.some 155), .fadr 11 (.r 154), .none⟩, false), (⟨.none, .st 1 (.r 155) (.r 153), .none⟩, true)] [(⟨(.some 141), .ld (.r 140), .none⟩, 0, 2)]) .skip))))))
 (.reg [⟨(.some 156), .bin .add (.r 113) (.c (.i (.ofNat (nat_lit 1)))), .none⟩, ⟨(.some 113), .mv (.r 156), .none⟩])))))))))))
 (.reg [⟨(.some 157), .bin .add (.r 89) (.c (.i (.ofNat (nat_lit 1)))), .none⟩, ⟨(.some 89), .mv (.r 157), .none⟩])))))))))))))), 158, []⟩
theorem AxZok178 : cfOf AxZ 178 = some AxZc178 := by kernel_rfl
/- (*conch/look.maker).spread -/
noncomputable def AxZc179 : CF := ⟨(.scope (.seq (.label 0)
 (.seq (.reg [⟨(.some 2), .mv (.c (.b false)), .none⟩])
 (.seq (.seq (.reg [⟨(.some 5), .mv (.r 0), .none⟩, ⟨(.some 6), .nilck (.r 5), .none⟩, ⟨(.some 7), .fadr 11 (.r 6), .none⟩, ⟨(.some 8), .ld (.r 7), .none⟩, ⟨(.some 9), .lenSl (.r 8), .none⟩, ⟨(.some 10), .mv (.c (.i (.ofNat (nat_lit 0)))), .none⟩])
 (.block 0 (.loop (.seq (.reg [⟨(.some 11), .bin .lss (.r 10) (.r 9), .none⟩])
 (.seq (.cond (.r 11) .skip (.exit 0))
 (.seq (.block 1 (.seq (.reg [⟨(.some 12), .ixSl 4 (.r 8) (.r 10), .none⟩, ⟨(.some 13), .lda 4 (.r 12), .none⟩, ⟨(.some 4), .alloc 310 [(.i (.ofNat (nat_lit 0))), (.i (.ofNat (nat_lit 0))), .nilp, (.b false)], .none⟩, ⟨.none, .st 4 (.r 4) (.r 13), .none⟩])
 (.seq (.seq (.dreg [(⟨(.some 14), .mv (.r 0), .none⟩, false), (⟨(.some 15), .nilck (.r 14), .none⟩, false), (⟨(.some 16), .fadr 10 (.r 15), .none⟩, false), (⟨(.some 17), .ld (.r 16), .none⟩, false), (⟨(.some 18), .fadr 1 (.r 4), .none⟩, false), (⟨(.some 19), .ld (.r 18), .none⟩, false), (⟨(.some 20), .ixSl 1 (.r 17) (.r 19), .none⟩, false), (⟨(.some 21), .ld (.r 20), .none⟩, false), (⟨(.some 22), .call 203 [(.r 21), (.c (.i (.ofNat (nat_lit 0))))], .none⟩, true), (⟨(.some 23), .bin .lss (.r 22) (.c (.i (.ofNat (nat_lit 0)))), .none⟩, false)] [])
 (.cond (.r 23) (.exit 1) .skip))
 (.seq (.dreg [(⟨(.some 24), .mv (.r 0), .none⟩, false), (⟨(.some 25), .nilck (.r 24), .none⟩, false), (⟨(.some 26), .fadr 10 (.r 25), .none⟩, false), (⟨(.some 27), .ld (.r 26), .none⟩, false), (⟨(.some 28), .fadr 0 (.r 4), .none⟩, false), (⟨(.some 29), .ld (.r 28), .none⟩, false), (⟨(.some 30), .ixSl 1 (.r 27) (.r 29), .none⟩, false), (⟨(.some 31), .ld (.r 30), .none⟩, false), (⟨(.some 32), .fadr 2 (.r 4), .none⟩, false), (⟨(.some 33), .ld (.r 32), .none⟩, false), (⟨(.some 34), .call 205 [(.r 31), (.r 33)], .none⟩, true), (⟨(.some 35), .mv (.r 34), .none⟩, false), (⟨(.some 36), .mv (.r 2), (.some (35, false))⟩, false), (⟨(.some 37), .pick (.r 35) (.c (.b true)) (.r 36), .none⟩, false), (⟨(.some 2), .mv (.r 37), .none⟩, false)] [])
 (.seq (.reg [⟨(.some 38), .fadr 3 (.r 4), .none⟩, ⟨(.some 39), .ld (.r 38), .none⟩])
 (.cond (.r 39) (.dreg [(⟨(.some 40), .mv (.r 0), .none⟩, false), (⟨(.some 41), .nilck (.r 40), .none⟩, false), (⟨(.some 42), .fadr 10 (.r 41), .none⟩, false), (⟨(.some 43), .ld (.r 42), .none⟩, false), (⟨(.some 44), .fadr 0 (.r 4), .none⟩, false), (⟨(.some 45), .ld (.r 44), .none⟩, false), (⟨(.some 46), .ixSl 1 (.r 43) (.r 45), .none⟩, false), (⟨(.some 47), .ld (.r 46), .none⟩, false), (⟨(.some 48), .mv (.r 0), .none⟩, false), (⟨(.some 49), .nilck (.r 48), .none⟩, false), (⟨(.some 50), .fadr 10 (.r 49), .none⟩, false), (⟨(.some 51), .ld (.r 50), .none⟩, false), (⟨(.some 52), .fadr 1 (.r 4), .none⟩, false), (⟨(.some 53), .ld (.r 52), .none⟩, false), (⟨(.some 54), .ixSl 1 (.r 51) (.r 53), .none⟩, false), (⟨(.some 55), .ld (.r 54), .none⟩, false), (⟨(.some 56), .call 205 [(.r 47), (.r 55)], .none⟩, true), (⟨(.some 57), .mv (.r 56), .none⟩, false), (⟨(.some 58), .mv (.r 2), (.some (57, false))⟩, false), (⟨(.some 59), .pick (.r 57) (.c (.b true)) (.r 58), .none⟩, false), (⟨(.some 2), .mv (.r 59), .none⟩, false)] []) .skip))))))
 (.reg [⟨(.some 60), .bin .add (.r 10) (.c (.i (.ofNat (nat_lit 1)))), .none⟩, ⟨(.some 10), .mv (.r 60), .none⟩])))))))
 (.seq (.reg [⟨(.some 61), .mv (.r 2), .none⟩])
 (.cond (.r 61) (.goto 0) .skip)))))), 62, []⟩
theorem AxZok179 : cfOf AxZ 179 = some AxZc179 := by kernel_rfl
/- (*conch/look.maker).looks -/
noncomputable def AxZc180 : CF := ⟨(.seq (.reg [⟨(.some 4), .mv (.c .nils), .none⟩])
 (.seq (.reg [⟨(.some 14), .mkMap, .none⟩, ⟨(.some 5), .mv (.r 14), .none⟩])
 (.seq (.seq (.reg [⟨(.some 15), .mv (.r 0), .none⟩, ⟨(.some 16), .nilck (.r 15), .none⟩, ⟨(.some 17), .fadr 4 (.r 16), .none⟩, ⟨(.some 18), .ld (.r 17), .none⟩, ⟨(.some 19), .mv (.r 1), .none⟩, ⟨(.some 20), .ixSl 2 (.r 18) (.r 19), .none⟩, ⟨(.some 21), .fadr 0 (.r 20), .none⟩, ⟨(.some 22), .ld (.r 21), .none⟩, ⟨(.some 23), .lenSl (.r 22), .none⟩, ⟨(.some 24), .mv (.c (.i (.ofNat (nat_lit 0)))), .none⟩])
 (.block 0 (.loop (.seq (.reg [⟨(.some 25), .bin .lss (.r 24) (.r 23), .none⟩])
 (.seq (.cond (.r 25) .skip (.exit 0))
 (.seq (.block 1 (.seq (.reg [⟨(.some 26), .mv (.r 24), .none⟩, ⟨(.some 27), .ixSl 2 (.r 22) (.r 24), .none⟩, ⟨(.some 28), .lda 2 (.r 27), .none⟩, ⟨(.some 7), .alloc 259 [(.i (.ofNat (nat_lit 0))), (.i (.ofNat (nat_lit 0)))], .none⟩, ⟨(.some 6), .mv (.r 26), .none⟩, ⟨.none, .st 2 (.r 7) (.r 28), .none⟩])
 (.seq (.dreg [(⟨(.some 29), .fadr 1 (.r 7), .none⟩, false), (⟨(.some 30), .ld (.r 29), .none⟩, false), (⟨(.some 31), .mv (.r 0), .none⟩, false), (⟨(.some 32), .nilck (.r 31), .none⟩, false), (⟨(.some 33), .fadr 5 (.r 32), .none⟩, false), (⟨(.some 34), .ld (.r 33), .none⟩, false), (⟨(.some 35), .fadr 0 (.r 7), .none⟩, false), (⟨(.some 36), .ld (.r 35), .none⟩, false), (⟨(.some 37), .ixSl 1 (.r 34) (.r 36), .none⟩, false), (⟨(.some 38), .ld (.r 37), .none⟩, false), (⟨(.some 39), .lenSl (.r 38), .none⟩, false), (⟨(.some 40), .bin .eql (.r 30) (.r 39), .none⟩, false)] [])
 (.cond (.r 40) (.dreg [(⟨(.some 41), .mv (.r 5), .none⟩, false), (⟨(.some 42), .fadr 0 (.r 7), .none⟩, false), (⟨(.some 43), .ld (.r 42), .none⟩, false), (⟨(.some 44), .mv (.r 0), .none⟩, false), (⟨(.some 45), .nilck (.r 44), .none⟩, false), (⟨(.some 46), .fadr 9 (.r 45), .none⟩, false), (⟨(.some 47), .ld (.r 46), .none⟩, false), (⟨(.some 48), .mv (.r 1), .none⟩, false), (⟨(.some 49), .ixSl 1 (.r 47) (.r 48), .none⟩, false), (⟨(.some 50), .ld (.r 49), .none⟩, false), (⟨(.some 51), .mv (.r 6), .none⟩, false), (⟨(.some 52), .bin .add (.r 50) (.r 51), .none⟩, false), (⟨.none, .mupd (.leaf .int) (.r 41) (.r 43) (.r 52), .none⟩, true)] []) .skip))))
 (.reg [⟨(.some 53), .bin .add (.r 24) (.c (.i (.ofNat (nat_lit 1)))), .none⟩, ⟨(.some 24), .mv (.r 53), .none⟩])))))))
 (.seq (.seq (.reg [⟨(.some 54), .mv (.r 0), .none⟩, ⟨(.some 55), .nilck (.r 54), .none⟩, ⟨(.some 56), .fadr 12 (.r 55), .none⟩, ⟨(.some 57), .ld (.r 56), .none⟩, ⟨(.some 58), .mv (.r 1), .none⟩, ⟨(.some 59), .ixSl 1 (.r 57) (.r 58), .none⟩, ⟨(.some 60), .ld (.r 59), .none⟩, ⟨(.some 61), .lenSl (.r 60), .none⟩, ⟨(.some 62), .mv (.c (.i (.ofNat (nat_lit 0)))), .none⟩])
 (.block 2 (.loop (.seq (.reg [⟨(.some 63), .bin .lss (.r 62) (.r 61), .none⟩])
 (.seq (.cond (.r 63) .skip (.exit 2))
 (.seq (.block 3 (.seq (.reg [⟨(.some 64), .ixSl 2 (.r 60) (.r 62), .none⟩, ⟨(.some 65), .lda 2 (.r 64), .none⟩, ⟨(.some 9), .alloc 319 [(.i (.ofNat (nat_lit 0))), (.i (.ofNat (nat_lit 0)))], .none⟩, ⟨.none, .st 2 (.r 9) (.r 65), .none⟩])
 (.reg [⟨(.some 66), .mv (.r 5), .none⟩, ⟨(.some 67), .fadr 0 (.r 9), .none⟩, ⟨(.some 68), .ld (.r 67), .none⟩, ⟨(.some 69), .fadr 1 (.r 9), .none⟩, ⟨(.some 70), .ld (.r 69), .none⟩, ⟨.none, .mupd (.leaf .int) (.r 66) (.r 68) (.r 70), .none⟩])))
 (.reg [⟨(.some 71), .bin .add (.r 62) (.c (.i (.ofNat (nat_lit 1)))), .none⟩, ⟨(.some 62), .mv (.r 71), .none⟩])))))))
 (.seq (.reg [⟨(.some 10), .mv (.c .nils), .none⟩])
 (.seq (.seq (.reg [⟨(.some 72), .mv (.r 0), .none⟩, ⟨(.some 73), .nilck (.r 72), .none⟩, ⟨(.some 74), .fadr 5 (.r 73), .none⟩, ⟨(.some 75), .ld (.r 74), .none⟩, ⟨(.some 76), .lenSl (.r 75), .none⟩, ⟨(.some 77), .mv (.c (.i (.ofNat (nat_lit 0)))), .none⟩])
 (.block 4 (.loop (.seq (.reg [⟨(.some 78), .bin .lss (.r 77) (.r 76), .none⟩])
 (.seq (.cond (.r 78) .skip (.exit 4))
 (.seq (.block 5 (.seq (.reg [⟨(.some 79), .mv (.r 77), .none⟩, ⟨(.some 11), .mv (.r 79), .none⟩])
 (.seq (.reg [⟨(.some 81), .mv (.r 5), .none⟩, ⟨(.some 82), .mv (.r 11), .none⟩, ⟨(.some 83), .lookup (.leaf .int) (.i (.ofNat (nat_lit 0))) true (.r 81) (.r 82), .none⟩, ⟨(.some 80), .mv (.r 83), .none⟩, ⟨(.some 84), .ext (.r 80) 0, .none⟩, ⟨(.some 85), .ext (.r 80) 1, .none⟩, ⟨(.some 12), .mv (.r 84), .none⟩, ⟨(.some 13), .mv (.r 85), .none⟩])
 (.seq (.reg [⟨(.some 86), .mv (.r 13), .none⟩])
 (.cond (.r 86) (.reg [⟨(.some 87), .mv (.r 10), .none⟩, ⟨(.some 88), .mv (.r 11), .none⟩, ⟨(.some 89), .mv (.r 0), .none⟩, ⟨(.some 90), .nilck (.r 89), .none⟩, ⟨(.some 91), .fadr 10 (.r 90), .none⟩, ⟨(.some 92), .ld (.r 91), .none⟩, ⟨(.some 93), .mv (.r 12), .none⟩, ⟨(.some 94), .ixSl 1 (.r 92) (.r 93), .none⟩, ⟨(.some 95), .ld (.r 94), .none⟩, ⟨(.some 96), .call 207 [(.r 95)], .none⟩, ⟨(.some 97), .build [(.i (.ofNat (nat_lit 0))), .nils] [(0, 1, (.r 88)), (1, 1, (.r 96))], .none⟩, ⟨(.some 98), .bslice 255 2 1 [(.i (.ofNat (nat_lit 0))), .nils] [(0, 2, (.r 97))], .none⟩, ⟨(.some 99), .app 255 2 (.r 87) (.r 98), .none⟩, ⟨(.some 10), .mv (.r 99), .none⟩]) .skip)))))
 (.reg [⟨(.some 100), .bin .add (.r 77) (.c (.i (.ofNat (nat_lit 1)))), .none⟩, ⟨(.some 77), .mv (.r 100), .none⟩])))))))
 (.seq (.reg [⟨(.some 101), .mv (.r 10), .none⟩, ⟨(.some 4), .mv (.r 101), .none⟩])
 .ret))))))), 102, [.tmp 4]⟩
theorem AxZok180 : cfOf AxZ 180 = some AxZc180 := by kernel_rfl
/- (*strings.Builder).Write -/
noncomputable def AxZc181 : CF := ⟨(.seq (.reg [⟨(.some 4), .mv (.c (.i (.ofNat (nat_lit 0)))), .none⟩, ⟨(.some 5), .mv (.c .nili), .none⟩])
 (.seq (.reg [⟨(.some 6), .mv (.r 0), .none⟩, ⟨(.some 7), .call 102 [(.r 6)], .none⟩])
 (.seq (.reg [⟨(.some 8), .mv (.r 0), .none⟩, ⟨(.some 9), .mv (.r 0), .none⟩, ⟨(.some 10), .nilck (.r 9), .none⟩, ⟨(.some 11), .fadr 1 (.r 10), .none⟩, ⟨(.some 12), .ld (.r 11), .none⟩, ⟨(.some 13), .mv (.r 1), .none⟩, ⟨(.some 14), .app 5 1 (.r 12) (.r 13), .none⟩, ⟨(.some 15), .nilck (.r 8), .none⟩, ⟨(.some 16), .fadr 1 (.r 15), .none⟩, ⟨.none, .st 1 (.r 16) (.r 14), .none⟩])
 (.seq (.reg [⟨(.some 17), .mv (.r 1), .none⟩, ⟨(.some 18), .lenSl (.r 17), .none⟩, ⟨(.some 4), .mv (.r 18), .none⟩, ⟨(.some 5), .mv (.c .nili), .none⟩])
 .ret)))), 19, [.tmp 4, .tmp 5]⟩
theorem AxZok181 : cfOf AxZ 181 = some AxZc181 := by kernel_rfl
/- slices.SortFunc[[]conch/api.Item,conch/api.Item] -/
noncomputable def AxZc182 : CF := ⟨(.seq (.reg [⟨(.some 5), .mv (.r 0), .none⟩, ⟨(.some 6), .lenSl (.r 5), .none⟩, ⟨(.some 4), .mv (.r 6), .none⟩])
 (.reg [⟨(.some 7), .mv (.r 0), .none⟩, ⟨(.some 8), .mv (.r 4), .none⟩, ⟨(.some 9), .mv (.r 4), .none⟩, ⟨(.some 10), .cvInt .u64 (.r 9), .none⟩, ⟨(.some 11), .call 209 [(.r 10)], .none⟩, ⟨(.some 12), .mv (.r 1), .none⟩, ⟨(.some 13), .call 208 [(.r 7), (.c (.i (.ofNat (nat_lit 0)))), (.r 8), (.r 11), (.r 12)], .none⟩])), 14, []⟩
theorem AxZok182 : cfOf AxZ 182 = some AxZc182 := by kernel_rfl
/- conch/auto.order$1 -/
noncomputable def AxZc183 : CF := ⟨(.seq (.reg [⟨(.some 2), .box 259 (.r 0), .none⟩, ⟨(.some 3), .box 259 (.r 1), .none⟩, ⟨(.some 4), .mv (.c (.i (.ofNat (nat_lit 0)))), .none⟩])
 (.seq (.seq (.reg [⟨(.some 5), .fadr 0 (.r 2), .none⟩, ⟨(.some 6), .ld (.r 5), .none⟩, ⟨(.some 7), .fadr 0 (.r 3), .none⟩, ⟨(.some 8), .ld (.r 7), .none⟩, ⟨(.some 9), .bin .neq (.r 6) (.r 8), .none⟩])
 (.cond (.r 9) (.seq (.reg [⟨(.some 10), .fadr 0 (.r 2), .none⟩, ⟨(.some 11), .ld (.r 10), .none⟩, ⟨(.some 12), .fadr 0 (.r 3), .none⟩, ⟨(.some 13), .ld (.r 12), .none⟩, ⟨(.some 14), .bin .sub (.r 11) (.r 13), .none⟩, ⟨(.some 4), .mv (.r 14), .none⟩])
 .ret) .skip))
 (.seq (.reg [⟨(.some 15), .fadr 1 (.r 2), .none⟩, ⟨(.some 16), .ld (.r 15), .none⟩, ⟨(.some 17), .fadr 1 (.r 3), .none⟩, ⟨(.some 18), .ld (.r 17), .none⟩, ⟨(.some 19), .bin .sub (.r 16) (.r 18), .none⟩, ⟨(.some 4), .mv (.r 19), .none⟩])
 .ret))), 20, [.tmp 4]⟩
theorem AxZok183 : cfOf AxZ 183 = some AxZc183 := by kernel_rfl
/- slices.Compact[[]conch/api.Item,conch/api.Item] -/
noncomputable def AxZc184 : CF := ⟨(.seq (.reg [⟨(.some 2), .mv (.c .nils), .none⟩])
 (.seq (.seq (.reg [⟨(.some 6), .mv (.r 0), .none⟩, ⟨(.some 7), .lenSl (.r 6), .none⟩, ⟨(.some 8), .bin .lss (.r 7) (.c (.i (.ofNat (nat_lit 2)))), .none⟩])
 (.cond (.r 8) (.seq (.reg [⟨(.some 9), .mv (.r 0), .none⟩, ⟨(.some 2), .mv (.r 9), .none⟩])
 .ret) .skip))
 (.seq (.seq (.reg [⟨(.some 3), .mv (.c (.i (.ofNat (nat_lit 1)))), .none⟩])
 (.block 0 (.loop (.seq (.seq (.reg [⟨(.some 10), .mv (.r 3), .none⟩, ⟨(.some 11), .mv (.r 0), .none⟩, ⟨(.some 12), .lenSl (.r 11), .none⟩, ⟨(.some 13), .bin .lss (.r 10) (.r 12), .none⟩])
 (.cond (.r 13) .skip (.exit 0)))
 (.seq (.block 1 (.seq (.dreg [(⟨(.some 16), .mv (.r 0), .none⟩, false), (⟨(.some 17), .mv (.r 3), .none⟩, false), (⟨(.some 18), .ixSl 2 (.r 16) (.r 17), .none⟩, false), (⟨(.some 19), .lda 2 (.r 18), .none⟩, false), (⟨(.some 20), .mv (.r 0), .none⟩, false), (⟨(.some 21), .mv (.r 3), .none⟩, false), (⟨(.some 22), .bin .sub (.r 21) (.c (.i (.ofNat (nat_lit 1)))), .none⟩, false), (⟨(.some 23), .ixSl 2 (.r 20) (.r 22), .none⟩, false), (⟨(.some 24), .lda 2 (.r 23), .none⟩, false), (⟨(.some 25), .eq (.flat [.int, .int]) false (.r 19) (.r 24), .none⟩, false)] [])
 (.cond (.r 25) (.seq (.reg [⟨(.some 26), .mv (.r 0), .none⟩, ⟨(.some 27), .mv (.r 3), .none⟩, ⟨(.some 28), .slSl 2 (.r 26) (.some (.r 27)) .none .none, .none⟩, ⟨(.some 4), .mv (.r 28), .none⟩])
 (.seq (.seq (.reg [⟨(.some 5), .mv (.c (.i (.ofNat (nat_lit 1)))), .none⟩])
 (.block 2 (.loop (.seq (.seq (.reg [⟨(.some 29), .mv (.r 5), .none⟩, ⟨(.some 30), .mv (.r 4), .none⟩, ⟨(.some 31), .lenSl (.r 30), .none⟩, ⟨(.some 32), .bin .lss (.r 29) (.r 31), .none⟩])
 (.cond (.r 32) .skip (.exit 2)))
 (.seq (.block 3 (.seq (.dreg [(⟨(.some 35), .mv (.r 4), .none⟩, false), (⟨(.some 36), .mv (.r 5), .none⟩, false), (⟨(.some 37), .ixSl 2 (.r 35) (.r 36), .none⟩, false), (⟨(.some 38), .lda 2 (.r 37), .none⟩, false), (⟨(.some 39), .mv (.r 4), .none⟩, false), (⟨(.some 40), .mv (.r 5), .none⟩, false), (⟨(.some 41), .bin .sub (.r 40) (.c (.i (.ofNat (nat_lit 1)))), .none⟩, false), (⟨(.some 42), .ixSl 2 (.r 39) (.r 41), .none⟩, false), (⟨(.some 43), .lda 2 (.r 42), .none⟩, false), (⟨(.some 44), .eq (.flat [.int, .int]) true (.r 38) (.r 43), .none⟩, false)] [])
 (.cond (.r 44) (.seq (.reg [⟨(.some 45), .mv (.r 0), .none⟩, ⟨(.some 46), .mv (.r 3), .none⟩, ⟨(.some 47), .mv (.r 4), .none⟩, ⟨(.some 48), .mv (.r 5), .none⟩, ⟨(.some 49), .ixSl 2 (.r 47) (.r 48), .none⟩, ⟨(.some 50), .lda 2 (.r 49), .none⟩, ⟨(.some 51), .ixSl 2 (.r 45) (.r 46), .none⟩, ⟨.none, .st 2 (.r 51) (.r 50), .none⟩])
 (.reg [⟨(.some 52), .mv (.r 3), .none⟩, ⟨(.some 53), .bin .add (.r 52) (.c (.i (.ofNat (nat_lit 1)))), .none⟩, ⟨(.some 3), .mv (.r 53), .none⟩])) .skip)))
 (.reg [⟨(.some 33), .mv (.r 5), .none⟩, ⟨(.some 34), .bin .add (.r 33) (.c (.i (.ofNat (nat_lit 1)))), .none⟩, ⟨(.some 5), .mv (.r 34), .none⟩]))))))
 (.seq (.reg [⟨(.some 54), .mv (.r 0), .none⟩, ⟨(.some 55), .mv (.r 3), .none⟩, ⟨(.some 56), .slSl 2 (.r 54) (.some (.r 55)) .none .none, .none⟩, ⟨.none, .clear 2 [(.i (.ofNat (nat_lit 0))), (.i (.ofNat (nat_lit 0)))] (.r 56), .none⟩])
 (.seq (.reg [⟨(.some 57), .mv (.r 0), .none⟩, ⟨(.some 58), .mv (.r 3), .none⟩, ⟨(.some 59), .slSl 2 (.r 57) .none (.some (.r 58)) .none, .none⟩, ⟨(.some 2), .mv (.r 59), .none⟩])
 .ret)))) .skip)))
 (.reg [⟨(.some 14), .mv (.r 3), .none⟩, ⟨(.some 15), .bin .add (.r 14) (.c (.i (.ofNat (nat_lit 1)))), .none⟩, ⟨(.some 3), .mv (.r 15), .none⟩]))))))
 (.seq (.reg [⟨(.some 60), .mv (.r 0), .none⟩, ⟨(.some 2), .mv (.r 60), .none⟩])
 .ret)))), 61, [.tmp 2]⟩
theorem AxZok184 : cfOf AxZ 184 = some AxZc184 := by kernel_rfl
/- cmp.isNaN[int] -/
noncomputable def AxZc185 : CF := ⟨(.seq (.reg [⟨(.some 2), .mv (.c (.b false)), .none⟩])
 (.seq (.reg [⟨(.some 3), .mv (.r 0), .none⟩, ⟨(.some 4), .mv (.r 0), .none⟩, ⟨(.some 5), .bin .neq (.r 3) (.r 4), .none⟩, ⟨(.some 2), .mv (.r 5), .none⟩])
 .ret)), 6, [.tmp 2]⟩
theorem AxZok185 : cfOf AxZ 185 = some AxZc185 := by kernel_rfl
/- slices.IndexFunc[[]string,string] -/
noncomputable def AxZc186 : CF := ⟨(.seq (.reg [⟨(.some 4), .mv (.c (.i (.ofNat (nat_lit 0)))), .none⟩])
 (.seq (.seq (.reg [⟨(.some 6), .mv (.r 0), .none⟩, ⟨(.some 7), .lenSl (.r 6), .none⟩, ⟨(.some 8), .mv (.c (.i (.ofNat (nat_lit 0)))), .none⟩])
 (.block 0 (.loop (.seq (.reg [⟨(.some 9), .bin .lss (.r 8) (.r 7), .none⟩])
 (.seq (.cond (.r 9) .skip (.exit 0))
 (.seq (.block 1 (.seq (.reg [⟨(.some 10), .mv (.r 8), .none⟩, ⟨(.some 5), .mv (.r 10), .none⟩])
 (.seq (.reg [⟨(.some 11), .mv (.r 1), .none⟩, ⟨(.some 12), .mv (.r 0), .none⟩, ⟨(.some 13), .mv (.r 5), .none⟩, ⟨(.some 14), .ixSl 1 (.r 12) (.r 13), .none⟩, ⟨(.some 15), .ld (.r 14), .none⟩, ⟨(.some 16), .callv (.r 11) [(.r 15)], .none⟩])
 (.cond (.r 16) (.seq (.reg [⟨(.some 17), .mv (.r 5), .none⟩, ⟨(.some 4), .mv (.r 17), .none⟩])
 .ret) .skip))))
 (.reg [⟨(.some 18), .bin .add (.r 8) (.c (.i (.ofNat (nat_lit 1)))), .none⟩, ⟨(.some 8), .mv (.r 18), .none⟩])))))))
 (.seq (.reg [⟨(.some 4), .mv (.c (.i (.negSucc (nat_lit 0)))), .none⟩])
 .ret))), 19, [.tmp 4]⟩
theorem AxZok186 : cfOf AxZ 186 = some AxZc186 := by kernel_rfl
/- conch/char.ascii -/
noncomputable def AxZc187 : CF := ⟨(.seq (.reg [⟨(.some 2), .mv (.c (.b false)), .none⟩])
 (.seq (.seq (.reg [⟨(.some 4), .mv (.r 0), .none⟩, ⟨(.some 5), .lenStr (.r 4), .none⟩, ⟨(.some 6), .mv (.c (.i (.ofNat (nat_lit 0)))), .none⟩])
 (.block 0 (.loop (.seq (.reg [⟨(.some 7), .bin .lss (.r 6) (.r 5), .none⟩])
 (.seq (.cond (.r 7) .skip (.exit 0))
 (.seq (.block 1 (.seq (.reg [⟨(.some 8), .mv (.r 6), .none⟩, ⟨(.some 3), .mv (.r 8), .none⟩])
 (.seq (.reg [⟨(.some 9), .mv (.r 0), .none⟩, ⟨(.some 10), .mv (.r 3), .none⟩, ⟨(.some 11), .idxStr (.r 9) (.r 10), .none⟩, ⟨(.some 12), .bin .geq (.r 11) (.c (.u .u8 (.ofNat (nat_lit 128)))), .none⟩])
 (.cond (.r 12) (.seq (.reg [⟨(.some 2), .mv (.c (.b false)), .none⟩])
 .ret) .skip))))
 (.reg [⟨(.some 13), .bin .add (.r 6) (.c (.i (.ofNat (nat_lit 1)))), .none⟩, ⟨(.some 6), .mv (.r 13), .none⟩])))))))
 (.seq (.reg [⟨(.some 2), .mv (.c (.b true)), .none⟩])
 .ret))), 14, [.tmp 2]⟩
theorem AxZok187 : cfOf AxZ 187 = some AxZc187 := by kernel_rfl
/- conch/char.each -/
noncomputable def AxZc188 : CF := ⟨(.seq (.reg [⟨(.some 4), .mv (.c (.b false)), .none⟩])
 (.seq (.seq (.reg [⟨(.some 6), .mv (.r 0), .none⟩, ⟨(.some 7), .rng (.r 6), .none⟩])
 (.block 0 (.loop (.seq (.reg [⟨(.some 8), .nxt (.r 7), .none⟩, ⟨(.some 9), .ext (.r 8) 0, .none⟩])
 (.seq (.cond (.r 9) .skip (.exit 0))
 (.block 1 (.seq (.reg [⟨(.some 10), .ext (.r 8) 1, .none⟩, ⟨(.some 5), .mv (.r 10), .none⟩])
 (.seq (.reg [⟨(.some 11), .mv (.r 1), .none⟩, ⟨(.some 12), .mv (.r 5), .none⟩, ⟨(.some 13), .mv (.r 0), .none⟩, ⟨(.some 14), .mv (.r 5), .none⟩, ⟨(.some 15), .idxStr (.r 13) (.r 14), .none⟩, ⟨(.some 16), .callv (.r 11) [(.r 12), (.r 15)], .none⟩, ⟨(.some 17), .un .not (.r 16), .none⟩])
 (.cond (.r 17) (.seq (.reg [⟨(.some 4), .mv (.c (.b false)), .none⟩])
 .ret) .skip)))))))))
 (.seq (.reg [⟨(.some 18), .mv (.r 0), .none⟩, ⟨(.some 19), .bin .neq (.r 18) (.c (.s 0 (nat_lit 0))), .none⟩, ⟨(.some 4), .mv (.r 19), .none⟩])
 .ret))), 20, [.tmp 4]⟩
theorem AxZok188 : cfOf AxZ 188 = some AxZc188 := by kernel_rfl
/- conch/char.Name$1 -/
noncomputable def AxZc189 : CF := ⟨(.seq (.reg [⟨(.some 4), .mv (.c (.b false)), .none⟩])
 (.seq (.reg [⟨(.some 6), .mv (.r 1), .none⟩, ⟨(.some 7), .call 126 [(.r 6)], .none⟩, ⟨(.some 5), .mv (.r 7), .none⟩])
 (.seq (.reg [⟨(.some 8), .mv (.r 5), .none⟩, ⟨(.some 9), .bin .eql (.r 8) (.c (.i (.ofNat (nat_lit 4)))), .none⟩, ⟨(.some 10), .mv (.r 9), .none⟩, ⟨(.some 11), .mv (.r 5), (.some (10, false))⟩, ⟨(.some 12), .bin .eql (.r 11) (.c (.i (.ofNat (nat_lit 3)))), (.some (10, false))⟩, ⟨(.some 13), .mv (.r 12), (.some (10, false))⟩, ⟨(.some 14), .mv (.r 0), (.some (13, true))⟩, ⟨(.some 15), .bin .gtr (.r 14) (.c (.i (.ofNat (nat_lit 0)))), (.some (13, true))⟩, ⟨(.some 16), .pick (.r 13) (.r 15) (.c (.b false)), (.some (10, false))⟩, ⟨(.some 17), .pick (.r 10) (.c (.b true)) (.r 16), .none⟩, ⟨(.some 4), .mv (.r 17), .none⟩])
 .ret))), 18, [.tmp 4]⟩
theorem AxZok189 : cfOf AxZ 189 = some AxZc189 := by kernel_rfl
/- slices.Grow[[]string,string] -/
noncomputable def AxZc190 : CF := ⟨(.seq (.reg [⟨(.some 4), .mv (.c .nils), .none⟩])
 (.seq (.seq (.reg [⟨(.some 5), .mv (.r 1), .none⟩, ⟨(.some 6), .bin .lss (.r 5) (.c (.i (.ofNat (nat_lit 0)))), .none⟩])
 (.cond (.r 6) (.reg [⟨(.some 7), .mkIf 9 (.c (.s 18 (nat_lit 8838634371626034279618351153450530198413667))), .none⟩, ⟨.none, .bad, .none⟩]) .skip))
 (.seq (.seq (.reg [⟨(.some 8), .mv (.r 1), .none⟩, ⟨(.some 9), .mv (.r 0), .none⟩, ⟨(.some 10), .cap (.r 9), .none⟩, ⟨(.some 11), .mv (.r 0), .none⟩, ⟨(.some 12), .lenSl (.r 11), .none⟩, ⟨(.some 13), .bin .sub (.r 10) (.r 12), .none⟩, ⟨(.some 14), .bin .sub (.r 8) (.r 13), .none⟩, ⟨(.some 1), .mv (.r 14), .none⟩])
 (.seq (.reg [⟨(.some 15), .mv (.r 1), .none⟩, ⟨(.some 16), .bin .gtr (.r 15) (.c (.i (.ofNat (nat_lit 0)))), .none⟩])
 (.cond (.r 16) (.reg [⟨(.some 17), .mv (.r 0), .none⟩, ⟨(.some 18), .mv (.r 0), .none⟩, ⟨(.some 19), .cap (.r 18), .none⟩, ⟨(.some 20), .slSl 1 (.r 17) .none (.some (.r 19)) .none, .none⟩, ⟨(.some 21), .mv (.r 1), .none⟩, ⟨(.some 22), .appZ 9 1 [(.s 0 (nat_lit 0))] (.r 20) (.r 21), .none⟩, ⟨(.some 23), .mv (.r 0), .none⟩, ⟨(.some 24), .lenSl (.r 23), .none⟩, ⟨(.some 25), .slSl 1 (.r 22) .none (.some (.r 24)) .none, .none⟩, ⟨(.some 0), .mv (.r 25), .none⟩]) .skip)))
 (.seq (.reg [⟨(.some 26), .mv (.r 0), .none⟩, ⟨(.some 4), .mv (.r 26), .none⟩])
 .ret)))), 27, [.tmp 4]⟩
theorem AxZok190 : cfOf AxZ 190 = some AxZc190 := by kernel_rfl
/- slices.ContainsFunc[[]int,int] -/
noncomputable def AxZc191 : CF := ⟨(.seq (.reg [⟨(.some 4), .mv (.c (.b false)), .none⟩])
 (.seq (.reg [⟨(.some 5), .mv (.r 0), .none⟩, ⟨(.some 6), .mv (.r 1), .none⟩, ⟨(.some 7), .call 210 [(.r 5), (.r 6)], .none⟩, ⟨(.some 8), .bin .geq (.r 7) (.c (.i (.ofNat (nat_lit 0)))), .none⟩, ⟨(.some 4), .mv (.r 8), .none⟩])
 .ret)), 9, [.tmp 4]⟩
theorem AxZok191 : cfOf AxZ 191 = some AxZc191 := by kernel_rfl
/- conch/gram.all[int]$1 -/
noncomputable def AxZc192 : CF := ⟨(.seq (.reg [⟨(.some 3), .mv (.c (.b false)), .none⟩])
 (.seq (.reg [⟨(.some 4), .ld (.r 1), .none⟩, ⟨(.some 5), .mv (.r 0), .none⟩, ⟨(.some 6), .callv (.r 4) [(.r 5)], .none⟩, ⟨(.some 7), .un .not (.r 6), .none⟩, ⟨(.some 3), .mv (.r 7), .none⟩])
 .ret)), 8, [.tmp 3]⟩
theorem AxZok192 : cfOf AxZ 192 = some AxZc192 := by kernel_rfl
/- internal/stringslite.IndexByte -/
noncomputable def AxZc193 : CF := ⟨(.seq (.reg [⟨(.some 4), .mv (.c (.i (.ofNat (nat_lit 0)))), .none⟩])
 (.seq (.reg [⟨(.some 5), .mv (.r 0), .none⟩, ⟨(.some 6), .mv (.r 1), .none⟩, ⟨(.some 7), .ixByte (.r 5) (.r 6), .none⟩, ⟨(.some 4), .mv (.r 7), .none⟩])
 .ret)), 8, [.tmp 4]⟩
theorem AxZok193 : cfOf AxZ 193 = some AxZc193 := by kernel_rfl
/- internal/stringslite.HasPrefix -/
noncomputable def AxZc194 : CF := ⟨(.seq (.reg [⟨(.some 4), .mv (.c (.b false)), .none⟩])
 (.seq (.reg [⟨(.some 5), .mv (.r 0), .none⟩, ⟨(.some 6), .lenStr (.r 5), .none⟩, ⟨(.some 7), .mv (.r 1), .none⟩, ⟨(.some 8), .lenStr (.r 7), .none⟩, ⟨(.some 9), .bin .geq (.r 6) (.r 8), .none⟩, ⟨(.some 10), .mv (.r 9), .none⟩, ⟨(.some 11), .mv (.r 0), (.some (10, true))⟩, ⟨(.some 12), .mv (.r 1), (.some (10, true))⟩, ⟨(.some 13), .lenStr (.r 12), (.some (10, true))⟩, ⟨(.some 14), .slStr (.r 11) .none (.some (.r 13)), (.some (10, true))⟩, ⟨(.some 15), .mv (.r 1), (.some (10, true))⟩, ⟨(.some 16), .bin .eql (.r 14) (.r 15), (.some (10, true))⟩, ⟨(.some 17), .pick (.r 10) (.r 16) (.c (.b false)), .none⟩, ⟨(.some 4), .mv (.r 17), .none⟩])
 .ret)), 18, [.tmp 4]⟩
theorem AxZok194 : cfOf AxZ 194 = some AxZc194 := by kernel_rfl
/- internal/stringslite.Index -/
noncomputable def AxZc195 : CF := ⟨(.seq (.reg [⟨(.some 4), .mv (.c (.i (.ofNat (nat_lit 0)))), .none⟩])
 (.seq (.reg [⟨(.some 14), .mv (.r 1), .none⟩, ⟨(.some 15), .lenStr (.r 14), .none⟩, ⟨(.some 5), .mv (.r 15), .none⟩])
 (.seq (.block 0 (.seq (.reg [⟨(.some 17), .mv (.r 5), .none⟩, ⟨(.some 18), .bin .eql (.r 17) (.c (.i (.ofNat (nat_lit 0)))), .none⟩, ⟨(.some 19), .mv (.r 18), .none⟩, ⟨(.some 20), .mv (.r 1), (.some (19, false))⟩, ⟨(.some 21), .mv (.r 0), (.some (19, false))⟩, ⟨(.some 22), .bin .eql (.r 20) (.r 21), (.some (19, false))⟩, ⟨(.some 23), .pick (.r 19) (.c (.b true)) (.r 22), .none⟩, ⟨(.some 16), .mv (.r 23), .none⟩])
 (.cond (.r 16) (.seq (.reg [⟨(.some 4), .mv (.c (.i (.ofNat (nat_lit 0)))), .none⟩])
 .ret) (.seq (.reg [⟨(.some 25), .mv (.r 5), .none⟩, ⟨(.some 26), .bin .eql (.r 25) (.c (.i (.ofNat (nat_lit 1)))), .none⟩, ⟨(.some 24), .mv (.r 26), .none⟩])
 (.cond (.r 24) (.seq (.reg [⟨(.some 27), .mv (.r 0), .none⟩, ⟨(.some 28), .mv (.r 1), .none⟩, ⟨(.some 29), .idxStr (.r 28) (.c (.i (.ofNat (nat_lit 0)))), .none⟩, ⟨(.some 30), .call 193 [(.r 27), (.r 29)], .none⟩, ⟨(.some 4), .mv (.r 30), .none⟩])
 .ret) (.seq (.reg [⟨(.some 32), .mv (.r 5), .none⟩, ⟨(.some 33), .mv (.r 0), .none⟩, ⟨(.some 34), .lenStr (.r 33), .none⟩, ⟨(.some 35), .bin .geq (.r 32) (.r 34), .none⟩, ⟨(.some 31), .mv (.r 35), .none⟩])
 (.cond (.r 31) (.seq (.reg [⟨(.some 4), .mv (.c (.i (.negSucc (nat_lit 0)))), .none⟩])
 .ret) (.seq (.reg [⟨(.some 37), .mv (.r 5), .none⟩, ⟨(.some 38), .bad, .none⟩, ⟨(.some 39), .bin .leq (.r 37) (.r 38), .none⟩, ⟨(.some 40), .mv (.r 39), .none⟩, ⟨(.some 41), .mv (.r 0), (.some (40, true))⟩, ⟨(.some 42), .lenStr (.r 41), (.some (40, true))⟩, ⟨(.some 43), .bin .leq (.r 42) (.c (.i (.ofNat (nat_lit 64)))), (.some (40, true))⟩, ⟨(.some 44), .pick (.r 40) (.r 43) (.c (.b false)), .none⟩, ⟨(.some 36), .mv (.r 44), .none⟩])
 (.cond (.r 36) (.seq (.reg [⟨(.some 45), .mv (.r 0), .none⟩, ⟨(.some 46), .mv (.r 1), .none⟩, ⟨(.some 47), .bad, .none⟩, ⟨(.some 4), .mv (.r 47), .none⟩])
 .ret) .skip)))))))))
 (.seq (.reg [⟨(.some 48), .mv (.r 1), .none⟩, ⟨(.some 49), .idxStr (.r 48) (.c (.i (.ofNat (nat_lit 0)))), .none⟩, ⟨(.some 6), .mv (.r 49), .none⟩])
 (.seq (.reg [⟨(.some 50), .mv (.r 1), .none⟩, ⟨(.some 51), .idxStr (.r 50) (.c (.i (.ofNat (nat_lit 1)))), .none⟩, ⟨(.some 7), .mv (.r 51), .none⟩])
 (.seq (.reg [⟨(.some 8), .mv (.c (.i (.ofNat (nat_lit 0)))), .none⟩])
 (.seq (.reg [⟨(.some 52), .mv (.r 0), .none⟩, ⟨(.some 53), .lenStr (.r 52), .none⟩, ⟨(.some 54), .mv (.r 5), .none⟩, ⟨(.some 55), .bin .sub (.r 53) (.r 54), .none⟩, ⟨(.some 56), .bin .add (.r 55) (.c (.i (.ofNat (nat_lit 1)))), .none⟩, ⟨(.some 9), .mv (.r 56), .none⟩])
 (.seq (.reg [⟨(.some 10), .mv (.c (.i (.ofNat (nat_lit 0)))), .none⟩])
 (.seq (.block 1 (.loop (.seq (.seq (.reg [⟨(.some 57), .mv (.r 8), .none⟩, ⟨(.some 58), .mv (.r 9), .none⟩, ⟨(.some 59), .bin .lss (.r 57) (.r 58), .none⟩])
 (.cond (.r 59) .skip (.exit 1)))
 (.block 2 (.seq (.seq (.reg [⟨(.some 60), .mv (.r 0), .none⟩, ⟨(.some 61), .mv (.r 8), .none⟩, ⟨(.some 62), .idxStr (.r 60) (.r 61), .none⟩, ⟨(.some 63), .mv (.r 6), .none⟩, ⟨(.some 64), .bin .neq (.r 62) (.r 63), .none⟩])
 (.cond (.r 64) (.seq (.reg [⟨(.some 65), .mv (.r 0), .none⟩, ⟨(.some 66), .mv (.r 8), .none⟩, ⟨(.some 67), .bin .add (.r 66) (.c (.i (.ofNat (nat_lit 1)))), .none⟩, ⟨(.some 68), .mv (.r 9), .none⟩, ⟨(.some 69), .slStr (.r 65) (.some (.r 67)) (.some (.r 68)), .none⟩, ⟨(.some 70), .mv (.r 6), .none⟩, ⟨(.some 71), .call 193 [(.r 69), (.r 70)], .none⟩, ⟨(.some 11), .mv (.r 71), .none⟩])
 (.seq (.seq (.reg [⟨(.some 72), .mv (.r 11), .none⟩, ⟨(.some 73), .bin .lss (.r 72) (.c (.i (.ofNat (nat_lit 0)))), .none⟩])
 (.cond (.r 73) (.seq (.reg [⟨(.some 4), .mv (.c (.i (.negSucc (nat_lit 0)))), .none⟩])
 .ret) .skip))
 (.reg [⟨(.some 74), .mv (.r 8), .none⟩, ⟨(.some 75), .mv (.r 11), .none⟩, ⟨(.some 76), .bin .add (.r 75) (.c (.i (.ofNat (nat_lit 1)))), .none⟩, ⟨(.some 77), .bin .add (.r 74) (.r 76), .none⟩, ⟨(.some 8), .mv (.r 77), .none⟩]))) .skip))
 (.seq (.seq (.reg [⟨(.some 78), .mv (.r 0), .none⟩, ⟨(.some 79), .mv (.r 8), .none⟩, ⟨(.some 80), .bin .add (.r 79) (.c (.i (.ofNat (nat_lit 1)))), .none⟩, ⟨(.some 81), .idxStr (.r 78) (.r 80), .none⟩, ⟨(.some 82), .mv (.r 7), .none⟩, ⟨(.some 83), .bin .eql (.r 81) (.r 82), .none⟩, ⟨(.some 84), .mv (.r 83), .none⟩, ⟨(.some 85), .mv (.r 0), (.some (84, true))⟩, ⟨(.some 86), .mv (.r 8), (.some (84, true))⟩, ⟨(.some 87), .mv (.r 8), (.some (84, true))⟩, ⟨(.some 88), .mv (.r 5), (.some (84, true))⟩, ⟨(.some 89), .bin .add (.r 87) (.r 88), (.some (84, true))⟩, ⟨(.some 90), .slStr (.r 85) (.some (.r 86)) (.some (.r 89)), (.some (84, true))⟩, ⟨(.some 91), .mv (.r 1), (.some (84, true))⟩, ⟨(.some 92), .bin .eql (.r 90) (.r 91), (.some (84, true))⟩, ⟨(.some 93), .pick (.r 84) (.r 92) (.c (.b false)), .none⟩])
 (.cond (.r 93) (.seq (.reg [⟨(.some 94), .mv (.r 8), .none⟩, ⟨(.some 4), .mv (.r 94), .none⟩])
 .ret) .skip))
 (.seq (.reg [⟨(.some 95), .mv (.r 8), .none⟩, ⟨(.some 96), .bin .add (.r 95) (.c (.i (.ofNat (nat_lit 1)))), .none⟩, ⟨(.some 8), .mv (.r 96), .none⟩])
 (.seq (.reg [⟨(.some 97), .mv (.r 10), .none⟩, ⟨(.some 98), .bin .add (.r 97) (.c (.i (.ofNat (nat_lit 1)))), .none⟩, ⟨(.some 10), .mv (.r 98), .none⟩])
 (.seq (.reg [⟨(.some 99), .mv (.r 5), .none⟩, ⟨(.some 100), .bad, .none⟩, ⟨(.some 101), .bin .leq (.r 99) (.r 100), .none⟩, ⟨(.some 102), .mv (.r 101), .none⟩, ⟨(.some 103), .mv (.r 10), (.some (102, true))⟩, ⟨(.some 104), .mv (.r 8), (.some (102, true))⟩, ⟨(.some 105), .call 213 [(.r 104)], (.some (102, true))⟩, ⟨(.some 106), .bin .gtr (.r 103) (.r 105), (.some (102, true))⟩, ⟨(.some 107), .pick (.r 102) (.r 106) (.c (.b false)), .none⟩])
 (.cond (.r 107) (.seq (.reg [⟨(.some 108), .mv (.r 0), .none⟩, ⟨(.some 109), .mv (.r 8), .none⟩, ⟨(.some 110), .slStr (.r 108) (.some (.r 109)) .none, .none⟩, ⟨(.some 111), .mv (.r 1), .none⟩, ⟨(.some 112), .bad, .none⟩, ⟨(.some 12), .mv (.r 112), .none⟩])
 (.seq (.seq (.reg [⟨(.some 113), .mv (.r 12), .none⟩, ⟨(.some 114), .bin .geq (.r 113) (.c (.i (.ofNat (nat_lit 0)))), .none⟩])
 (.cond (.r 114) (.seq (.reg [⟨(.some 115), .mv (.r 12), .none⟩, ⟨(.some 116), .mv (.r 8), .none⟩, ⟨(.some 117), .bin .add (.r 115) (.r 116), .none⟩, ⟨(.some 4), .mv (.r 117), .none⟩])
 .ret) .skip))
 (.seq (.reg [⟨(.some 4), .mv (.c (.i (.negSucc (nat_lit 0)))), .none⟩])
 .ret))) (.seq (.reg [⟨(.some 118), .mv (.r 5), .none⟩, ⟨(.some 119), .bad, .none⟩, ⟨(.some 120), .bin .gtr (.r 118) (.r 119), .none⟩, ⟨(.some 121), .mv (.r 120), .none⟩, ⟨(.some 122), .mv (.r 10), (.some (121, true))⟩, ⟨(.some 123), .mv (.r 8), (.some (121, true))⟩, ⟨(.some 124), .bin .shr (.r 123) (.c (.u .u64 (.ofNat (nat_lit 4)))), (.some (121, true))⟩, ⟨(.some 125), .bin .add (.c (.i (.ofNat (nat_lit 4)))) (.r 124), (.some (121, true))⟩, ⟨(.some 126), .bin .geq (.r 122) (.r 125), (.some (121, true))⟩, ⟨(.some 127), .pick (.r 121) (.r 126) (.c (.b false)), .none⟩, ⟨(.some 128), .mv (.r 127), .none⟩, ⟨(.some 129), .mv (.r 8), (.some (128, true))⟩, ⟨(.some 130), .mv (.r 9), (.some (128, true))⟩, ⟨(.some 131), .bin .lss (.r 129) (.r 130), (.some (128, true))⟩, ⟨(.some 132), .pick (.r 128) (.r 131) (.c (.b false)), .none⟩])
 (.cond (.r 132) (.seq (.reg [⟨(.some 133), .mv (.r 0), .none⟩, ⟨(.some 134), .mv (.r 8), .none⟩, ⟨(.some 135), .slStr (.r 133) (.some (.r 134)) .none, .none⟩, ⟨(.some 136), .mv (.r 1), .none⟩, ⟨(.some 137), .call 214 [(.r 135), (.r 136)], .none⟩, ⟨(.some 13), .mv (.r 137), .none⟩])
 (.seq (.seq (.reg [⟨(.some 138), .mv (.r 13), .none⟩, ⟨(.some 139), .bin .lss (.r 138) (.c (.i (.ofNat (nat_lit 0)))), .none⟩])
 (.cond (.r 139) (.seq (.reg [⟨(.some 4), .mv (.c (.i (.negSucc (nat_lit 0)))), .none⟩])
 .ret) .skip))
 (.seq (.reg [⟨(.some 140), .mv (.r 8), .none⟩, ⟨(.some 141), .mv (.r 13), .none⟩, ⟨(.some 142), .bin .add (.r 140) (.r 141), .none⟩, ⟨(.some 4), .mv (.r 142), .none⟩])
 .ret))) .skip))))))))))))
 (.seq (.reg [⟨(.some 4), .mv (.c (.i (.negSucc (nat_lit 0)))), .none⟩])
 .ret)))))))))), 143, [.tmp 4]⟩
theorem AxZok195 : cfOf AxZ 195 = some AxZc195 := by kernel_rfl
end Ax
