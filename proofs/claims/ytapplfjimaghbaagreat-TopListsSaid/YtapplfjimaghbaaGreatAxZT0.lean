/- The functions of the seat, compiled, 1: each is what the compiler (AxComp, AxEvS3) makes of the program's. Printed by wip/tools/PrintSeat.lean. -/
import Derived.Test.YtapplfjimaghbaaGreatAxZ
set_option linter.all false
namespace Ax
open Go
set_option maxRecDepth 100000
/- conch/conchtop.TopLists -/
noncomputable def AxZc3 : CF := ⟨(.seq (.reg [⟨(.some 2), .mv (.c (.b false)), .none⟩])
 (.seq (.reg [⟨(.some 18), .mv (.r 0), .none⟩, ⟨(.some 19), .bin .rem (.r 18) (.c (.u .u8 (.ofNat (nat_lit 12)))), .none⟩, ⟨(.some 20), .cvInt .i64 (.r 19), .none⟩, ⟨(.some 21), .bin .add (.c (.i (.ofNat (nat_lit 1)))) (.r 20), .none⟩, ⟨(.some 3), .mv (.r 21), .none⟩])
 (.seq (.reg [⟨(.some 4), .mv (.c .nils), .none⟩])
 (.seq (.reg [⟨(.some 5), .mv (.c (.s 5 (nat_lit 177186303016))), .none⟩, ⟨(.some 6), .mv (.c (.s 5 (nat_lit 177186303016))), .none⟩])
 (.seq (.seq (.reg [⟨(.some 7), .mv (.c (.i (.ofNat (nat_lit 0)))), .none⟩])
 (.block 0 (.loop (.seq (.seq (.reg [⟨(.some 22), .mv (.r 7), .none⟩, ⟨(.some 23), .mv (.r 3), .none⟩, ⟨(.some 24), .bin .lss (.r 22) (.r 23), .none⟩])
 (.cond (.r 24) .skip (.exit 0)))
 (.seq (.block 1 (.seq (.seq (.reg [⟨(.some 27), .mv (.r 7), .none⟩, ⟨(.some 28), .bin .gtr (.r 27) (.c (.i (.ofNat (nat_lit 0)))), .none⟩])
 (.cond (.r 28) (.seq (.reg [⟨(.some 29), .mv (.r 4), .none⟩, ⟨(.some 30), .bslice 3 1 1 [(.i (.ofNat (nat_lit 0)))] [(0, 1, (.c (.i (.ofNat (nat_lit 2)))))], .none⟩, ⟨(.some 31), .app 3 1 (.r 29) (.r 30), .none⟩, ⟨(.some 4), .mv (.r 31), .none⟩])
 (.reg [⟨(.some 32), .mv (.r 5), .none⟩, ⟨(.some 33), .bin .add (.c (.s 3 (nat_lit 2124840))) (.r 32), .none⟩, ⟨(.some 34), .bin .add (.r 33) (.c (.s 5 (nat_lit 177186292512))), .none⟩, ⟨(.some 35), .mv (.r 6), .none⟩, ⟨(.some 36), .bin .add (.c (.s 7 (nat_lit 9081005065399336))) (.r 35), .none⟩, ⟨(.some 37), .bin .add (.r 36) (.c (.s 1 (nat_lit 41))), .none⟩, ⟨(.some 5), .mv (.r 34), .none⟩, ⟨(.some 6), .mv (.r 37), .none⟩])) .skip))
 (.reg [⟨(.some 38), .mv (.r 4), .none⟩, ⟨(.some 39), .bslice 3 1 1 [(.i (.ofNat (nat_lit 0)))] [(0, 1, (.c (.i (.ofNat (nat_lit 1)))))], .none⟩, ⟨(.some 40), .app 3 1 (.r 38) (.r 39), .none⟩, ⟨(.some 4), .mv (.r 40), .none⟩])))
 (.reg [⟨(.some 25), .mv (.r 7), .none⟩, ⟨(.some 26), .bin .add (.r 25) (.c (.i (.ofNat (nat_lit 1)))), .none⟩, ⟨(.some 7), .mv (.r 26), .none⟩]))))))
 (.seq (.seq (.reg [⟨(.some 41), .build [(.s 0 (nat_lit 0)), (.s 0 (nat_lit 0))] [(0, 1, (.c (.s 29 (nat_lit 1594033637987716274232324649738576018267724218133292288305202438566949)))), (1, 1, (.c (.s 29 (nat_lit 1594051327161703358615511738580981671728017316087916873927342567683109))))], .none⟩, ⟨(.some 42), .mv (.c (.i (.ofNat (nat_lit 0)))), .none⟩])
 (.block 2 (.loop (.seq (.reg [⟨(.some 43), .bin .lss (.r 42) (.c (.i (.ofNat (nat_lit 2)))), .none⟩])
 (.seq (.cond (.r 43) .skip (.exit 2))
 (.seq (.block 3 (.seq (.reg [⟨(.some 44), .mv (.r 42), .none⟩, ⟨(.some 45), .idxArr 2 1 false (.r 41) (.r 42), .none⟩, ⟨(.some 8), .mv (.r 44), .none⟩, ⟨(.some 9), .mv (.r 45), .none⟩])
 (.seq (.reg [⟨(.some 46), .mv (.r 9), .none⟩, ⟨(.some 47), .call 6 [(.r 46)], .none⟩, ⟨(.some 10), .mv (.r 47), .none⟩])
 (.seq (.seq (.reg [⟨(.some 49), .mv (.r 10), .none⟩, ⟨(.some 50), .mv (.r 4), .none⟩, ⟨(.some 51), .call 7 [(.r 49), (.r 50)], .none⟩, ⟨(.some 48), .mv (.r 51), .none⟩, ⟨(.some 52), .ext (.r 48) 0, .none⟩, ⟨(.some 53), .ext (.r 48) 1, .none⟩, ⟨(.some 11), .mv (.r 52), .none⟩, ⟨(.some 12), .mv (.r 53), .none⟩])
 (.seq (.reg [⟨(.some 54), .mv (.r 11), .none⟩, ⟨(.some 55), .mv (.r 5), .none⟩, ⟨(.some 56), .mv (.r 6), .none⟩, ⟨(.some 57), .build [(.s 0 (nat_lit 0)), (.s 0 (nat_lit 0))] [(0, 1, (.r 55)), (1, 1, (.r 56))], .none⟩, ⟨(.some 58), .mv (.r 8), .none⟩, ⟨(.some 59), .idxArr 2 1 false (.r 57) (.r 58), .none⟩, ⟨(.some 60), .bin .neq (.r 54) (.r 59), .none⟩, ⟨(.some 61), .mv (.r 60), .none⟩, ⟨(.some 62), .mv (.r 12), (.some (61, false))⟩, ⟨(.some 63), .bin .neq (.r 62) (.c (.i (.negSucc (nat_lit 0)))), (.some (61, false))⟩, ⟨(.some 64), .pick (.r 61) (.c (.b true)) (.r 63), .none⟩])
 (.cond (.r 64) (.seq (.reg [⟨(.some 2), .mv (.c (.b false)), .none⟩])
 .ret) .skip)))
 (.seq (.reg [⟨(.some 65), .mv (.r 10), .none⟩, ⟨(.some 66), .call 8 [(.r 65)], .none⟩, ⟨(.some 13), .mv (.r 66), .none⟩])
 (.seq (.seq (.reg [⟨(.some 67), .mv (.r 4), .none⟩, ⟨(.some 68), .lenSl (.r 67), .none⟩, ⟨(.some 69), .mv (.c (.i (.ofNat (nat_lit 0)))), .none⟩])
 (.block 4 (.loop (.seq (.reg [⟨(.some 70), .bin .lss (.r 69) (.r 68), .none⟩])
 (.seq (.cond (.r 70) .skip (.exit 4))
 (.seq (.block 5 (.seq (.reg [⟨(.some 71), .mv (.r 69), .none⟩, ⟨(.some 72), .ixSl 1 (.r 67) (.r 69), .none⟩, ⟨(.some 73), .ld (.r 72), .none⟩, ⟨(.some 14), .mv (.r 71), .none⟩, ⟨(.some 15), .mv (.r 73), .none⟩])
 (.seq (.reg [⟨(.some 74), .mv (.r 13), .none⟩, ⟨(.some 75), .mv (.r 15), .none⟩, ⟨(.some 76), .mv (.r 14), .none⟩, ⟨(.some 77), .call 9 [(.r 74), (.r 75), (.r 76)], .none⟩, ⟨(.some 78), .bin .neq (.r 77) (.c (.i (.ofNat (nat_lit 0)))), .none⟩])
 (.cond (.r 78) (.seq (.reg [⟨(.some 2), .mv (.c (.b false)), .none⟩])
 .ret) .skip))))
 (.reg [⟨(.some 79), .bin .add (.r 69) (.c (.i (.ofNat (nat_lit 1)))), .none⟩, ⟨(.some 69), .mv (.r 79), .none⟩])))))))
 (.seq (.seq (.dreg [(⟨(.some 80), .mv (.r 13), .none⟩, false), (⟨(.some 81), .call 10 [(.r 80)], .none⟩, true), (⟨(.some 82), .lenSl (.r 81), .none⟩, false), (⟨(.some 83), .mv (.r 3), .none⟩, false), (⟨(.some 84), .bin .mul (.c (.i (.ofNat (nat_lit 2)))) (.r 83), .none⟩, false), (⟨(.some 85), .min (.r 84) (.c (.i (.ofNat (nat_lit 4)))), .none⟩, false), (⟨(.some 86), .mv (.r 3), .none⟩, false), (⟨(.some 87), .bin .mul (.c (.i (.ofNat (nat_lit 2)))) (.r 86), .none⟩, false), (⟨(.some 88), .build [(.i (.ofNat (nat_lit 0))), (.i (.ofNat (nat_lit 0)))] [(0, 1, (.r 85)), (1, 1, (.r 87))], .none⟩, false), (⟨(.some 89), .mv (.r 8), .none⟩, false), (⟨(.some 90), .idxArr 2 1 false (.r 88) (.r 89), .none⟩, false), (⟨(.some 91), .bin .neq (.r 82) (.r 90), .none⟩, false)] [])
 (.cond (.r 91) (.seq (.reg [⟨(.some 2), .mv (.c (.b false)), .none⟩])
 .ret) .skip))
 (.seq (.reg [⟨(.some 93), .mv (.r 13), .none⟩, ⟨(.some 94), .call 11 [(.r 93)], .none⟩, ⟨(.some 92), .mv (.r 94), .none⟩, ⟨(.some 95), .ext (.r 92) 0, .none⟩, ⟨(.some 96), .ext (.r 92) 1, .none⟩, ⟨(.some 16), .mv (.r 95), .none⟩, ⟨(.some 17), .mv (.r 96), .none⟩])
 (.seq (.reg [⟨(.some 97), .mv (.r 17), .none⟩, ⟨(.some 98), .bin .neq (.r 97) (.c (.i (.ofNat (nat_lit 0)))), .none⟩, ⟨(.some 99), .mv (.r 98), .none⟩, ⟨(.some 100), .mv (.r 13), (.some (99, false))⟩, ⟨(.some 101), .call 12 [(.r 100)], (.some (99, false))⟩, ⟨(.some 102), .mv (.r 3), (.some (99, false))⟩, ⟨(.some 103), .bin .mul (.c (.i (.ofNat (nat_lit 3)))) (.r 102), (.some (99, false))⟩, ⟨(.some 104), .bin .sub (.r 103) (.c (.i (.ofNat (nat_lit 1)))), (.some (99, false))⟩, ⟨(.some 105), .bin .neq (.r 101) (.r 104), (.some (99, false))⟩, ⟨(.some 106), .pick (.r 99) (.c (.b true)) (.r 105), .none⟩])
 (.cond (.r 106) (.seq (.reg [⟨(.some 2), .mv (.c (.b false)), .none⟩])
 .ret) .skip))))))))))
 (.reg [⟨(.some 107), .bin .add (.r 42) (.c (.i (.ofNat (nat_lit 1)))), .none⟩, ⟨(.some 42), .mv (.r 107), .none⟩])))))))
 (.seq (.reg [⟨(.some 108), .call 13 [], .none⟩, ⟨(.some 2), .mv (.r 108), .none⟩])
 .ret))))))), 109, [.tmp 2]⟩
theorem AxZok3 : cfOf AxZ 3 = some AxZc3 := by kernel_rfl
/- conch/conchtop.TopSums -/
noncomputable def AxZc4 : CF := ⟨(.seq (.reg [⟨(.some 1), .box 39 (.r 0), .none⟩, ⟨(.some 2), .mv (.c (.b false)), .none⟩])
 (.seq (.reg [⟨(.some 8), .call 6 [(.c (.s 83 (nat_lit 17678796572823716448935284783243012592120819007468020290760414483495474889120905970149821017396609318572257715881516853799241598998400081389034159899673303572592815697373059249473373129626261396616229)))], .none⟩, ⟨(.some 3), .mv (.r 8), .none⟩])
 (.seq (.reg [⟨(.some 10), .call 14 [(.r 1), (.c (.i (.ofNat (nat_lit 4))))], .none⟩, ⟨(.some 11), .call 15 [(.r 10)], .none⟩, ⟨(.some 9), .mv (.r 11), .none⟩, ⟨(.some 12), .ext (.r 9) 0, .none⟩, ⟨(.some 13), .ext (.r 9) 1, .none⟩, ⟨(.some 4), .mv (.r 12), .none⟩, ⟨(.some 5), .mv (.r 13), .none⟩])
 (.seq (.reg [⟨(.some 15), .mv (.r 3), .none⟩, ⟨(.some 16), .mv (.r 4), .none⟩, ⟨(.some 17), .call 7 [(.r 15), (.r 16)], .none⟩, ⟨(.some 14), .mv (.r 17), .none⟩, ⟨(.some 18), .ext (.r 14) 0, .none⟩, ⟨(.some 19), .ext (.r 14) 1, .none⟩, ⟨(.some 6), .mv (.r 18), .none⟩, ⟨(.some 7), .mv (.r 19), .none⟩])
 (.seq (.seq (.reg [⟨(.some 20), .mv (.r 6), .none⟩, ⟨(.some 21), .mv (.r 5), .none⟩, ⟨(.some 22), .bin .neq (.r 20) (.r 21), .none⟩, ⟨(.some 23), .mv (.r 22), .none⟩, ⟨(.some 24), .mv (.r 7), (.some (23, false))⟩, ⟨(.some 25), .bin .neq (.r 24) (.c (.i (.negSucc (nat_lit 0)))), (.some (23, false))⟩, ⟨(.some 26), .pick (.r 23) (.c (.b true)) (.r 25), .none⟩, ⟨(.some 27), .mv (.r 26), .none⟩, ⟨(.some 28), .mv (.r 3), (.some (27, false))⟩, ⟨(.some 29), .mv (.r 4), (.some (27, false))⟩, ⟨(.some 30), .call 17 [(.r 28), (.r 29)], (.some (27, false))⟩, ⟨(.some 31), .bslice 3 1 3 [(.i (.ofNat (nat_lit 0)))] [(0, 1, (.c (.i (.ofNat (nat_lit 0))))), (1, 1, (.c (.i (.ofNat (nat_lit 2))))), (2, 1, (.c (.i (.ofNat (nat_lit 3)))))], (.some (27, false))⟩, ⟨(.some 32), .call 16 [(.r 30), (.r 31)], (.some (27, false))⟩, ⟨(.some 33), .un .not (.r 32), (.some (27, false))⟩, ⟨(.some 34), .pick (.r 27) (.c (.b true)) (.r 33), .none⟩])
 (.cond (.r 34) (.seq (.reg [⟨(.some 2), .mv (.c (.b false)), .none⟩])
 .ret) .skip))
 (.seq (.reg [⟨(.some 36), .mv (.r 3), .none⟩, ⟨(.some 37), .mv (.r 4), .none⟩, ⟨(.some 38), .call 18 [(.r 37)], .none⟩, ⟨(.some 39), .bslice 3 1 1 [(.i (.ofNat (nat_lit 0)))] [(0, 1, (.c (.i (.ofNat (nat_lit 1)))))], .none⟩, ⟨(.some 40), .app 3 1 (.r 38) (.r 39), .none⟩, ⟨(.some 41), .call 7 [(.r 36), (.r 40)], .none⟩, ⟨(.some 35), .mv (.r 41), .none⟩, ⟨(.some 42), .ext (.r 35) 0, .none⟩, ⟨(.some 43), .ext (.r 35) 1, .none⟩, ⟨(.some 6), .mv (.r 42), .none⟩, ⟨(.some 7), .mv (.r 43), .none⟩])
 (.seq (.seq (.reg [⟨(.some 44), .mv (.r 6), .none⟩, ⟨(.some 45), .bin .neq (.r 44) (.c (.s 0 (nat_lit 0))), .none⟩, ⟨(.some 46), .mv (.r 45), .none⟩, ⟨(.some 47), .mv (.r 7), (.some (46, false))⟩, ⟨(.some 48), .mv (.r 4), (.some (46, false))⟩, ⟨(.some 49), .lenSl (.r 48), (.some (46, false))⟩, ⟨(.some 50), .bin .neq (.r 47) (.r 49), (.some (46, false))⟩, ⟨(.some 51), .pick (.r 46) (.c (.b true)) (.r 50), .none⟩])
 (.cond (.r 51) (.seq (.reg [⟨(.some 2), .mv (.c (.b false)), .none⟩])
 .ret) .skip))
 (.seq (.reg [⟨(.some 52), .mv (.r 3), .none⟩, ⟨(.some 53), .mv (.r 4), .none⟩, ⟨(.some 54), .call 18 [(.r 53)], .none⟩, ⟨(.some 55), .bslice 3 1 1 [(.i (.ofNat (nat_lit 0)))] [(0, 1, (.c (.i (.ofNat (nat_lit 2)))))], .none⟩, ⟨(.some 56), .app 3 1 (.r 54) (.r 55), .none⟩, ⟨(.some 57), .call 19 [(.r 52), (.r 56)], .none⟩, ⟨(.some 58), .mv (.r 4), .none⟩, ⟨(.some 59), .lenSl (.r 58), .none⟩, ⟨(.some 60), .bin .add (.r 59) (.c (.i (.ofNat (nat_lit 1)))), .none⟩, ⟨(.some 61), .bin .eql (.r 57) (.r 60), .none⟩, ⟨(.some 62), .mv (.r 61), .none⟩, ⟨(.some 63), .call 13 [], (.some (62, true))⟩, ⟨(.some 64), .pick (.r 62) (.r 63) (.c (.b false)), .none⟩, ⟨(.some 2), .mv (.r 64), .none⟩])
 .ret)))))))), 65, [.tmp 2]⟩
theorem AxZok4 : cfOf AxZ 4 = some AxZc4 := by kernel_rfl
/- conch/conchtop.TopBrackets -/
noncomputable def AxZc5 : CF := ⟨(.seq (.reg [⟨(.some 2), .mv (.c (.b false)), .none⟩])
 (.seq (.reg [⟨(.some 24), .call 20 [(.c (.s 29 (nat_lit 1594057909481233622506058824503905350922939278143240931805966021653541)))], .none⟩, ⟨(.some 23), .mv (.r 24), .none⟩, ⟨(.some 25), .ext (.r 23) 0, .none⟩, ⟨(.some 26), .ext (.r 23) 1, .none⟩, ⟨(.some 3), .alloc 53 [.nils, .nils, .nils, (.i (.ofNat (nat_lit 0)))], .none⟩, ⟨.none, .st 4 (.r 3) (.r 25), .none⟩, ⟨(.some 4), .mv (.r 26), .none⟩])
 (.seq (.reg [⟨(.some 28), .lda 4 (.r 3), .none⟩, ⟨(.some 29), .call 21 [(.r 28)], .none⟩, ⟨(.some 27), .mv (.r 29), .none⟩, ⟨(.some 30), .ext (.r 27) 0, .none⟩, ⟨(.some 31), .ext (.r 27) 1, .none⟩, ⟨(.some 5), .mv (.r 30), .none⟩, ⟨(.some 6), .mv (.r 31), .none⟩])
 (.seq (.reg [⟨(.some 33), .lda 4 (.r 3), .none⟩, ⟨(.some 34), .call 22 [(.r 33)], .none⟩, ⟨(.some 32), .mv (.r 34), .none⟩, ⟨(.some 35), .ext (.r 32) 0, .none⟩, ⟨(.some 36), .ext (.r 32) 1, .none⟩, ⟨(.some 7), .mv (.r 35), .none⟩, ⟨(.some 8), .mv (.r 36), .none⟩])
 (.seq (.seq (.reg [⟨(.some 37), .mv (.r 4), .none⟩, ⟨(.some 38), .eq .iface true (.r 37) (.c .nili), .none⟩, ⟨(.some 39), .mv (.r 38), .none⟩, ⟨(.some 40), .mv (.r 6), (.some (39, false))⟩, ⟨(.some 41), .bin .neq (.r 40) (.c (.i (.ofNat (nat_lit 0)))), (.some (39, false))⟩, ⟨(.some 42), .pick (.r 39) (.c (.b true)) (.r 41), .none⟩, ⟨(.some 43), .mv (.r 42), .none⟩, ⟨(.some 44), .mv (.r 8), (.some (43, false))⟩, ⟨(.some 45), .bin .neq (.r 44) (.c (.i (.ofNat (nat_lit 0)))), (.some (43, false))⟩, ⟨(.some 46), .pick (.r 43) (.c (.b true)) (.r 45), .none⟩])
 (.cond (.r 46) (.seq (.reg [⟨(.some 2), .mv (.c (.b false)), .none⟩])
 .ret) .skip))
 (.seq (.reg [⟨(.some 47), .mv (.r 0), .none⟩, ⟨(.some 48), .mv (.r 0), .none⟩, ⟨(.some 49), .lenSl (.r 48), .none⟩, ⟨(.some 50), .min (.r 49) (.c (.i (.ofNat (nat_lit 20)))), .none⟩, ⟨(.some 51), .slSl 1 (.r 47) .none (.some (.r 50)) .none, .none⟩, ⟨(.some 0), .mv (.r 51), .none⟩])
 (.seq (.reg [⟨(.some 9), .mv (.c .nils), .none⟩])
 (.seq (.reg [⟨(.some 10), .mv (.c (.i (.ofNat (nat_lit 0)))), .none⟩, ⟨(.some 11), .mv (.c (.i (.negSucc (nat_lit 0)))), .none⟩])
 (.seq (.reg [⟨(.some 52), .mv (.r 5), .none⟩, ⟨(.some 53), .call 8 [(.r 52)], .none⟩, ⟨(.some 12), .mv (.r 53), .none⟩])
 (.seq (.seq (.reg [⟨(.some 54), .mv (.r 0), .none⟩, ⟨(.some 55), .lenSl (.r 54), .none⟩, ⟨(.some 56), .mv (.c (.i (.ofNat (nat_lit 0)))), .none⟩])
 (.block 0 (.loop (.seq (.reg [⟨(.some 57), .bin .lss (.r 56) (.r 55), .none⟩])
 (.seq (.cond (.r 57) .skip (.exit 0))
 (.seq (.block 1 (.seq (.reg [⟨(.some 58), .mv (.r 56), .none⟩, ⟨(.some 59), .ixSl 1 (.r 54) (.r 56), .none⟩, ⟨(.some 60), .ld (.r 59), .none⟩, ⟨(.some 13), .mv (.r 58), .none⟩, ⟨(.some 14), .mv (.r 60), .none⟩])
 (.seq (.reg [⟨(.some 61), .mv (.r 14), .none⟩, ⟨(.some 62), .bin .rem (.r 61) (.c (.u .u8 (.ofNat (nat_lit 2)))), .none⟩, ⟨(.some 63), .cvInt .i64 (.r 62), .none⟩, ⟨(.some 64), .bin .add (.c (.i (.ofNat (nat_lit 1)))) (.r 63), .none⟩, ⟨(.some 15), .mv (.r 64), .none⟩])
 (.seq (.reg [⟨(.some 65), .bslice 3 1 2 [(.i (.ofNat (nat_lit 0)))] [(0, 1, (.c (.i (.ofNat (nat_lit 0))))), (1, 1, (.c (.i (.ofNat (nat_lit 1)))))], .none⟩, ⟨(.some 16), .mv (.r 65), .none⟩])
 (.seq (.seq (.reg [⟨(.some 66), .mv (.r 10), .none⟩, ⟨(.some 67), .bin .gtr (.r 66) (.c (.i (.ofNat (nat_lit 0)))), .none⟩])
 (.cond (.r 67) (.reg [⟨(.some 68), .bslice 3 1 2 [(.i (.ofNat (nat_lit 0)))] [(0, 1, (.c (.i (.ofNat (nat_lit 1))))), (1, 1, (.c (.i (.ofNat (nat_lit 2)))))], .none⟩, ⟨(.some 16), .mv (.r 68), .none⟩]) .skip))
 (.seq (.seq (.reg [⟨(.some 69), .mv (.r 12), .none⟩, ⟨(.some 70), .call 23 [(.r 69)], .none⟩, ⟨(.some 71), .mv (.r 16), .none⟩, ⟨(.some 72), .call 16 [(.r 70), (.r 71)], .none⟩, ⟨(.some 73), .un .not (.r 72), .none⟩])
 (.cond (.r 73) (.seq (.reg [⟨(.some 2), .mv (.c (.b false)), .none⟩])
 .ret) .skip))
 (.seq (.reg [⟨(.some 74), .mv (.r 9), .none⟩, ⟨(.some 75), .mv (.r 15), .none⟩, ⟨(.some 76), .bslice 3 1 1 [(.i (.ofNat (nat_lit 0)))] [(0, 1, (.r 75))], .none⟩, ⟨(.some 77), .app 3 1 (.r 74) (.r 76), .none⟩, ⟨(.some 9), .mv (.r 77), .none⟩])
 (.seq (.seq (.reg [⟨(.some 78), .mv (.r 15), .none⟩, ⟨(.some 79), .bin .eql (.r 78) (.c (.i (.ofNat (nat_lit 2)))), .none⟩, ⟨(.some 80), .mv (.r 79), .none⟩, ⟨(.some 81), .mv (.r 10), (.some (80, true))⟩, ⟨(.some 82), .bin .eql (.r 81) (.c (.i (.ofNat (nat_lit 0)))), (.some (80, true))⟩, ⟨(.some 83), .pick (.r 80) (.r 82) (.c (.b false)), .none⟩])
 (.cond (.r 83) (.seq (.reg [⟨(.some 84), .mv (.r 13), .none⟩, ⟨(.some 11), .mv (.r 84), .none⟩])
 (.exit 0)) .skip))
 (.seq (.reg [⟨(.some 85), .mv (.r 10), .none⟩, ⟨(.some 86), .mv (.r 15), .none⟩, ⟨(.some 87), .bin .mul (.c (.i (.ofNat (nat_lit 2)))) (.r 86), .none⟩, ⟨(.some 88), .bin .sub (.c (.i (.ofNat (nat_lit 3)))) (.r 87), .none⟩, ⟨(.some 89), .bin .add (.r 85) (.r 88), .none⟩, ⟨(.some 10), .mv (.r 89), .none⟩])
 (.seq (.reg [⟨(.some 90), .mv (.r 12), .none⟩, ⟨(.some 91), .mv (.r 15), .none⟩, ⟨(.some 92), .mv (.r 13), .none⟩, ⟨(.some 93), .call 9 [(.r 90), (.r 91), (.r 92)], .none⟩, ⟨(.some 94), .bin .neq (.r 93) (.c (.i (.ofNat (nat_lit 0)))), .none⟩])
 (.cond (.r 94) (.seq (.reg [⟨(.some 2), .mv (.c (.b false)), .none⟩])
 .ret) .skip)))))))))))
 (.reg [⟨(.some 95), .bin .add (.r 56) (.c (.i (.ofNat (nat_lit 1)))), .none⟩, ⟨(.some 56), .mv (.r 95), .none⟩])))))))
 (.seq (.reg [⟨(.some 97), .mv (.r 5), .none⟩, ⟨(.some 98), .mv (.r 9), .none⟩, ⟨(.some 99), .call 7 [(.r 97), (.r 98)], .none⟩, ⟨(.some 96), .mv (.r 99), .none⟩, ⟨(.some 100), .ext (.r 96) 0, .none⟩, ⟨(.some 101), .ext (.r 96) 1, .none⟩, ⟨(.some 17), .mv (.r 100), .none⟩, ⟨(.some 18), .mv (.r 101), .none⟩])
 (.seq (.seq (.reg [⟨(.some 102), .mv (.r 11), .none⟩, ⟨(.some 103), .bin .geq (.r 102) (.c (.i (.ofNat (nat_lit 0)))), .none⟩])
 (.cond (.r 103) (.seq (.reg [⟨(.some 104), .mv (.r 17), .none⟩, ⟨(.some 105), .bin .eql (.r 104) (.c (.s 0 (nat_lit 0))), .none⟩, ⟨(.some 106), .mv (.r 105), .none⟩, ⟨(.some 107), .mv (.r 18), (.some (106, true))⟩, ⟨(.some 108), .mv (.r 11), (.some (106, true))⟩, ⟨(.some 109), .bin .eql (.r 107) (.r 108), (.some (106, true))⟩, ⟨(.some 110), .pick (.r 106) (.r 109) (.c (.b false)), .none⟩, ⟨(.some 111), .mv (.r 110), .none⟩, ⟨(.some 112), .mv (.r 12), (.some (111, true))⟩, ⟨(.some 113), .mv (.r 11), (.some (111, true))⟩, ⟨(.some 114), .call 9 [(.r 112), (.c (.i (.ofNat (nat_lit 2)))), (.r 113)], (.some (111, true))⟩, ⟨(.some 115), .bin .eql (.r 114) (.c (.i (.ofNat (nat_lit 3)))), (.some (111, true))⟩, ⟨(.some 116), .pick (.r 111) (.r 115) (.c (.b false)), .none⟩, ⟨(.some 117), .mv (.r 116), .none⟩, ⟨(.some 118), .call 13 [], (.some (117, true))⟩, ⟨(.some 119), .pick (.r 117) (.r 118) (.c (.b false)), .none⟩, ⟨(.some 2), .mv (.r 119), .none⟩])
 .ret) .skip))
 (.seq (.reg [⟨(.some 121), .mv (.r 7), .none⟩, ⟨(.some 122), .mv (.r 12), .none⟩, ⟨(.some 123), .call 10 [(.r 122)], .none⟩, ⟨(.some 124), .call 24 [(.r 121), (.r 123)], .none⟩, ⟨(.some 120), .mv (.r 124), .none⟩, ⟨(.some 125), .ext (.r 120) 0, .none⟩, ⟨(.some 126), .ext (.r 120) 1, .none⟩, ⟨(.some 19), .mv (.r 125), .none⟩, ⟨(.some 20), .mv (.r 126), .none⟩])
 (.seq (.seq (.reg [⟨(.some 127), .mv (.r 20), .none⟩, ⟨(.some 128), .un .not (.r 127), .none⟩, ⟨(.some 129), .mv (.r 128), .none⟩, ⟨(.some 130), .mv (.r 19), (.some (129, false))⟩, ⟨(.some 131), .bslice 3 1 1 [(.i (.ofNat (nat_lit 0)))] [(0, 1, (.c (.i (.ofNat (nat_lit 2)))))], (.some (129, false))⟩, ⟨(.some 132), .mv (.r 10), (.some (129, false))⟩, ⟨(.some 133), .call 25 [(.r 131), (.r 132)], (.some (129, false))⟩, ⟨(.some 134), .call 16 [(.r 130), (.r 133)], (.some (129, false))⟩, ⟨(.some 135), .un .not (.r 134), (.some (129, false))⟩, ⟨(.some 136), .pick (.r 129) (.c (.b true)) (.r 135), .none⟩])
 (.cond (.r 136) (.seq (.reg [⟨(.some 2), .mv (.c (.b false)), .none⟩])
 .ret) .skip))
 (.seq (.seq (.reg [⟨(.some 137), .mv (.r 10), .none⟩, ⟨(.some 138), .bin .gtr (.r 137) (.c (.i (.ofNat (nat_lit 0)))), .none⟩])
 (.cond (.r 138) (.seq (.reg [⟨(.some 139), .mv (.r 17), .none⟩, ⟨(.some 140), .bin .eql (.r 139) (.c (.s 0 (nat_lit 0))), .none⟩, ⟨(.some 141), .mv (.r 140), .none⟩, ⟨(.some 142), .mv (.r 18), (.some (141, true))⟩, ⟨(.some 143), .mv (.r 9), (.some (141, true))⟩, ⟨(.some 144), .lenSl (.r 143), (.some (141, true))⟩, ⟨(.some 145), .bin .eql (.r 142) (.r 144), (.some (141, true))⟩, ⟨(.some 146), .pick (.r 141) (.r 145) (.c (.b false)), .none⟩, ⟨(.some 147), .mv (.r 146), .none⟩, ⟨(.some 148), .mv (.r 5), (.some (147, true))⟩, ⟨(.some 149), .mv (.r 9), (.some (147, true))⟩, ⟨(.some 150), .mv (.r 19), (.some (147, true))⟩, ⟨(.some 151), .app 3 1 (.r 149) (.r 150), (.some (147, true))⟩, ⟨(.some 152), .call 26 [(.r 148), (.r 151)], (.some (147, true))⟩, ⟨(.some 153), .pick (.r 147) (.r 152) (.c (.b false)), .none⟩, ⟨(.some 154), .mv (.r 153), .none⟩, ⟨(.some 155), .call 13 [], (.some (154, true))⟩, ⟨(.some 156), .pick (.r 154) (.r 155) (.c (.b false)), .none⟩, ⟨(.some 2), .mv (.r 156), .none⟩])
 .ret) .skip))
 (.seq (.reg [⟨(.some 158), .mv (.r 9), .none⟩, ⟨(.some 159), .call 27 [(.r 158), (.c (.i (.ofNat (nat_lit 0))))], .none⟩, ⟨(.some 157), .mv (.r 159), .none⟩, ⟨(.some 160), .ext (.r 157) 0, .none⟩, ⟨(.some 161), .ext (.r 157) 1, .none⟩, ⟨(.some 21), .mv (.r 160), .none⟩, ⟨(.some 22), .mv (.r 161), .none⟩])
 (.seq (.reg [⟨(.some 162), .mv (.r 17), .none⟩, ⟨(.some 163), .mv (.r 21), .none⟩, ⟨(.some 164), .bin .eql (.r 162) (.r 163), .none⟩, ⟨(.some 165), .mv (.r 164), .none⟩, ⟨(.some 166), .mv (.r 18), (.some (165, true))⟩, ⟨(.some 167), .bin .eql (.r 166) (.c (.i (.negSucc (nat_lit 0)))), (.some (165, true))⟩, ⟨(.some 168), .pick (.r 165) (.r 167) (.c (.b false)), .none⟩, ⟨(.some 169), .mv (.r 168), .none⟩, ⟨(.some 170), .call 13 [], (.some (169, true))⟩, ⟨(.some 171), .pick (.r 169) (.r 170) (.c (.b false)), .none⟩, ⟨(.some 2), .mv (.r 171), .none⟩])
 .ret))))))))))))))))), 172, [.tmp 2]⟩
theorem AxZok5 : cfOf AxZ 5 = some AxZc5 := by kernel_rfl
/- conch/conchtop.tables -/
noncomputable def AxZc6 : CF := ⟨(.seq (.reg [⟨(.some 2), .mv (.c .nilp), .none⟩])
 (.seq (.reg [⟨(.some 8), .mv (.r 0), .none⟩, ⟨(.some 9), .call 20 [(.r 8)], .none⟩, ⟨(.some 7), .mv (.r 9), .none⟩, ⟨(.some 10), .ext (.r 7) 0, .none⟩, ⟨(.some 11), .ext (.r 7) 1, .none⟩, ⟨(.some 3), .alloc 53 [.nils, .nils, .nils, (.i (.ofNat (nat_lit 0)))], .none⟩, ⟨.none, .st 4 (.r 3) (.r 10), .none⟩, ⟨(.some 4), .mv (.r 11), .none⟩])
 (.seq (.reg [⟨(.some 13), .lda 4 (.r 3), .none⟩, ⟨(.some 14), .call 21 [(.r 13)], .none⟩, ⟨(.some 12), .mv (.r 14), .none⟩, ⟨(.some 15), .ext (.r 12) 0, .none⟩, ⟨(.some 16), .ext (.r 12) 1, .none⟩, ⟨(.some 5), .mv (.r 15), .none⟩, ⟨(.some 6), .mv (.r 16), .none⟩])
 (.seq (.seq (.reg [⟨(.some 17), .mv (.r 4), .none⟩, ⟨(.some 18), .eq .iface true (.r 17) (.c .nili), .none⟩, ⟨(.some 19), .mv (.r 18), .none⟩, ⟨(.some 20), .mv (.r 6), (.some (19, false))⟩, ⟨(.some 21), .bin .neq (.r 20) (.c (.i (.ofNat (nat_lit 0)))), (.some (19, false))⟩, ⟨(.some 22), .pick (.r 19) (.c (.b true)) (.r 21), .none⟩])
 (.cond (.r 22) (.seq (.reg [⟨(.some 2), .mv (.c .nilp), .none⟩])
 .ret) .skip))
 (.seq (.reg [⟨(.some 23), .mv (.r 5), .none⟩, ⟨(.some 2), .mv (.r 23), .none⟩])
 .ret))))), 24, [.tmp 2]⟩
theorem AxZok6 : cfOf AxZ 6 = some AxZc6 := by kernel_rfl
/- conch/runs.Tree -/
noncomputable def AxZc7 : CF := ⟨(.seq (.reg [⟨(.some 4), .mv (.c (.s 0 (nat_lit 0))), .none⟩, ⟨(.some 5), .mv (.c (.i (.ofNat (nat_lit 0)))), .none⟩])
 (.seq (.seq (.reg [⟨(.some 10), .mv (.r 0), .none⟩, ⟨(.some 11), .eq .ptr false (.r 10) (.c .nilp), .none⟩])
 (.cond (.r 11) (.seq (.reg [⟨(.some 4), .mv (.c (.s 0 (nat_lit 0))), .none⟩, ⟨(.some 5), .mv (.c (.i (.ofNat (nat_lit 0)))), .none⟩])
 .ret) .skip))
 (.seq (.reg [⟨(.some 12), .mv (.r 0), .none⟩, ⟨(.some 13), .call 8 [(.r 12)], .none⟩, ⟨(.some 6), .mv (.r 13), .none⟩])
 (.seq (.seq (.reg [⟨(.some 14), .mv (.r 6), .none⟩, ⟨(.some 15), .mv (.r 1), .none⟩, ⟨(.some 16), .call 28 [(.r 14), (.r 15)], .none⟩, ⟨(.some 7), .mv (.r 16), .none⟩])
 (.seq (.reg [⟨(.some 17), .mv (.r 7), .none⟩, ⟨(.some 18), .mv (.r 1), .none⟩, ⟨(.some 19), .lenSl (.r 18), .none⟩, ⟨(.some 20), .bin .lss (.r 17) (.r 19), .none⟩])
 (.cond (.r 20) (.seq (.reg [⟨(.some 21), .mv (.r 7), .none⟩, ⟨(.some 4), .mv (.c (.s 0 (nat_lit 0))), .none⟩, ⟨(.some 5), .mv (.r 21), .none⟩])
 .ret) .skip)))
 (.seq (.reg [⟨(.some 23), .mv (.r 6), .none⟩, ⟨(.some 24), .call 11 [(.r 23)], .none⟩, ⟨(.some 22), .mv (.r 24), .none⟩, ⟨(.some 25), .ext (.r 22) 0, .none⟩, ⟨(.some 26), .ext (.r 22) 1, .none⟩, ⟨(.some 8), .mv (.r 25), .none⟩, ⟨(.some 9), .mv (.r 26), .none⟩])
 (.seq (.seq (.reg [⟨(.some 27), .mv (.r 9), .none⟩, ⟨(.some 28), .bin .neq (.r 27) (.c (.i (.ofNat (nat_lit 0)))), .none⟩])
 (.cond (.r 28) (.seq (.reg [⟨(.some 29), .mv (.r 1), .none⟩, ⟨(.some 30), .lenSl (.r 29), .none⟩, ⟨(.some 4), .mv (.c (.s 0 (nat_lit 0))), .none⟩, ⟨(.some 5), .mv (.r 30), .none⟩])
 .ret) .skip))
 (.seq (.reg [⟨(.some 31), .mv (.r 6), .none⟩, ⟨(.some 32), .call 29 [(.r 31)], .none⟩, ⟨(.some 33), .mv (.r 0), .none⟩, ⟨(.some 34), .call 31 [(.r 33)], .none⟩, ⟨(.some 35), .mv (.r 8), .none⟩, ⟨(.some 36), .call 30 [(.r 32), (.r 34), (.r 35)], .none⟩, ⟨(.some 4), .mv (.r 36), .none⟩, ⟨(.some 5), .mv (.c (.i (.negSucc (nat_lit 0)))), .none⟩])
 .ret))))))), 37, [.tmp 4, .tmp 5]⟩
theorem AxZok7 : cfOf AxZ 7 = some AxZc7 := by kernel_rfl
/- (*conch/drive.Tables).New -/
noncomputable def AxZc8 : CF := ⟨(.seq (.reg [⟨(.some 2), .mv (.c .nilp), .none⟩])
 (.seq (.seq (.reg [⟨(.some 3), .mv (.r 0), .none⟩, ⟨(.some 4), .eq .ptr false (.r 3) (.c .nilp), .none⟩])
 (.cond (.r 4) (.seq (.reg [⟨(.some 2), .mv (.c .nilp), .none⟩])
 .ret) .skip))
 (.seq (.reg [⟨(.some 5), .mv (.r 0), .none⟩, ⟨(.some 6), .bslice 3 1 1 [(.i (.ofNat (nat_lit 0)))] [(0, 1, (.c (.i (.ofNat (nat_lit 0)))))], .none⟩, ⟨(.some 7), .call 32 [], .none⟩, ⟨(.some 8), .build [.nilp, .nils, .nils, .nilp, (.b false), (.i (.ofNat (nat_lit 0)))] [(0, 1, (.r 5)), (1, 1, (.r 6)), (3, 1, (.r 7))], .none⟩, ⟨(.some 9), .box 74 (.r 8), .none⟩, ⟨(.some 2), .mv (.r 9), .none⟩])
 .ret))), 10, [.tmp 2]⟩
theorem AxZok8 : cfOf AxZ 8 = some AxZc8 := by kernel_rfl
/- (*conch/drive.Engine).Push -/
noncomputable def AxZc9 : CF := ⟨(.seq (.reg [⟨(.some 6), .mv (.c (.i (.ofNat (nat_lit 0)))), .none⟩])
 (.seq (.block 0 (.seq (.reg [⟨(.some 9), .mv (.r 0), .none⟩, ⟨(.some 10), .eq .ptr false (.r 9) (.c .nilp), .none⟩, ⟨(.some 8), .mv (.r 10), .none⟩])
 (.cond (.r 8) (.seq (.reg [⟨(.some 6), .mv (.c (.i (.ofNat (nat_lit 13)))), .none⟩])
 .ret) (.seq (.reg [⟨(.some 12), .mv (.r 0), .none⟩, ⟨(.some 13), .nilck (.r 12), .none⟩, ⟨(.some 14), .fadr 4 (.r 13), .none⟩, ⟨(.some 15), .ld (.r 14), .none⟩, ⟨(.some 11), .mv (.r 15), .none⟩])
 (.cond (.r 11) (.seq (.reg [⟨(.some 6), .mv (.c (.i (.ofNat (nat_lit 4)))), .none⟩])
 .ret) (.seq (.reg [⟨(.some 17), .mv (.r 1), .none⟩, ⟨(.some 18), .bin .lss (.r 17) (.c (.i (.ofNat (nat_lit 1)))), .none⟩, ⟨(.some 19), .mv (.r 18), .none⟩, ⟨(.some 20), .mv (.r 1), (.some (19, false))⟩, ⟨(.some 21), .mv (.r 0), (.some (19, false))⟩, ⟨(.some 22), .nilck (.r 21), (.some (19, false))⟩, ⟨(.some 23), .fadr 0 (.r 22), (.some (19, false))⟩, ⟨(.some 24), .ld (.r 23), (.some (19, false))⟩, ⟨(.some 25), .nilck (.r 24), (.some (19, false))⟩, ⟨(.some 26), .fadr 4 (.r 25), (.some (19, false))⟩, ⟨(.some 27), .fadr 1 (.r 26), (.some (19, false))⟩, ⟨(.some 28), .ld (.r 27), (.some (19, false))⟩, ⟨(.some 29), .bin .gtr (.r 20) (.r 28), (.some (19, false))⟩, ⟨(.some 30), .pick (.r 19) (.c (.b true)) (.r 29), .none⟩, ⟨(.some 16), .mv (.r 30), .none⟩])
 (.cond (.r 16) (.seq (.reg [⟨(.some 6), .mv (.c (.i (.ofNat (nat_lit 1)))), .none⟩])
 .ret) (.seq (.reg [⟨(.some 32), .mv (.r 0), .none⟩, ⟨(.some 33), .mv (.r 1), .none⟩, ⟨(.some 34), .call 33 [(.r 32), (.r 33)], .none⟩, ⟨(.some 35), .un .not (.r 34), .none⟩, ⟨(.some 31), .mv (.r 35), .none⟩])
 (.cond (.r 31) (.seq (.reg [⟨(.some 6), .mv (.c (.i (.ofNat (nat_lit 3)))), .none⟩])
 .ret) .skip)))))))))
 (.seq (.reg [⟨(.some 36), .mv (.r 0), .none⟩, ⟨(.some 37), .mv (.r 1), .none⟩, ⟨(.some 38), .call 34 [(.r 36), (.r 37)], .none⟩, ⟨(.some 7), .alloc 83 [(.i (.ofNat (nat_lit 0))), (.i (.ofNat (nat_lit 0)))], .none⟩, ⟨.none, .st 2 (.r 7) (.r 38), .none⟩])
 (.seq (.dreg [(⟨(.some 39), .mv (.r 0), .none⟩, false), (⟨(.some 40), .mv (.r 0), .none⟩, false), (⟨(.some 41), .nilck (.r 40), .none⟩, false), (⟨(.some 42), .fadr 1 (.r 41), .none⟩, false), (⟨(.some 43), .ld (.r 42), .none⟩, false), (⟨(.some 44), .fadr 1 (.r 7), .none⟩, false), (⟨(.some 45), .ld (.r 44), .none⟩, false), (⟨(.some 46), .bslice 3 1 1 [(.i (.ofNat (nat_lit 0)))] [(0, 1, (.r 45))], .none⟩, true), (⟨(.some 47), .app 3 1 (.r 43) (.r 46), .none⟩, true), (⟨(.some 48), .nilck (.r 39), .none⟩, false), (⟨(.some 49), .fadr 1 (.r 48), .none⟩, false), (⟨.none, .st 1 (.r 49) (.r 47), .none⟩, true)] [(⟨(.some 43), .ld (.r 42), .none⟩, 0, 2)])
 (.seq (.dreg [(⟨(.some 50), .mv (.r 0), .none⟩, false), (⟨(.some 51), .mv (.r 0), .none⟩, false), (⟨(.some 52), .nilck (.r 51), .none⟩, false), (⟨(.some 53), .fadr 2 (.r 52), .none⟩, false), (⟨(.some 54), .ld (.r 53), .none⟩, false), (⟨(.some 55), .mv (.r 0), .none⟩, false), (⟨(.some 56), .nilck (.r 55), .none⟩, false), (⟨(.some 57), .fadr 3 (.r 56), .none⟩, false), (⟨(.some 58), .ld (.r 57), .none⟩, false), (⟨(.some 59), .mv (.r 1), .none⟩, false), (⟨(.some 60), .mv (.r 2), .none⟩, false), (⟨(.some 61), .call 35 [(.r 58), (.r 59), (.r 60)], .none⟩, true), (⟨(.some 62), .bslice 3 1 1 [(.i (.ofNat (nat_lit 0)))] [(0, 1, (.r 61))], .none⟩, true), (⟨(.some 63), .app 3 1 (.r 54) (.r 62), .none⟩, true), (⟨(.some 64), .nilck (.r 50), .none⟩, false), (⟨(.some 65), .fadr 2 (.r 64), .none⟩, false), (⟨.none, .st 1 (.r 65) (.r 63), .none⟩, true)] [(⟨(.some 54), .ld (.r 53), .none⟩, 0, 3)])
 (.seq (.reg [⟨(.some 66), .mv (.r 0), .none⟩, ⟨(.some 67), .nilck (.r 66), .none⟩, ⟨(.some 68), .fadr 5 (.r 67), .none⟩, ⟨(.some 69), .ld (.r 68), .none⟩, ⟨(.some 70), .bin .add (.r 69) (.c (.i (.ofNat (nat_lit 1)))), .none⟩, ⟨(.some 71), .nilck (.r 66), .none⟩, ⟨(.some 72), .fadr 5 (.r 71), .none⟩, ⟨.none, .st 1 (.r 72) (.r 70), .none⟩])
 (.seq (.reg [⟨(.some 6), .mv (.c (.i (.ofNat (nat_lit 0)))), .none⟩])
 .ret))))))), 73, [.tmp 6]⟩
theorem AxZok9 : cfOf AxZ 9 = some AxZc9 := by kernel_rfl
/- (*conch/drive.Engine).Stack -/
noncomputable def AxZc10 : CF := ⟨(.seq (.reg [⟨(.some 2), .mv (.c .nils), .none⟩])
 (.seq (.seq (.reg [⟨(.some 3), .mv (.r 0), .none⟩, ⟨(.some 4), .eq .ptr false (.r 3) (.c .nilp), .none⟩])
 (.cond (.r 4) (.seq (.reg [⟨(.some 2), .mv (.c .nils), .none⟩])
 .ret) .skip))
 (.seq (.reg [⟨(.some 5), .mv (.r 0), .none⟩, ⟨(.some 6), .nilck (.r 5), .none⟩, ⟨(.some 7), .fadr 1 (.r 6), .none⟩, ⟨(.some 8), .ld (.r 7), .none⟩, ⟨(.some 9), .call 18 [(.r 8)], .none⟩, ⟨(.some 2), .mv (.r 9), .none⟩])
 .ret))), 10, [.tmp 2]⟩
theorem AxZok10 : cfOf AxZ 10 = some AxZc10 := by kernel_rfl
/- (*conch/drive.Engine).Finish -/
noncomputable def AxZc11 : CF := ⟨(.seq (.reg [⟨(.some 2), .mv (.c (.i (.ofNat (nat_lit 0)))), .none⟩, ⟨(.some 3), .mv (.c (.i (.ofNat (nat_lit 0)))), .none⟩])
 (.seq (.block 0 (.seq (.reg [⟨(.some 5), .mv (.r 0), .none⟩, ⟨(.some 6), .eq .ptr false (.r 5) (.c .nilp), .none⟩, ⟨(.some 4), .mv (.r 6), .none⟩])
 (.cond (.r 4) (.seq (.reg [⟨(.some 2), .mv (.c (.i (.negSucc (nat_lit 0)))), .none⟩, ⟨(.some 3), .mv (.c (.i (.ofNat (nat_lit 13)))), .none⟩])
 .ret) (.seq (.reg [⟨(.some 8), .mv (.r 0), .none⟩, ⟨(.some 9), .nilck (.r 8), .none⟩, ⟨(.some 10), .fadr 4 (.r 9), .none⟩, ⟨(.some 11), .ld (.r 10), .none⟩, ⟨(.some 7), .mv (.r 11), .none⟩])
 (.cond (.r 7) (.seq (.reg [⟨(.some 2), .mv (.c (.i (.negSucc (nat_lit 0)))), .none⟩, ⟨(.some 3), .mv (.c (.i (.ofNat (nat_lit 4)))), .none⟩])
 .ret) (.seq (.reg [⟨(.some 13), .mv (.r 0), .none⟩, ⟨(.some 14), .call 33 [(.r 13), (.c (.i (.ofNat (nat_lit 0))))], .none⟩, ⟨(.some 15), .un .not (.r 14), .none⟩, ⟨(.some 12), .mv (.r 15), .none⟩])
 (.cond (.r 12) (.seq (.reg [⟨(.some 2), .mv (.c (.i (.negSucc (nat_lit 0)))), .none⟩, ⟨(.some 3), .mv (.c (.i (.ofNat (nat_lit 3)))), .none⟩])
 .ret) .skip)))))))
 (.seq (.reg [⟨(.some 16), .mv (.r 0), .none⟩, ⟨(.some 17), .call 34 [(.r 16), (.c (.i (.ofNat (nat_lit 0))))], .none⟩])
 (.seq (.reg [⟨(.some 18), .mv (.r 0), .none⟩, ⟨(.some 19), .nilck (.r 18), .none⟩, ⟨(.some 20), .fadr 4 (.r 19), .none⟩, ⟨.none, .st 1 (.r 20) (.c (.b true)), .none⟩])
 (.seq (.dreg [(⟨(.some 21), .mv (.r 0), .none⟩, false), (⟨(.some 22), .nilck (.r 21), .none⟩, false), (⟨(.some 23), .fadr 2 (.r 22), .none⟩, false), (⟨(.some 24), .ld (.r 23), .none⟩, false), (⟨(.some 25), .mv (.r 0), .none⟩, false), (⟨(.some 26), .nilck (.r 25), .none⟩, false), (⟨(.some 27), .fadr 2 (.r 26), .none⟩, false), (⟨(.some 28), .ld (.r 27), .none⟩, false), (⟨(.some 29), .lenSl (.r 28), .none⟩, false), (⟨(.some 30), .bin .sub (.r 29) (.c (.i (.ofNat (nat_lit 1)))), .none⟩, false), (⟨(.some 31), .ixSl 1 (.r 24) (.r 30), .none⟩, false), (⟨(.some 32), .ld (.r 31), .none⟩, false), (⟨(.some 2), .mv (.r 32), .none⟩, false), (⟨(.some 3), .mv (.c (.i (.ofNat (nat_lit 0)))), .none⟩, false)] [])
 .ret))))), 33, [.tmp 2, .tmp 3]⟩
theorem AxZok11 : cfOf AxZ 11 = some AxZc11 := by kernel_rfl
/- (*conch/drive.Engine).Steps -/
noncomputable def AxZc12 : CF := ⟨(.seq (.reg [⟨(.some 2), .mv (.c (.i (.ofNat (nat_lit 0)))), .none⟩])
 (.seq (.seq (.reg [⟨(.some 3), .mv (.r 0), .none⟩, ⟨(.some 4), .eq .ptr false (.r 3) (.c .nilp), .none⟩])
 (.cond (.r 4) (.seq (.reg [⟨(.some 2), .mv (.c (.i (.ofNat (nat_lit 0)))), .none⟩])
 .ret) .skip))
 (.seq (.reg [⟨(.some 5), .mv (.r 0), .none⟩, ⟨(.some 6), .nilck (.r 5), .none⟩, ⟨(.some 7), .fadr 5 (.r 6), .none⟩, ⟨(.some 8), .ld (.r 7), .none⟩, ⟨(.some 2), .mv (.r 8), .none⟩])
 .ret))), 9, [.tmp 2]⟩
theorem AxZok12 : cfOf AxZ 12 = some AxZc12 := by kernel_rfl
/- conch/conchtop.lives -/
noncomputable def AxZc13 : CF := ⟨(.seq (.reg [⟨(.some 0), .mv (.c (.b false)), .none⟩])
 (.seq (.reg [⟨(.some 8), .call 20 [(.c (.s 27 (nat_lit 24323029323145310574820653810997669234910184488239338515875197989)))], .none⟩, ⟨(.some 7), .mv (.r 8), .none⟩, ⟨(.some 9), .ext (.r 7) 0, .none⟩, ⟨(.some 10), .ext (.r 7) 1, .none⟩, ⟨(.some 1), .alloc 53 [.nils, .nils, .nils, (.i (.ofNat (nat_lit 0)))], .none⟩, ⟨.none, .st 4 (.r 1) (.r 9), .none⟩, ⟨(.some 2), .mv (.r 10), .none⟩])
 (.seq (.reg [⟨(.some 12), .lda 4 (.r 1), .none⟩, ⟨(.some 13), .call 21 [(.r 12)], .none⟩, ⟨(.some 11), .mv (.r 13), .none⟩, ⟨(.some 14), .ext (.r 11) 0, .none⟩, ⟨(.some 15), .ext (.r 11) 1, .none⟩, ⟨(.some 3), .mv (.r 14), .none⟩, ⟨(.some 4), .mv (.r 15), .none⟩])
 (.seq (.reg [⟨(.some 17), .mv (.r 3), .none⟩, ⟨(.some 18), .bslice 3 1 3 [(.i (.ofNat (nat_lit 0)))] [(0, 1, (.c (.i (.ofNat (nat_lit 1))))), (1, 1, (.c (.i (.ofNat (nat_lit 1))))), (2, 1, (.c (.i (.ofNat (nat_lit 2)))))], .none⟩, ⟨(.some 19), .call 7 [(.r 17), (.r 18)], .none⟩, ⟨(.some 16), .mv (.r 19), .none⟩, ⟨(.some 20), .ext (.r 16) 0, .none⟩, ⟨(.some 21), .ext (.r 16) 1, .none⟩, ⟨(.some 5), .mv (.r 20), .none⟩, ⟨(.some 6), .mv (.r 21), .none⟩])
 (.seq (.reg [⟨(.some 22), .mv (.r 2), .none⟩, ⟨(.some 23), .eq .iface false (.r 22) (.c .nili), .none⟩, ⟨(.some 24), .mv (.r 23), .none⟩, ⟨(.some 25), .mv (.r 4), (.some (24, true))⟩, ⟨(.some 26), .bin .eql (.r 25) (.c (.i (.ofNat (nat_lit 0)))), (.some (24, true))⟩, ⟨(.some 27), .pick (.r 24) (.r 26) (.c (.b false)), .none⟩, ⟨(.some 28), .mv (.r 27), .none⟩, ⟨(.some 29), .mv (.r 5), (.some (28, true))⟩, ⟨(.some 30), .bin .eql (.r 29) (.c (.s 17 (nat_lit 14006289616966832807666234869476118000424))), (.some (28, true))⟩, ⟨(.some 31), .pick (.r 28) (.r 30) (.c (.b false)), .none⟩, ⟨(.some 32), .mv (.r 31), .none⟩, ⟨(.some 33), .mv (.r 6), (.some (32, true))⟩, ⟨(.some 34), .bin .eql (.r 33) (.c (.i (.negSucc (nat_lit 0)))), (.some (32, true))⟩, ⟨(.some 35), .pick (.r 32) (.r 34) (.c (.b false)), .none⟩, ⟨(.some 36), .mv (.r 35), .none⟩, ⟨(.some 37), .lda 4 (.r 1), (.some (36, true))⟩, ⟨(.some 38), .call 36 [(.r 37)], (.some (36, true))⟩, ⟨(.some 39), .bin .neq (.r 38) (.c (.s 0 (nat_lit 0))), (.some (36, true))⟩, ⟨(.some 40), .pick (.r 36) (.r 39) (.c (.b false)), .none⟩, ⟨(.some 0), .mv (.r 40), .none⟩])
 .ret))))), 41, [.tmp 0]⟩
theorem AxZok13 : cfOf AxZ 13 = some AxZc13 := by kernel_rfl
/- conch/conchtop.grown -/
noncomputable def AxZc14 : CF := ⟨(.seq (.reg [⟨(.some 4), .mv (.c .nilp), .none⟩])
 (.seq (.seq (.reg [⟨(.some 7), .mv (.r 0), .none⟩, ⟨(.some 8), .nilck (.r 7), .none⟩, ⟨(.some 9), .ld (.r 8), .none⟩, ⟨(.some 10), .lenSl (.r 9), .none⟩, ⟨(.some 11), .bin .eql (.r 10) (.c (.i (.ofNat (nat_lit 0)))), .none⟩, ⟨(.some 12), .mv (.r 11), .none⟩, ⟨(.some 13), .mv (.r 1), (.some (12, false))⟩, ⟨(.some 14), .bin .eql (.r 13) (.c (.i (.ofNat (nat_lit 0)))), (.some (12, false))⟩, ⟨(.some 15), .pick (.r 12) (.c (.b true)) (.r 14), .none⟩])
 (.cond (.r 15) (.seq (.reg [⟨(.some 16), .build [(.i (.ofNat (nat_lit 0))), .nilp, .nilp] [], .none⟩, ⟨(.some 17), .box 88 (.r 16), .none⟩, ⟨(.some 4), .mv (.r 17), .none⟩])
 .ret) .skip))
 (.seq (.reg [⟨(.some 18), .mv (.r 0), .none⟩, ⟨(.some 19), .nilck (.r 18), .none⟩, ⟨(.some 20), .ld (.r 19), .none⟩, ⟨(.some 21), .ixSl 1 (.r 20) (.c (.i (.ofNat (nat_lit 0)))), .none⟩, ⟨(.some 22), .ld (.r 21), .none⟩, ⟨(.some 23), .bin .rem (.r 22) (.c (.u .u8 (.ofNat (nat_lit 3)))), .none⟩, ⟨(.some 24), .cvInt .i64 (.r 23), .none⟩, ⟨(.some 5), .mv (.r 24), .none⟩])
 (.seq (.reg [⟨(.some 25), .mv (.r 0), .none⟩, ⟨(.some 26), .mv (.r 0), .none⟩, ⟨(.some 27), .nilck (.r 26), .none⟩, ⟨(.some 28), .ld (.r 27), .none⟩, ⟨(.some 29), .slSl 1 (.r 28) (.some (.c (.i (.ofNat (nat_lit 1))))) .none .none, .none⟩, ⟨(.some 30), .nilck (.r 25), .none⟩, ⟨.none, .st 1 (.r 30) (.r 29), .none⟩])
 (.seq (.seq (.reg [⟨(.some 31), .mv (.r 5), .none⟩, ⟨(.some 32), .bin .eql (.r 31) (.c (.i (.ofNat (nat_lit 0)))), .none⟩])
 (.cond (.r 32) (.seq (.reg [⟨(.some 33), .build [(.i (.ofNat (nat_lit 0))), .nilp, .nilp] [], .none⟩, ⟨(.some 34), .box 88 (.r 33), .none⟩, ⟨(.some 4), .mv (.r 34), .none⟩])
 .ret) .skip))
 (.seq (.reg [⟨(.some 35), .mv (.r 5), .none⟩, ⟨(.some 36), .build [(.i (.ofNat (nat_lit 0))), .nilp, .nilp] [(0, 1, (.r 35))], .none⟩, ⟨(.some 37), .box 88 (.r 36), .none⟩, ⟨(.some 6), .mv (.r 37), .none⟩])
 (.seq (.reg [⟨(.some 38), .mv (.r 6), .none⟩, ⟨(.some 39), .mv (.r 0), .none⟩, ⟨(.some 40), .mv (.r 1), .none⟩, ⟨(.some 41), .bin .sub (.r 40) (.c (.i (.ofNat (nat_lit 1)))), .none⟩, ⟨(.some 42), .call 14 [(.r 39), (.r 41)], .none⟩, ⟨(.some 43), .nilck (.r 38), .none⟩, ⟨(.some 44), .fadr 1 (.r 43), .none⟩, ⟨.none, .st 1 (.r 44) (.r 42), .none⟩])
 (.seq (.reg [⟨(.some 45), .mv (.r 6), .none⟩, ⟨(.some 46), .mv (.r 0), .none⟩, ⟨(.some 47), .mv (.r 1), .none⟩, ⟨(.some 48), .bin .sub (.r 47) (.c (.i (.ofNat (nat_lit 1)))), .none⟩, ⟨(.some 49), .call 14 [(.r 46), (.r 48)], .none⟩, ⟨(.some 50), .nilck (.r 45), .none⟩, ⟨(.some 51), .fadr 2 (.r 50), .none⟩, ⟨.none, .st 1 (.r 51) (.r 49), .none⟩])
 (.seq (.reg [⟨(.some 52), .mv (.r 6), .none⟩, ⟨(.some 4), .mv (.r 52), .none⟩])
 .ret))))))))), 53, [.tmp 4]⟩
theorem AxZok14 : cfOf AxZ 14 = some AxZc14 := by kernel_rfl
/- (*conch/conchtop.sum).sums -/
noncomputable def AxZc15 : CF := ⟨(.seq (.reg [⟨(.some 2), .mv (.c .nils), .none⟩, ⟨(.some 3), .mv (.c (.s 0 (nat_lit 0))), .none⟩])
 (.seq (.seq (.reg [⟨(.some 10), .mv (.r 0), .none⟩, ⟨(.some 11), .nilck (.r 10), .none⟩, ⟨(.some 12), .fadr 0 (.r 11), .none⟩, ⟨(.some 13), .ld (.r 12), .none⟩, ⟨(.some 14), .bin .eql (.r 13) (.c (.i (.ofNat (nat_lit 1)))), .none⟩])
 (.cond (.r 14) (.seq (.reg [⟨(.some 16), .mv (.r 0), .none⟩, ⟨(.some 17), .nilck (.r 16), .none⟩, ⟨(.some 18), .fadr 1 (.r 17), .none⟩, ⟨(.some 19), .ld (.r 18), .none⟩, ⟨(.some 20), .call 15 [(.r 19)], .none⟩, ⟨(.some 15), .mv (.r 20), .none⟩, ⟨(.some 21), .ext (.r 15) 0, .none⟩, ⟨(.some 22), .ext (.r 15) 1, .none⟩, ⟨(.some 4), .mv (.r 21), .none⟩, ⟨(.some 5), .mv (.r 22), .none⟩])
 (.seq (.reg [⟨(.some 24), .mv (.r 0), .none⟩, ⟨(.some 25), .nilck (.r 24), .none⟩, ⟨(.some 26), .fadr 2 (.r 25), .none⟩, ⟨(.some 27), .ld (.r 26), .none⟩, ⟨(.some 28), .call 37 [(.r 27)], .none⟩, ⟨(.some 23), .mv (.r 28), .none⟩, ⟨(.some 29), .ext (.r 23) 0, .none⟩, ⟨(.some 30), .ext (.r 23) 1, .none⟩, ⟨(.some 6), .mv (.r 29), .none⟩, ⟨(.some 7), .mv (.r 30), .none⟩])
 (.seq (.reg [⟨(.some 31), .mv (.r 4), .none⟩, ⟨(.some 32), .bslice 3 1 1 [(.i (.ofNat (nat_lit 0)))] [(0, 1, (.c (.i (.ofNat (nat_lit 2)))))], .none⟩, ⟨(.some 33), .app 3 1 (.r 31) (.r 32), .none⟩, ⟨(.some 34), .mv (.r 6), .none⟩, ⟨(.some 35), .app 3 1 (.r 33) (.r 34), .none⟩, ⟨(.some 36), .mv (.r 5), .none⟩, ⟨(.some 37), .bin .add (.c (.s 3 (nat_lit 2123048))) (.r 36), .none⟩, ⟨(.some 38), .bin .add (.r 37) (.c (.s 5 (nat_lit 138096092960))), .none⟩, ⟨(.some 39), .mv (.r 7), .none⟩, ⟨(.some 40), .bin .add (.r 38) (.r 39), .none⟩, ⟨(.some 41), .bin .add (.r 40) (.c (.s 1 (nat_lit 41))), .none⟩, ⟨(.some 2), .mv (.r 35), .none⟩, ⟨(.some 3), .mv (.r 41), .none⟩])
 .ret))) .skip))
 (.seq (.reg [⟨(.some 43), .mv (.r 0), .none⟩, ⟨(.some 44), .call 37 [(.r 43)], .none⟩, ⟨(.some 42), .mv (.r 44), .none⟩, ⟨(.some 45), .ext (.r 42) 0, .none⟩, ⟨(.some 46), .ext (.r 42) 1, .none⟩, ⟨(.some 8), .mv (.r 45), .none⟩, ⟨(.some 9), .mv (.r 46), .none⟩])
 (.seq (.reg [⟨(.some 47), .mv (.r 8), .none⟩, ⟨(.some 48), .mv (.r 9), .none⟩, ⟨(.some 49), .bin .add (.c (.s 3 (nat_lit 2123048))) (.r 48), .none⟩, ⟨(.some 50), .bin .add (.r 49) (.c (.s 1 (nat_lit 41))), .none⟩, ⟨(.some 2), .mv (.r 47), .none⟩, ⟨(.some 3), .mv (.r 50), .none⟩])
 .ret)))), 51, [.tmp 2, .tmp 3]⟩
theorem AxZok15 : cfOf AxZ 15 = some AxZc15 := by kernel_rfl
/- slices.Equal[[]int,int] -/
noncomputable def AxZc16 : CF := ⟨(.seq (.reg [⟨(.some 4), .mv (.c (.b false)), .none⟩])
 (.seq (.seq (.reg [⟨(.some 6), .mv (.r 0), .none⟩, ⟨(.some 7), .lenSl (.r 6), .none⟩, ⟨(.some 8), .mv (.r 1), .none⟩, ⟨(.some 9), .lenSl (.r 8), .none⟩, ⟨(.some 10), .bin .neq (.r 7) (.r 9), .none⟩])
 (.cond (.r 10) (.seq (.reg [⟨(.some 4), .mv (.c (.b false)), .none⟩])
 .ret) .skip))
 (.seq (.seq (.reg [⟨(.some 11), .mv (.r 0), .none⟩, ⟨(.some 12), .lenSl (.r 11), .none⟩, ⟨(.some 13), .mv (.c (.i (.ofNat (nat_lit 0)))), .none⟩])
 (.block 0 (.loop (.seq (.reg [⟨(.some 14), .bin .lss (.r 13) (.r 12), .none⟩])
 (.seq (.cond (.r 14) .skip (.exit 0))
 (.seq (.block 1 (.seq (.reg [⟨(.some 15), .mv (.r 13), .none⟩, ⟨(.some 5), .mv (.r 15), .none⟩])
 (.seq (.dreg [(⟨(.some 16), .mv (.r 0), .none⟩, false), (⟨(.some 17), .mv (.r 5), .none⟩, false), (⟨(.some 18), .ixSl 1 (.r 16) (.r 17), .none⟩, false), (⟨(.some 19), .ld (.r 18), .none⟩, false), (⟨(.some 20), .mv (.r 1), .none⟩, false), (⟨(.some 21), .mv (.r 5), .none⟩, false), (⟨(.some 22), .ixSl 1 (.r 20) (.r 21), .none⟩, false), (⟨(.some 23), .ld (.r 22), .none⟩, false), (⟨(.some 24), .bin .neq (.r 19) (.r 23), .none⟩, false)] [])
 (.cond (.r 24) (.seq (.reg [⟨(.some 4), .mv (.c (.b false)), .none⟩])
 .ret) .skip))))
 (.reg [⟨(.some 25), .bin .add (.r 13) (.c (.i (.ofNat (nat_lit 1)))), .none⟩, ⟨(.some 13), .mv (.r 25), .none⟩])))))))
 (.seq (.reg [⟨(.some 4), .mv (.c (.b true)), .none⟩])
 .ret)))), 26, [.tmp 4]⟩
theorem AxZok16 : cfOf AxZ 16 = some AxZc16 := by kernel_rfl
/- conch/runs.Next -/
noncomputable def AxZc17 : CF := ⟨(.seq (.reg [⟨(.some 4), .mv (.c .nils), .none⟩])
 (.seq (.reg [⟨(.some 6), .mv (.r 0), .none⟩, ⟨(.some 7), .call 8 [(.r 6)], .none⟩, ⟨(.some 5), .mv (.r 7), .none⟩])
 (.seq (.seq (.reg [⟨(.some 8), .mv (.r 5), .none⟩, ⟨(.some 9), .mv (.r 1), .none⟩, ⟨(.some 10), .call 28 [(.r 8), (.r 9)], .none⟩, ⟨(.some 11), .mv (.r 1), .none⟩, ⟨(.some 12), .lenSl (.r 11), .none⟩, ⟨(.some 13), .bin .lss (.r 10) (.r 12), .none⟩])
 (.cond (.r 13) (.seq (.reg [⟨(.some 4), .mv (.c .nils), .none⟩])
 .ret) .skip))
 (.seq (.reg [⟨(.some 14), .mv (.r 5), .none⟩, ⟨(.some 15), .call 23 [(.r 14)], .none⟩, ⟨(.some 4), .mv (.r 15), .none⟩])
 .ret)))), 16, [.tmp 4]⟩
theorem AxZok17 : cfOf AxZ 17 = some AxZc17 := by kernel_rfl
/- slices.Clone[[]int,int] -/
noncomputable def AxZc18 : CF := ⟨(.seq (.reg [⟨(.some 2), .mv (.c .nils), .none⟩])
 (.seq (.seq (.reg [⟨(.some 3), .mv (.r 0), .none⟩, ⟨(.some 4), .eq .slice false (.r 3) (.c .nils), .none⟩])
 (.cond (.r 4) (.seq (.reg [⟨(.some 2), .mv (.c .nils), .none⟩])
 .ret) .skip))
 (.seq (.reg [⟨(.some 5), .bslice 3 1 0 [(.i (.ofNat (nat_lit 0)))] [], .none⟩, ⟨(.some 6), .mv (.r 0), .none⟩, ⟨(.some 7), .app 3 1 (.r 5) (.r 6), .none⟩, ⟨(.some 2), .mv (.r 7), .none⟩])
 .ret))), 8, [.tmp 2]⟩
theorem AxZok18 : cfOf AxZ 18 = some AxZc18 := by kernel_rfl
/- conch/runs.First -/
noncomputable def AxZc19 : CF := ⟨(.seq (.reg [⟨(.some 4), .mv (.c (.i (.ofNat (nat_lit 0)))), .none⟩])
 (.seq (.reg [⟨(.some 8), .mv (.r 0), .none⟩, ⟨(.some 9), .mv (.r 1), .none⟩, ⟨(.some 10), .call 7 [(.r 8), (.r 9)], .none⟩, ⟨(.some 7), .mv (.r 10), .none⟩, ⟨(.some 11), .ext (.r 7) 0, .none⟩, ⟨(.some 12), .ext (.r 7) 1, .none⟩, ⟨(.some 5), .mv (.r 11), .none⟩, ⟨(.some 6), .mv (.r 12), .none⟩])
 (.seq (.reg [⟨(.some 13), .mv (.r 6), .none⟩, ⟨(.some 4), .mv (.r 13), .none⟩])
 .ret))), 14, [.tmp 4]⟩
theorem AxZok19 : cfOf AxZ 19 = some AxZc19 := by kernel_rfl
/- conch/gread.Parse -/
noncomputable def AxZc20 : CF := ⟨(.seq (.reg [⟨(.some 2), .alloc 53 [.nils, .nils, .nils, (.i (.ofNat (nat_lit 0)))], .none⟩, ⟨(.some 3), .alloc 55 [.nili], .none⟩])
 (.seq (.reg [⟨(.some 8), .mv (.r 0), .none⟩, ⟨(.some 9), .call 38 [(.r 8)], .none⟩, ⟨(.some 7), .mv (.r 9), .none⟩, ⟨(.some 10), .ext (.r 7) 0, .none⟩, ⟨(.some 11), .ext (.r 7) 1, .none⟩, ⟨(.some 4), .mv (.r 10), .none⟩, ⟨.none, .st 1 (.r 3) (.r 11), .none⟩])
 (.seq (.seq (.reg [⟨(.some 12), .ld (.r 3), .none⟩, ⟨(.some 13), .eq .iface true (.r 12) (.c .nili), .none⟩])
 (.cond (.r 13) (.seq (.dreg [(⟨(.some 14), .build [.nils, .nils, .nils, (.i (.ofNat (nat_lit 0)))] [], .none⟩, false), (⟨(.some 15), .ld (.r 3), .none⟩, false), (⟨.none, .st 4 (.r 2) (.r 14), .none⟩, true), (⟨.none, .st 1 (.r 3) (.r 15), .none⟩, true)] [(⟨(.some 15), .ld (.r 3), .none⟩, 0, 2)])
 .ret) .skip))
 (.seq (.reg [⟨(.some 16), .mkFn 39 [(.r 2), (.r 3)], .none⟩, ⟨.none, .deferv (.r 16) [], .none⟩])
 (.seq (.reg [⟨(.some 17), .mv (.r 4), .none⟩, ⟨(.some 18), .mkMap, .none⟩, ⟨(.some 19), .build [.nils, .nils, .nils, .nils, .nils, .nilm] [(0, 1, (.r 17)), (5, 1, (.r 18))], .none⟩, ⟨(.some 20), .box 99 (.r 19), .none⟩, ⟨(.some 5), .mv (.r 20), .none⟩])
 (.seq (.reg [⟨(.some 21), .mv (.r 5), .none⟩, ⟨(.some 22), .call 41 [(.r 21)], .none⟩])
 (.seq (.reg [⟨(.some 23), .mv (.r 5), .none⟩, ⟨(.some 24), .mkMap, .none⟩, ⟨(.some 25), .mkMap, .none⟩, ⟨(.some 26), .build [.nilp, .nilm, .nilm, .nils, .nils, .nils, (.i (.ofNat (nat_lit 0))), .nils] [(0, 1, (.r 23)), (1, 1, (.r 24)), (2, 1, (.r 25))], .none⟩, ⟨(.some 27), .box 103 (.r 26), .none⟩, ⟨(.some 6), .mv (.r 27), .none⟩])
 (.seq (.reg [⟨(.some 28), .mv (.r 6), .none⟩, ⟨(.some 29), .call 42 [(.r 28)], .none⟩, ⟨.none, .st 4 (.r 2) (.r 29), .none⟩, ⟨.none, .st 1 (.r 3) (.c .nili), .none⟩])
 .ret)))))))), 30, [.cell 2 4 true, .cell 3 1 false]⟩
theorem AxZok20 : cfOf AxZ 20 = some AxZc20 := by kernel_rfl
/- conch/drive.Make -/
noncomputable def AxZc21 : CF := ⟨(.seq (.reg [⟨(.some 1), .box 53 (.r 0), .none⟩, ⟨(.some 2), .mv (.c .nilp), .none⟩, ⟨(.some 3), .mv (.c (.i (.ofNat (nat_lit 0)))), .none⟩])
 (.seq (.reg [⟨(.some 7), .lda 4 (.r 1), .none⟩, ⟨(.some 8), .call 43 [(.r 7)], .none⟩, ⟨(.some 6), .mv (.r 8), .none⟩, ⟨(.some 9), .ext (.r 6) 0, .none⟩, ⟨(.some 10), .ext (.r 6) 1, .none⟩, ⟨(.some 4), .alloc 78 [.nils, (.i (.ofNat (nat_lit 0))), (.i (.ofNat (nat_lit 0))), .nils, .nils], .none⟩, ⟨.none, .st 5 (.r 4) (.r 9), .none⟩, ⟨(.some 5), .mv (.r 10), .none⟩])
 (.seq (.seq (.reg [⟨(.some 11), .mv (.r 5), .none⟩, ⟨(.some 12), .bin .neq (.r 11) (.c (.i (.ofNat (nat_lit 0)))), .none⟩])
 (.cond (.r 12) (.seq (.reg [⟨(.some 13), .mv (.r 5), .none⟩, ⟨(.some 2), .mv (.c .nilp), .none⟩, ⟨(.some 3), .mv (.r 13), .none⟩])
 .ret) .skip))
 (.seq (.reg [⟨(.some 14), .lda 4 (.r 1), .none⟩, ⟨(.some 15), .lda 5 (.r 4), .none⟩, ⟨(.some 16), .build [.nils, .nils, .nils, (.i (.ofNat (nat_lit 0))), .nils, (.i (.ofNat (nat_lit 0))), (.i (.ofNat (nat_lit 0))), .nils, .nils] [(0, 4, (.r 14)), (4, 5, (.r 15))], .none⟩, ⟨(.some 17), .box 80 (.r 16), .none⟩, ⟨(.some 2), .mv (.r 17), .none⟩, ⟨(.some 3), .mv (.c (.i (.ofNat (nat_lit 0)))), .none⟩])
 .ret)))), 18, [.tmp 2, .tmp 3]⟩
theorem AxZok21 : cfOf AxZ 21 = some AxZc21 := by kernel_rfl
/- conch/finish.Of -/
noncomputable def AxZc22 : CF := ⟨(.seq (.reg [⟨(.some 1), .box 53 (.r 0), .none⟩, ⟨(.some 2), .mv (.c .nilp), .none⟩, ⟨(.some 3), .mv (.c (.i (.ofNat (nat_lit 0)))), .none⟩])
 (.seq (.reg [⟨(.some 7), .lda 4 (.r 1), .none⟩, ⟨(.some 8), .call 44 [(.r 7)], .none⟩, ⟨(.some 6), .mv (.r 8), .none⟩, ⟨(.some 9), .ext (.r 6) 0, .none⟩, ⟨(.some 10), .ext (.r 6) 1, .none⟩, ⟨(.some 4), .mv (.r 9), .none⟩, ⟨(.some 5), .mv (.r 10), .none⟩])
 (.seq (.seq (.reg [⟨(.some 11), .mv (.r 5), .none⟩, ⟨(.some 12), .bin .neq (.r 11) (.c (.i (.ofNat (nat_lit 0)))), .none⟩])
 (.cond (.r 12) (.seq (.reg [⟨(.some 13), .mv (.r 5), .none⟩, ⟨(.some 2), .mv (.c .nilp), .none⟩, ⟨(.some 3), .mv (.r 13), .none⟩])
 .ret) .skip))
 (.seq (.dreg [(⟨(.some 14), .lda 4 (.r 1), .none⟩, false), (⟨(.some 15), .mv (.r 4), .none⟩, false), (⟨(.some 16), .lda 4 (.r 1), .none⟩, false), (⟨(.some 17), .call 45 [(.r 16)], .none⟩, true), (⟨(.some 18), .build [.nils, .nils, .nils, (.i (.ofNat (nat_lit 0))), .nils, .nilp] [(0, 4, (.r 14)), (4, 1, (.r 15)), (5, 1, (.r 17))], .none⟩, false), (⟨(.some 19), .box 112 (.r 18), .none⟩, true), (⟨(.some 2), .mv (.r 19), .none⟩, false), (⟨(.some 3), .mv (.c (.i (.ofNat (nat_lit 0)))), .none⟩, false)] [(⟨(.some 14), .lda 4 (.r 1), .none⟩, 0, 2)])
 .ret)))), 20, [.tmp 2, .tmp 3]⟩
theorem AxZok22 : cfOf AxZ 22 = some AxZc22 := by kernel_rfl
/- (*conch/drive.Engine).Expected -/
noncomputable def AxZc23 : CF := ⟨(.seq (.reg [⟨(.some 2), .mv (.c .nils), .none⟩])
 (.seq (.reg [⟨(.some 3), .mv (.c .nils), .none⟩])
 (.seq (.seq (.reg [⟨(.some 5), .mv (.r 0), .none⟩, ⟨(.some 6), .eq .ptr false (.r 5) (.c .nilp), .none⟩])
 (.cond (.r 6) (.seq (.reg [⟨(.some 2), .mv (.c .nils), .none⟩])
 .ret) .skip))
 (.seq (.seq (.reg [⟨(.some 7), .mv (.r 0), .none⟩, ⟨(.some 8), .nilck (.r 7), .none⟩, ⟨(.some 9), .fadr 0 (.r 8), .none⟩, ⟨(.some 10), .ld (.r 9), .none⟩, ⟨(.some 11), .nilck (.r 10), .none⟩, ⟨(.some 12), .fadr 4 (.r 11), .none⟩, ⟨(.some 13), .fadr 1 (.r 12), .none⟩, ⟨(.some 14), .ld (.r 13), .none⟩, ⟨(.some 15), .bin .add (.r 14) (.c (.i (.ofNat (nat_lit 1)))), .none⟩, ⟨(.some 16), .mv (.c (.i (.ofNat (nat_lit 0)))), .none⟩])
 (.block 0 (.loop (.seq (.reg [⟨(.some 17), .bin .lss (.r 16) (.r 15), .none⟩])
 (.seq (.cond (.r 17) .skip (.exit 0))
 (.seq (.block 1 (.seq (.reg [⟨(.some 18), .mv (.r 16), .none⟩, ⟨(.some 4), .mv (.r 18), .none⟩])
 (.seq (.reg [⟨(.some 19), .mv (.r 0), .none⟩, ⟨(.some 20), .mv (.r 4), .none⟩, ⟨(.some 21), .call 33 [(.r 19), (.r 20)], .none⟩])
 (.cond (.r 21) (.reg [⟨(.some 22), .mv (.r 3), .none⟩, ⟨(.some 23), .mv (.r 4), .none⟩, ⟨(.some 24), .bslice 3 1 1 [(.i (.ofNat (nat_lit 0)))] [(0, 1, (.r 23))], .none⟩, ⟨(.some 25), .app 3 1 (.r 22) (.r 24), .none⟩, ⟨(.some 3), .mv (.r 25), .none⟩]) .skip))))
 (.reg [⟨(.some 26), .bin .add (.r 16) (.c (.i (.ofNat (nat_lit 1)))), .none⟩, ⟨(.some 16), .mv (.r 26), .none⟩])))))))
 (.seq (.reg [⟨(.some 27), .mv (.r 3), .none⟩, ⟨(.some 2), .mv (.r 27), .none⟩])
 .ret))))), 28, [.tmp 2]⟩
theorem AxZok23 : cfOf AxZ 23 = some AxZc23 := by kernel_rfl
/- (*conch/finish.Ends).Rest -/
noncomputable def AxZc24 : CF := ⟨(.seq (.reg [⟨(.some 4), .mv (.c .nils), .none⟩, ⟨(.some 5), .mv (.c (.b false)), .none⟩])
 (.seq (.seq (.reg [⟨(.some 17), .mv (.r 0), .none⟩, ⟨(.some 18), .eq .ptr false (.r 17) (.c .nilp), .none⟩, ⟨(.some 19), .mv (.r 18), .none⟩, ⟨(.some 20), .mv (.r 0), (.some (19, false))⟩, ⟨(.some 21), .mv (.r 1), (.some (19, false))⟩, ⟨(.some 22), .call 46 [(.r 20), (.r 21)], (.some (19, false))⟩, ⟨(.some 23), .un .not (.r 22), (.some (19, false))⟩, ⟨(.some 24), .pick (.r 19) (.c (.b true)) (.r 23), .none⟩])
 (.cond (.r 24) (.seq (.reg [⟨(.some 4), .mv (.c .nils), .none⟩, ⟨(.some 5), .mv (.c (.b false)), .none⟩])
 .ret) .skip))
 (.seq (.reg [⟨(.some 25), .mv (.r 1), .none⟩, ⟨(.some 26), .lenSl (.r 25), .none⟩, ⟨(.some 27), .bin .sub (.r 26) (.c (.i (.ofNat (nat_lit 1)))), .none⟩, ⟨(.some 28), .mv (.r 1), .none⟩, ⟨(.some 29), .mv (.r 1), .none⟩, ⟨(.some 30), .lenSl (.r 29), .none⟩, ⟨(.some 31), .bin .sub (.r 30) (.c (.i (.ofNat (nat_lit 1)))), .none⟩, ⟨(.some 32), .ixSl 1 (.r 28) (.r 31), .none⟩, ⟨(.some 33), .ld (.r 32), .none⟩, ⟨(.some 34), .build [(.i (.ofNat (nat_lit 0))), (.i (.ofNat (nat_lit 0)))] [(0, 1, (.r 27)), (1, 1, (.r 33))], .none⟩, ⟨(.some 6), .alloc 115 [(.i (.ofNat (nat_lit 0))), (.i (.ofNat (nat_lit 0)))], .none⟩, ⟨.none, .st 2 (.r 6) (.r 34), .none⟩])
 (.seq (.reg [⟨(.some 35), .mv (.r 0), .none⟩, ⟨(.some 36), .mv (.r 1), .none⟩, ⟨(.some 37), .lda 2 (.r 6), .none⟩, ⟨(.some 38), .call 47 [(.r 35), (.r 36), (.r 37)], .none⟩, ⟨(.some 7), .mv (.r 38), .none⟩])
 (.seq (.reg [⟨(.some 39), .mkMap, .none⟩, ⟨(.some 40), .build [.nilm, .nilf] [(0, 1, (.r 39)), (1, 1, (.c (.fn 48 [])))], .none⟩, ⟨(.some 41), .box 121 (.r 40), .none⟩, ⟨(.some 8), .alloc 118 [.nilp], .none⟩, ⟨.none, .st 1 (.r 8) (.r 41), .none⟩])
 (.seq (.seq (.reg [⟨(.some 9), .alloc 4 [(.b false)], .none⟩, ⟨.none, .st 1 (.r 9) (.c (.b true)), .none⟩])
 (.block 0 (.loop (.seq (.seq (.reg [⟨(.some 42), .ld (.r 9), .none⟩])
 (.cond (.r 42) .skip (.exit 0)))
 (.seq (.block 1 (.seq (.reg [⟨.none, .st 1 (.r 9) (.c (.b false)), .none⟩])
 (.seq (.reg [⟨(.some 43), .mv (.r 7), .none⟩, ⟨(.some 44), .call 49 [(.r 43)], .none⟩])
 (.block 2 (.rng (.r 44) [45, 46] (.reg [⟨(.some 11), .alloc 126 [(.i (.ofNat (nat_lit 0))), (.i (.ofNat (nat_lit 0))), .nils, (.i (.ofNat (nat_lit 0))), (.i (.ofNat (nat_lit 0))), (.b false)], .none⟩, ⟨.none, .st 6 (.r 11) (.r 46), .none⟩]) (.block 3 (.seq (.dreg [(⟨(.some 48), .ld (.r 8), .none⟩, false), (⟨(.some 49), .nilck (.r 48), .none⟩, false), (⟨(.some 50), .fadr 0 (.r 49), .none⟩, false), (⟨(.some 51), .ld (.r 50), .none⟩, false), (⟨(.some 52), .fadr 3 (.r 11), .none⟩, false), (⟨(.some 53), .lda 2 (.r 52), .none⟩, false), (⟨(.some 54), .lookup (.flat [.int, .int]) .nils true (.r 51) (.r 53), .none⟩, false), (⟨(.some 47), .mv (.r 54), .none⟩, false), (⟨(.some 55), .ext (.r 47) 0, .none⟩, false), (⟨(.some 56), .ext (.r 47) 1, .none⟩, false), (⟨(.some 12), .mv (.r 55), .none⟩, false), (⟨(.some 13), .mv (.r 56), .none⟩, false)] [])
 (.seq (.seq (.reg [⟨(.some 57), .mv (.r 13), .none⟩, ⟨(.some 58), .un .not (.r 57), .none⟩, ⟨(.some 59), .mv (.r 58), .none⟩, ⟨(.some 60), .fadr 5 (.r 11), (.some (59, true))⟩, ⟨(.some 61), .ld (.r 60), (.some (59, true))⟩, ⟨(.some 62), .un .not (.r 61), (.some (59, true))⟩, ⟨(.some 63), .pick (.r 59) (.r 62) (.c (.b false)), .none⟩])
 (.cond (.r 63) (.exit 3) .skip))
 (.seq (.reg [⟨(.some 64), .fadr 2 (.r 11), .none⟩, ⟨(.some 65), .ld (.r 64), .none⟩, ⟨(.some 14), .mv (.r 65), .none⟩])
 (.seq (.seq (.reg [⟨(.some 66), .fadr 5 (.r 11), .none⟩, ⟨(.some 67), .ld (.r 66), .none⟩, ⟨(.some 68), .un .not (.r 67), .none⟩])
 (.cond (.r 68) (.reg [⟨(.some 69), .fadr 2 (.r 11), .none⟩, ⟨(.some 70), .ld (.r 69), .none⟩, ⟨(.some 71), .mv (.r 12), .none⟩, ⟨(.some 72), .bslice 22 1 2 [.nils] [(0, 1, (.r 70)), (1, 1, (.r 71))], .none⟩, ⟨(.some 73), .call 50 [(.r 72)], .none⟩, ⟨(.some 14), .mv (.r 73), .none⟩]) .skip))
 (.seq (.reg [⟨(.some 74), .mv (.r 14), .none⟩, ⟨(.some 75), .lenSl (.r 74), .none⟩, ⟨(.some 76), .bin .leq (.r 75) (.c (.i (.ofNat (nat_lit 4096)))), .none⟩, ⟨(.some 77), .mv (.r 76), .none⟩, ⟨(.some 78), .ld (.r 8), (.some (77, true))⟩, ⟨(.some 79), .fadr 0 (.r 11), (.some (77, true))⟩, ⟨(.some 80), .lda 2 (.r 79), (.some (77, true))⟩, ⟨(.some 81), .mv (.r 14), (.some (77, true))⟩, ⟨(.some 82), .call 51 [(.r 78), (.r 80), (.r 81)], (.some (77, true))⟩, ⟨(.some 83), .pick (.r 77) (.r 82) (.c (.b false)), .none⟩])
 (.cond (.r 83) (.reg [⟨.none, .st 1 (.r 9) (.c (.b true)), .none⟩]) .skip))))))))))))
 (.seq (.reg [⟨(.some 84), .ld (.r 9), .none⟩])
 (.reg [⟨(.some 9), .alloc 4 [(.b false)], .none⟩, ⟨.none, .st 1 (.r 9) (.r 84), .none⟩])))))))
 (.seq (.dreg [(⟨(.some 86), .ld (.r 8), .none⟩, false), (⟨(.some 87), .nilck (.r 86), .none⟩, false), (⟨(.some 88), .fadr 0 (.r 87), .none⟩, false), (⟨(.some 89), .ld (.r 88), .none⟩, false), (⟨(.some 90), .lda 2 (.r 6), .none⟩, false), (⟨(.some 91), .lookup (.flat [.int, .int]) .nils true (.r 89) (.r 90), .none⟩, false), (⟨(.some 85), .mv (.r 91), .none⟩, false), (⟨(.some 92), .ext (.r 85) 0, .none⟩, false), (⟨(.some 93), .ext (.r 85) 1, .none⟩, false), (⟨(.some 15), .mv (.r 92), .none⟩, false), (⟨(.some 16), .mv (.r 93), .none⟩, false)] [])
 (.seq (.reg [⟨(.some 94), .mv (.r 15), .none⟩, ⟨(.some 95), .mv (.r 16), .none⟩, ⟨(.some 4), .mv (.r 94), .none⟩, ⟨(.some 5), .mv (.r 95), .none⟩])
 .ret)))))))), 96, [.tmp 4, .tmp 5]⟩
theorem AxZok24 : cfOf AxZ 24 = some AxZc24 := by kernel_rfl
/- slices.Repeat[[]int,int] -/
noncomputable def AxZc25 : CF := ⟨(.seq (.reg [⟨(.some 4), .mv (.c .nils), .none⟩])
 (.seq (.seq (.reg [⟨(.some 9), .mv (.r 1), .none⟩, ⟨(.some 10), .bin .lss (.r 9) (.c (.i (.ofNat (nat_lit 0)))), .none⟩])
 (.cond (.r 10) (.reg [⟨(.some 11), .mkIf 9 (.c (.s 18 (nat_lit 8838634371626034279618351153450530198413667))), .none⟩, ⟨.none, .bad, .none⟩]) .skip))
 (.seq (.reg [⟨(.some 13), .mv (.r 0), .none⟩, ⟨(.some 14), .lenSl (.r 13), .none⟩, ⟨(.some 15), .cvInt .u64 (.r 14), .none⟩, ⟨(.some 16), .mv (.r 1), .none⟩, ⟨(.some 17), .cvInt .u64 (.r 16), .none⟩, ⟨(.some 18), .call 52 [(.r 15), (.r 17)], .none⟩, ⟨(.some 12), .mv (.r 18), .none⟩, ⟨(.some 19), .ext (.r 12) 0, .none⟩, ⟨(.some 20), .ext (.r 12) 1, .none⟩, ⟨(.some 5), .mv (.r 19), .none⟩, ⟨(.some 6), .mv (.r 20), .none⟩])
 (.seq (.seq (.reg [⟨(.some 21), .mv (.r 5), .none⟩, ⟨(.some 22), .bin .gtr (.r 21) (.c (.u .u64 (.ofNat (nat_lit 0)))), .none⟩, ⟨(.some 23), .mv (.r 22), .none⟩, ⟨(.some 24), .mv (.r 6), (.some (23, false))⟩, ⟨(.some 25), .bin .gtr (.r 24) (.c (.u .u64 (.ofNat (nat_lit 9223372036854775807)))), (.some (23, false))⟩, ⟨(.some 26), .pick (.r 23) (.c (.b true)) (.r 25), .none⟩])
 (.cond (.r 26) (.reg [⟨(.some 27), .mkIf 9 (.c (.s 40 (nat_lit 963418128638552869720407654453272125421877327008697887680703274632671259614598848762731909441652))), .none⟩, ⟨.none, .bad, .none⟩]) .skip))
 (.seq (.reg [⟨(.some 28), .mv (.r 6), .none⟩, ⟨(.some 29), .cvInt .i64 (.r 28), .none⟩, ⟨(.some 30), .mkSl 3 1 [(.i (.ofNat (nat_lit 0)))] (.r 29) (.r 29), .none⟩, ⟨(.some 7), .mv (.r 30), .none⟩])
 (.seq (.reg [⟨(.some 31), .mv (.r 7), .none⟩, ⟨(.some 32), .mv (.r 0), .none⟩, ⟨(.some 33), .copy 1 (.r 31) (.r 32), .none⟩, ⟨(.some 8), .mv (.r 33), .none⟩])
 (.seq (.block 0 (.loop (.seq (.seq (.reg [⟨(.some 34), .mv (.r 8), .none⟩, ⟨(.some 35), .mv (.r 7), .none⟩, ⟨(.some 36), .lenSl (.r 35), .none⟩, ⟨(.some 37), .bin .lss (.r 34) (.r 36), .none⟩])
 (.cond (.r 37) .skip (.exit 0)))
 (.block 1 (.dreg [(⟨(.some 38), .mv (.r 8), .none⟩, false), (⟨(.some 39), .mv (.r 7), .none⟩, false), (⟨(.some 40), .mv (.r 8), .none⟩, false), (⟨(.some 41), .slSl 1 (.r 39) (.some (.r 40)) .none .none, .none⟩, false), (⟨(.some 42), .mv (.r 7), .none⟩, false), (⟨(.some 43), .mv (.r 8), .none⟩, false), (⟨(.some 44), .slSl 1 (.r 42) .none (.some (.r 43)) .none, .none⟩, false), (⟨(.some 45), .copy 1 (.r 41) (.r 44), .none⟩, true), (⟨(.some 46), .bin .add (.r 38) (.r 45), .none⟩, false), (⟨(.some 8), .mv (.r 46), .none⟩, false)] [])))))
 (.seq (.reg [⟨(.some 47), .mv (.r 7), .none⟩, ⟨(.some 4), .mv (.r 47), .none⟩])
 .ret)))))))), 48, [.tmp 4]⟩
theorem AxZok25 : cfOf AxZ 25 = some AxZc25 := by kernel_rfl
/- conch/runs.Word -/
noncomputable def AxZc26 : CF := ⟨(.seq (.reg [⟨(.some 4), .mv (.c (.b false)), .none⟩])
 (.seq (.reg [⟨(.some 5), .mv (.r 0), .none⟩, ⟨(.some 6), .mv (.r 1), .none⟩, ⟨(.some 7), .call 19 [(.r 5), (.r 6)], .none⟩, ⟨(.some 8), .bin .lss (.r 7) (.c (.i (.ofNat (nat_lit 0)))), .none⟩, ⟨(.some 4), .mv (.r 8), .none⟩])
 .ret)), 9, [.tmp 4]⟩
theorem AxZok26 : cfOf AxZ 26 = some AxZc26 := by kernel_rfl
/- conch/conchtop.shut -/
noncomputable def AxZc27 : CF := ⟨(.seq (.reg [⟨(.some 4), .mv (.c (.s 0 (nat_lit 0))), .none⟩, ⟨(.some 5), .mv (.c (.i (.ofNat (nat_lit 0)))), .none⟩])
 (.seq (.seq (.reg [⟨(.some 8), .mv (.r 1), .none⟩, ⟨(.some 9), .mv (.r 0), .none⟩, ⟨(.some 10), .lenSl (.r 9), .none⟩, ⟨(.some 11), .bin .eql (.r 8) (.r 10), .none⟩, ⟨(.some 12), .mv (.r 11), .none⟩, ⟨(.some 13), .mv (.r 0), (.some (12, false))⟩, ⟨(.some 14), .mv (.r 1), (.some (12, false))⟩, ⟨(.some 15), .ixSl 1 (.r 13) (.r 14), (.some (12, false))⟩, ⟨(.some 16), .ld (.r 15), (.some (12, false))⟩, ⟨(.some 17), .bin .neq (.r 16) (.c (.i (.ofNat (nat_lit 1)))), (.some (12, false))⟩, ⟨(.some 18), .pick (.r 12) (.c (.b true)) (.r 17), .none⟩])
 (.cond (.r 18) (.seq (.reg [⟨(.some 19), .mv (.r 1), .none⟩, ⟨(.some 4), .mv (.c (.s 3 (nat_lit 2716456))), .none⟩, ⟨(.some 5), .mv (.r 19), .none⟩])
 .ret) .skip))
 (.seq (.reg [⟨(.some 21), .mv (.r 0), .none⟩, ⟨(.some 22), .mv (.r 1), .none⟩, ⟨(.some 23), .bin .add (.r 22) (.c (.i (.ofNat (nat_lit 1)))), .none⟩, ⟨(.some 24), .call 27 [(.r 21), (.r 23)], .none⟩, ⟨(.some 20), .mv (.r 24), .none⟩, ⟨(.some 25), .ext (.r 20) 0, .none⟩, ⟨(.some 26), .ext (.r 20) 1, .none⟩, ⟨(.some 6), .mv (.r 25), .none⟩, ⟨(.some 1), .mv (.r 26), .none⟩])
 (.seq (.reg [⟨(.some 28), .mv (.r 0), .none⟩, ⟨(.some 29), .mv (.r 1), .none⟩, ⟨(.some 30), .bin .add (.r 29) (.c (.i (.ofNat (nat_lit 1)))), .none⟩, ⟨(.some 31), .call 27 [(.r 28), (.r 30)], .none⟩, ⟨(.some 27), .mv (.r 31), .none⟩, ⟨(.some 32), .ext (.r 27) 0, .none⟩, ⟨(.some 33), .ext (.r 27) 1, .none⟩, ⟨(.some 7), .mv (.r 32), .none⟩, ⟨(.some 1), .mv (.r 33), .none⟩])
 (.seq (.reg [⟨(.some 34), .mv (.r 6), .none⟩, ⟨(.some 35), .bin .add (.c (.s 5 (nat_lit 138531599144))) (.r 34), .none⟩, ⟨(.some 36), .bin .add (.r 35) (.c (.s 3 (nat_lit 2114080))), .none⟩, ⟨(.some 37), .mv (.r 7), .none⟩, ⟨(.some 38), .bin .add (.r 36) (.r 37), .none⟩, ⟨(.some 39), .bin .add (.r 38) (.c (.s 1 (nat_lit 41))), .none⟩, ⟨(.some 40), .mv (.r 1), .none⟩, ⟨(.some 4), .mv (.r 39), .none⟩, ⟨(.some 5), .mv (.r 40), .none⟩])
 .ret))))), 41, [.tmp 4, .tmp 5]⟩
theorem AxZok27 : cfOf AxZ 27 = some AxZc27 := by kernel_rfl
/- conch/runs.take -/
noncomputable def AxZc28 : CF := ⟨(.seq (.reg [⟨(.some 4), .alloc 3 [(.i (.ofNat (nat_lit 0)))], .none⟩])
 (.seq (.reg [⟨(.some 5), .alloc 3 [(.i (.ofNat (nat_lit 0)))], .none⟩, ⟨.none, .st 1 (.r 5) (.c (.i (.ofNat (nat_lit 0)))), .none⟩])
 (.seq (.reg [⟨(.some 8), .mkFn 53 [(.r 5), (.r 4)], .none⟩, ⟨.none, .deferv (.r 8) [], .none⟩])
 (.seq (.seq (.reg [⟨(.some 9), .mv (.r 1), .none⟩, ⟨(.some 10), .lenSl (.r 9), .none⟩, ⟨(.some 11), .mv (.c (.i (.ofNat (nat_lit 0)))), .none⟩])
 (.block 0 (.loop (.seq (.reg [⟨(.some 12), .bin .lss (.r 11) (.r 10), .none⟩])
 (.seq (.cond (.r 12) .skip (.exit 0))
 (.seq (.block 1 (.seq (.reg [⟨(.some 13), .mv (.r 11), .none⟩, ⟨(.some 14), .ixSl 1 (.r 9) (.r 11), .none⟩, ⟨(.some 15), .ld (.r 14), .none⟩, ⟨(.some 6), .mv (.r 13), .none⟩, ⟨(.some 7), .mv (.r 15), .none⟩])
 (.seq (.seq (.reg [⟨(.some 16), .mv (.r 0), .none⟩, ⟨(.some 17), .mv (.r 7), .none⟩, ⟨(.some 18), .mv (.r 6), .none⟩, ⟨(.some 19), .call 9 [(.r 16), (.r 17), (.r 18)], .none⟩, ⟨(.some 20), .bin .neq (.r 19) (.c (.i (.ofNat (nat_lit 0)))), .none⟩])
 (.cond (.r 20) .ret .skip))
 (.reg [⟨(.some 21), .ld (.r 5), .none⟩, ⟨(.some 22), .bin .add (.r 21) (.c (.i (.ofNat (nat_lit 1)))), .none⟩, ⟨.none, .st 1 (.r 5) (.r 22), .none⟩]))))
 (.reg [⟨(.some 23), .bin .add (.r 11) (.c (.i (.ofNat (nat_lit 1)))), .none⟩, ⟨(.some 11), .mv (.r 23), .none⟩])))))))
 .ret)))), 24, [.cell 4 1 false]⟩
theorem AxZok28 : cfOf AxZ 28 = some AxZc28 := by kernel_rfl
/- (*conch/drive.Engine).Tree -/
noncomputable def AxZc29 : CF := ⟨(.seq (.reg [⟨(.some 2), .mv (.c .nilp), .none⟩])
 (.seq (.seq (.reg [⟨(.some 3), .mv (.r 0), .none⟩, ⟨(.some 4), .eq .ptr false (.r 3) (.c .nilp), .none⟩])
 (.cond (.r 4) (.seq (.reg [⟨(.some 2), .mv (.c .nilp), .none⟩])
 .ret) .skip))
 (.seq (.reg [⟨(.some 5), .mv (.r 0), .none⟩, ⟨(.some 6), .nilck (.r 5), .none⟩, ⟨(.some 7), .fadr 3 (.r 6), .none⟩, ⟨(.some 8), .ld (.r 7), .none⟩, ⟨(.some 2), .mv (.r 8), .none⟩])
 .ret))), 9, [.tmp 2]⟩
theorem AxZok29 : cfOf AxZ 29 = some AxZc29 := by kernel_rfl
/- (*conch/arena.Tree).Show -/
noncomputable def AxZc30 : CF := ⟨(.seq (.reg [⟨(.some 3), .box 69 (.r 0), .none⟩, ⟨(.some 4), .box 53 (.r 1), .none⟩, ⟨(.some 6), .mv (.c (.s 0 (nat_lit 0))), .none⟩])
 (.seq (.seq (.reg [⟨(.some 9), .ld (.r 3), .none⟩, ⟨(.some 10), .mv (.r 2), .none⟩, ⟨(.some 11), .call 54 [(.r 9), (.r 10)], .none⟩, ⟨(.some 12), .un .not (.r 11), .none⟩])
 (.cond (.r 12) (.seq (.reg [⟨(.some 6), .mv (.c (.s 0 (nat_lit 0))), .none⟩])
 .ret) .skip))
 (.seq (.reg [⟨(.some 7), .alloc 134 [.nilp, .nils], .none⟩])
 (.seq (.reg [⟨(.some 8), .alloc 135 [.nilf], .none⟩])
 (.seq (.reg [⟨(.some 13), .mkFn 55 [(.r 3), (.r 7), (.r 4), (.r 8)], .none⟩, ⟨.none, .st 1 (.r 8) (.r 13), .none⟩])
 (.seq (.reg [⟨(.some 14), .ld (.r 8), .none⟩, ⟨(.some 15), .mv (.r 2), .none⟩, ⟨(.some 16), .callv (.r 14) [(.r 15)], .none⟩])
 (.seq (.reg [⟨(.some 17), .call 59 [(.r 7)], .none⟩, ⟨(.some 6), .mv (.r 17), .none⟩])
 .ret))))))), 18, [.tmp 6]⟩
theorem AxZok30 : cfOf AxZ 30 = some AxZc30 := by kernel_rfl
/- (*conch/drive.Tables).Gram -/
noncomputable def AxZc31 : CF := ⟨(.seq (.reg [⟨(.some 2), .alloc 53 [.nils, .nils, .nils, (.i (.ofNat (nat_lit 0)))], .none⟩])
 (.seq (.seq (.reg [⟨(.some 3), .mv (.r 0), .none⟩, ⟨(.some 4), .eq .ptr false (.r 3) (.c .nilp), .none⟩])
 (.cond (.r 4) (.seq (.reg [⟨(.some 5), .build [.nils, .nils, .nils, (.i (.ofNat (nat_lit 0)))] [], .none⟩, ⟨.none, .st 4 (.r 2) (.r 5), .none⟩])
 .ret) .skip))
 (.seq (.reg [⟨(.some 6), .mv (.r 0), .none⟩, ⟨(.some 7), .nilck (.r 6), .none⟩, ⟨(.some 8), .fadr 0 (.r 7), .none⟩, ⟨(.some 9), .lda 4 (.r 8), .none⟩, ⟨.none, .st 4 (.r 2) (.r 9), .none⟩])
 .ret))), 10, [.cell 2 4 true]⟩
theorem AxZok31 : cfOf AxZ 31 = some AxZc31 := by kernel_rfl
/- conch/arena.New -/
noncomputable def AxZc32 : CF := ⟨(.seq (.reg [⟨(.some 0), .mv (.c .nilp), .none⟩])
 (.seq (.reg [⟨(.some 1), .build [.nils] [], .none⟩, ⟨(.some 2), .box 142 (.r 1), .none⟩, ⟨(.some 0), .mv (.r 2), .none⟩])
 .ret)), 3, [.tmp 0]⟩
theorem AxZok32 : cfOf AxZ 32 = some AxZc32 := by kernel_rfl
/- (*conch/drive.Engine).can -/
noncomputable def AxZc33 : CF := ⟨(.seq (.reg [⟨(.some 4), .mv (.c (.b false)), .none⟩])
 (.seq (.seq (.reg [⟨(.some 5), .mv (.r 0), .none⟩, ⟨(.some 6), .eq .ptr false (.r 5) (.c .nilp), .none⟩, ⟨(.some 7), .mv (.r 6), .none⟩, ⟨(.some 8), .mv (.r 0), (.some (7, false))⟩, ⟨(.some 9), .nilck (.r 8), (.some (7, false))⟩, ⟨(.some 10), .fadr 4 (.r 9), (.some (7, false))⟩, ⟨(.some 11), .ld (.r 10), (.some (7, false))⟩, ⟨(.some 12), .pick (.r 7) (.c (.b true)) (.r 11), .none⟩, ⟨(.some 13), .mv (.r 12), .none⟩, ⟨(.some 14), .mv (.r 1), (.some (13, false))⟩, ⟨(.some 15), .bin .lss (.r 14) (.c (.i (.ofNat (nat_lit 0)))), (.some (13, false))⟩, ⟨(.some 16), .pick (.r 13) (.c (.b true)) (.r 15), .none⟩, ⟨(.some 17), .mv (.r 16), .none⟩, ⟨(.some 18), .mv (.r 1), (.some (17, false))⟩, ⟨(.some 19), .mv (.r 0), (.some (17, false))⟩, ⟨(.some 20), .nilck (.r 19), (.some (17, false))⟩, ⟨(.some 21), .fadr 0 (.r 20), (.some (17, false))⟩, ⟨(.some 22), .ld (.r 21), (.some (17, false))⟩, ⟨(.some 23), .nilck (.r 22), (.some (17, false))⟩, ⟨(.some 24), .fadr 4 (.r 23), (.some (17, false))⟩, ⟨(.some 25), .fadr 1 (.r 24), (.some (17, false))⟩, ⟨(.some 26), .ld (.r 25), (.some (17, false))⟩, ⟨(.some 27), .bin .gtr (.r 18) (.r 26), (.some (17, false))⟩, ⟨(.some 28), .pick (.r 17) (.c (.b true)) (.r 27), .none⟩])
 (.cond (.r 28) (.seq (.reg [⟨(.some 4), .mv (.c (.b false)), .none⟩])
 .ret) .skip))
 (.seq (.reg [⟨(.some 29), .mv (.r 0), .none⟩, ⟨(.some 30), .mv (.r 1), .none⟩, ⟨(.some 31), .call 60 [(.r 29), (.r 30)], .none⟩, ⟨(.some 32), .fld 0 .none (.r 31), .none⟩, ⟨(.some 33), .bin .neq (.r 32) (.c (.i (.ofNat (nat_lit 0)))), .none⟩, ⟨(.some 4), .mv (.r 33), .none⟩])
 .ret))), 34, [.tmp 4]⟩
theorem AxZok33 : cfOf AxZ 33 = some AxZc33 := by kernel_rfl
/- (*conch/drive.Engine).settle -/
noncomputable def AxZc34 : CF := ⟨(.seq (.reg [⟨(.some 4), .alloc 83 [(.i (.ofNat (nat_lit 0))), (.i (.ofNat (nat_lit 0)))], .none⟩])
 (.block 0 (.loop (.block 1 (.seq (.dreg [(⟨(.some 9), .mv (.r 0), .none⟩, false), (⟨(.some 10), .nilck (.r 9), .none⟩, false), (⟨(.some 11), .fadr 0 (.r 10), .none⟩, false), (⟨(.some 12), .ld (.r 11), .none⟩, false), (⟨(.some 13), .nilck (.r 12), .none⟩, false), (⟨(.some 14), .fadr 4 (.r 13), .none⟩, false), (⟨(.some 15), .lda 5 (.r 14), .none⟩, false), (⟨(.some 16), .mv (.r 0), .none⟩, false), (⟨(.some 17), .nilck (.r 16), .none⟩, false), (⟨(.some 18), .fadr 1 (.r 17), .none⟩, false), (⟨(.some 19), .ld (.r 18), .none⟩, false), (⟨(.some 20), .mv (.r 0), .none⟩, false), (⟨(.some 21), .nilck (.r 20), .none⟩, false), (⟨(.some 22), .fadr 1 (.r 21), .none⟩, false), (⟨(.some 23), .ld (.r 22), .none⟩, false), (⟨(.some 24), .lenSl (.r 23), .none⟩, false), (⟨(.some 25), .bin .sub (.r 24) (.c (.i (.ofNat (nat_lit 1)))), .none⟩, false), (⟨(.some 26), .ixSl 1 (.r 19) (.r 25), .none⟩, false), (⟨(.some 27), .ld (.r 26), .none⟩, false), (⟨(.some 28), .mv (.r 1), .none⟩, false), (⟨(.some 29), .call 61 [(.r 15), (.r 27), (.r 28)], .none⟩, true), (⟨(.some 5), .alloc 83 [(.i (.ofNat (nat_lit 0))), (.i (.ofNat (nat_lit 0)))], .none⟩, true), (⟨.none, .st 2 (.r 5) (.r 29), .none⟩, true)] [])
 (.seq (.seq (.reg [⟨(.some 30), .fadr 0 (.r 5), .none⟩, ⟨(.some 31), .ld (.r 30), .none⟩, ⟨(.some 32), .bin .neq (.r 31) (.c (.i (.ofNat (nat_lit 2)))), .none⟩])
 (.cond (.r 32) (.seq (.reg [⟨(.some 33), .lda 2 (.r 5), .none⟩, ⟨.none, .st 2 (.r 4) (.r 33), .none⟩])
 .ret) .skip))
 (.seq (.dreg [(⟨(.some 34), .mv (.r 0), .none⟩, false), (⟨(.some 35), .nilck (.r 34), .none⟩, false), (⟨(.some 36), .fadr 0 (.r 35), .none⟩, false), (⟨(.some 37), .ld (.r 36), .none⟩, false), (⟨(.some 38), .nilck (.r 37), .none⟩, false), (⟨(.some 39), .fadr 4 (.r 38), .none⟩, false), (⟨(.some 40), .fadr 0 (.r 39), .none⟩, false), (⟨(.some 41), .ld (.r 40), .none⟩, false), (⟨(.some 42), .fadr 1 (.r 5), .none⟩, false), (⟨(.some 43), .ld (.r 42), .none⟩, false), (⟨(.some 44), .ixSl 2 (.r 41) (.r 43), .none⟩, false), (⟨(.some 45), .lda 2 (.r 44), .none⟩, false), (⟨(.some 6), .alloc 149 [(.i (.ofNat (nat_lit 0))), .nils], .none⟩, true), (⟨.none, .st 2 (.r 6) (.r 45), .none⟩, true)] [(⟨(.some 37), .ld (.r 36), .none⟩, 0, 2), (⟨(.some 41), .ld (.r 40), .none⟩, 0, 2), (⟨(.some 43), .ld (.r 42), .none⟩, 0, 2), (⟨(.some 45), .lda 2 (.r 44), .none⟩, 0, 2)])
 (.seq (.dreg [(⟨(.some 46), .mv (.r 0), .none⟩, false), (⟨(.some 47), .nilck (.r 46), .none⟩, false), (⟨(.some 48), .fadr 2 (.r 47), .none⟩, false), (⟨(.some 49), .ld (.r 48), .none⟩, false), (⟨(.some 50), .lenSl (.r 49), .none⟩, false), (⟨(.some 51), .fadr 1 (.r 6), .none⟩, false), (⟨(.some 52), .ld (.r 51), .none⟩, false), (⟨(.some 53), .lenSl (.r 52), .none⟩, false), (⟨(.some 54), .bin .sub (.r 50) (.r 53), .none⟩, false), (⟨(.some 7), .mv (.r 54), .none⟩, false)] [])
 (.seq (.dreg [(⟨(.some 55), .mv (.r 0), .none⟩, false), (⟨(.some 56), .nilck (.r 55), .none⟩, false), (⟨(.some 57), .fadr 3 (.r 56), .none⟩, false), (⟨(.some 58), .ld (.r 57), .none⟩, false), (⟨(.some 59), .fadr 0 (.r 6), .none⟩, false), (⟨(.some 60), .ld (.r 59), .none⟩, false), (⟨(.some 61), .fadr 1 (.r 5), .none⟩, false), (⟨(.some 62), .ld (.r 61), .none⟩, false), (⟨(.some 63), .mv (.r 0), .none⟩, false), (⟨(.some 64), .nilck (.r 63), .none⟩, false), (⟨(.some 65), .fadr 2 (.r 64), .none⟩, false), (⟨(.some 66), .ld (.r 65), .none⟩, false), (⟨(.some 67), .mv (.r 7), .none⟩, false), (⟨(.some 68), .slSl 1 (.r 66) (.some (.r 67)) .none .none, .none⟩, false), (⟨(.some 69), .call 62 [(.r 58), (.r 60), (.r 62), (.r 68)], .none⟩, true), (⟨(.some 8), .mv (.r 69), .none⟩, false)] [])
 (.seq (.reg [⟨(.some 70), .mv (.r 0), .none⟩, ⟨(.some 71), .mv (.r 0), .none⟩, ⟨(.some 72), .nilck (.r 71), .none⟩, ⟨(.some 73), .fadr 2 (.r 72), .none⟩, ⟨(.some 74), .ld (.r 73), .none⟩, ⟨(.some 75), .mv (.r 7), .none⟩, ⟨(.some 76), .mv (.r 7), .none⟩, ⟨(.some 77), .slSl 1 (.r 74) .none (.some (.r 75)) (.some (.r 76)), .none⟩, ⟨(.some 78), .mv (.r 8), .none⟩, ⟨(.some 79), .bslice 3 1 1 [(.i (.ofNat (nat_lit 0)))] [(0, 1, (.r 78))], .none⟩, ⟨(.some 80), .app 3 1 (.r 77) (.r 79), .none⟩, ⟨(.some 81), .nilck (.r 70), .none⟩, ⟨(.some 82), .fadr 2 (.r 81), .none⟩, ⟨.none, .st 1 (.r 82) (.r 80), .none⟩])
 (.seq (.reg [⟨(.some 83), .mv (.r 0), .none⟩, ⟨(.some 84), .mv (.r 0), .none⟩, ⟨(.some 85), .nilck (.r 84), .none⟩, ⟨(.some 86), .fadr 1 (.r 85), .none⟩, ⟨(.some 87), .ld (.r 86), .none⟩, ⟨(.some 88), .mv (.r 7), .none⟩, ⟨(.some 89), .bin .add (.r 88) (.c (.i (.ofNat (nat_lit 1)))), .none⟩, ⟨(.some 90), .mv (.r 7), .none⟩, ⟨(.some 91), .bin .add (.r 90) (.c (.i (.ofNat (nat_lit 1)))), .none⟩, ⟨(.some 92), .slSl 1 (.r 87) .none (.some (.r 89)) (.some (.r 91)), .none⟩, ⟨(.some 93), .nilck (.r 83), .none⟩, ⟨(.some 94), .fadr 1 (.r 93), .none⟩, ⟨.none, .st 1 (.r 94) (.r 92), .none⟩])
 (.seq (.dreg [(⟨(.some 95), .mv (.r 0), .none⟩, false), (⟨(.some 96), .mv (.r 0), .none⟩, false), (⟨(.some 97), .nilck (.r 96), .none⟩, false), (⟨(.some 98), .fadr 1 (.r 97), .none⟩, false), (⟨(.some 99), .ld (.r 98), .none⟩, false), (⟨(.some 100), .mv (.r 0), .none⟩, false), (⟨(.some 101), .nilck (.r 100), .none⟩, false), (⟨(.some 102), .fadr 0 (.r 101), .none⟩, false), (⟨(.some 103), .ld (.r 102), .none⟩, false), (⟨(.some 104), .nilck (.r 103), .none⟩, false), (⟨(.some 105), .fadr 4 (.r 104), .none⟩, false), (⟨(.some 106), .lda 5 (.r 105), .none⟩, false), (⟨(.some 107), .mv (.r 0), .none⟩, false), (⟨(.some 108), .nilck (.r 107), .none⟩, false), (⟨(.some 109), .fadr 1 (.r 108), .none⟩, false), (⟨(.some 110), .ld (.r 109), .none⟩, false), (⟨(.some 111), .mv (.r 7), .none⟩, false), (⟨(.some 112), .ixSl 1 (.r 110) (.r 111), .none⟩, false), (⟨(.some 113), .ld (.r 112), .none⟩, false), (⟨(.some 114), .fadr 0 (.r 6), .none⟩, false), (⟨(.some 115), .ld (.r 114), .none⟩, false), (⟨(.some 116), .call 63 [(.r 106), (.r 113), (.r 115)], .none⟩, true), (⟨(.some 117), .bslice 3 1 1 [(.i (.ofNat (nat_lit 0)))] [(0, 1, (.r 116))], .none⟩, true), (⟨(.some 118), .app 3 1 (.r 99) (.r 117), .none⟩, true), (⟨(.some 119), .nilck (.r 95), .none⟩, false), (⟨(.some 120), .fadr 1 (.r 119), .none⟩, false), (⟨.none, .st 1 (.r 120) (.r 118), .none⟩, true)] [(⟨(.some 99), .ld (.r 98), .none⟩, 0, 3)])
 (.reg [⟨(.some 121), .mv (.r 0), .none⟩, ⟨(.some 122), .nilck (.r 121), .none⟩, ⟨(.some 123), .fadr 5 (.r 122), .none⟩, ⟨(.some 124), .ld (.r 123), .none⟩, ⟨(.some 125), .bin .add (.r 124) (.c (.i (.ofNat (nat_lit 1)))), .none⟩, ⟨(.some 126), .nilck (.r 121), .none⟩, ⟨(.some 127), .fadr 5 (.r 126), .none⟩, ⟨.none, .st 1 (.r 127) (.r 125), .none⟩]))))))))))))), 128, [.cell 4 2 true]⟩
theorem AxZok34 : cfOf AxZ 34 = some AxZc34 := by kernel_rfl
/- (*conch/arena.Tree).Leaf -/
noncomputable def AxZc35 : CF := ⟨(.seq (.reg [⟨(.some 6), .mv (.c (.i (.ofNat (nat_lit 0)))), .none⟩])
 (.seq (.seq (.reg [⟨(.some 7), .mv (.r 0), .none⟩, ⟨(.some 8), .eq .ptr false (.r 7) (.c .nilp), .none⟩])
 (.cond (.r 8) (.seq (.reg [⟨(.some 6), .mv (.c (.i (.negSucc (nat_lit 0)))), .none⟩])
 .ret) .skip))
 (.seq (.reg [⟨(.some 9), .mv (.r 0), .none⟩, ⟨(.some 10), .mv (.r 0), .none⟩, ⟨(.some 11), .nilck (.r 10), .none⟩, ⟨(.some 12), .fadr 0 (.r 11), .none⟩, ⟨(.some 13), .ld (.r 12), .none⟩, ⟨(.some 14), .mv (.r 1), .none⟩, ⟨(.some 15), .mv (.r 2), .none⟩, ⟨(.some 16), .build [(.i (.ofNat (nat_lit 0))), (.i (.ofNat (nat_lit 0))), (.i (.ofNat (nat_lit 0))), .nils] [(0, 1, (.r 14)), (1, 1, (.r 15)), (2, 1, (.c (.i (.negSucc (nat_lit 0)))))], .none⟩, ⟨(.some 17), .build [(.i (.ofNat (nat_lit 0))), (.i (.ofNat (nat_lit 0))), (.i (.ofNat (nat_lit 0))), .nils, (.b false), (.b false)] [(0, 4, (.r 16)), (4, 1, (.c (.b true)))], .none⟩, ⟨(.some 18), .bslice 139 6 1 [(.i (.ofNat (nat_lit 0))), (.i (.ofNat (nat_lit 0))), (.i (.ofNat (nat_lit 0))), .nils, (.b false), (.b false)] [(0, 6, (.r 17))], .none⟩, ⟨(.some 19), .app 139 6 (.r 13) (.r 18), .none⟩, ⟨(.some 20), .nilck (.r 9), .none⟩, ⟨(.some 21), .fadr 0 (.r 20), .none⟩, ⟨.none, .st 1 (.r 21) (.r 19), .none⟩])
 (.seq (.reg [⟨(.some 22), .mv (.r 0), .none⟩, ⟨(.some 23), .nilck (.r 22), .none⟩, ⟨(.some 24), .fadr 0 (.r 23), .none⟩, ⟨(.some 25), .ld (.r 24), .none⟩, ⟨(.some 26), .lenSl (.r 25), .none⟩, ⟨(.some 27), .bin .sub (.r 26) (.c (.i (.ofNat (nat_lit 1)))), .none⟩, ⟨(.some 6), .mv (.r 27), .none⟩])
 .ret)))), 28, [.tmp 6]⟩
theorem AxZok35 : cfOf AxZ 35 = some AxZc35 := by kernel_rfl
/- conch/gshow.Show -/
noncomputable def AxZc36 : CF := ⟨(.seq (.reg [⟨(.some 1), .box 53 (.r 0), .none⟩, ⟨(.some 2), .mv (.c (.s 0 (nat_lit 0))), .none⟩])
 (.seq (.seq (.reg [⟨(.some 7), .lda 4 (.r 1), .none⟩, ⟨(.some 8), .call 64 [(.r 7)], .none⟩, ⟨(.some 9), .bin .neq (.r 8) (.c (.i (.ofNat (nat_lit 0)))), .none⟩, ⟨(.some 10), .mv (.r 9), .none⟩, ⟨(.some 11), .lda 4 (.r 1), (.some (10, false))⟩, ⟨(.some 12), .call 65 [(.r 11)], (.some (10, false))⟩, ⟨(.some 13), .un .not (.r 12), (.some (10, false))⟩, ⟨(.some 14), .pick (.r 10) (.c (.b true)) (.r 13), .none⟩])
 (.cond (.r 14) (.seq (.reg [⟨(.some 2), .mv (.c (.s 0 (nat_lit 0))), .none⟩])
 .ret) .skip))
 (.seq (.reg [⟨(.some 3), .alloc 134 [.nilp, .nils], .none⟩])
 (.seq (.reg [⟨(.some 15), .lda 4 (.r 1), .none⟩, ⟨(.some 16), .call 66 [(.r 15)], .none⟩, ⟨(.some 17), .call 56 [(.r 3), (.r 16)], .none⟩])
 (.seq (.reg [⟨(.some 4), .mv (.c (.i (.ofNat (nat_lit 0)))), .none⟩])
 (.seq (.seq (.reg [⟨(.some 18), .fadr 2 (.r 1), .none⟩, ⟨(.some 19), .ld (.r 18), .none⟩, ⟨(.some 20), .lenSl (.r 19), .none⟩, ⟨(.some 21), .mv (.c (.i (.ofNat (nat_lit 0)))), .none⟩])
 (.block 0 (.loop (.seq (.reg [⟨(.some 22), .bin .lss (.r 21) (.r 20), .none⟩])
 (.seq (.cond (.r 22) .skip (.exit 0))
 (.seq (.block 1 (.seq (.reg [⟨(.some 23), .ixSl 2 (.r 19) (.r 21), .none⟩, ⟨(.some 24), .lda 2 (.r 23), .none⟩, ⟨(.some 6), .alloc 149 [(.i (.ofNat (nat_lit 0))), .nils], .none⟩, ⟨.none, .st 2 (.r 6) (.r 24), .none⟩])
 (.seq (.seq (.reg [⟨(.some 25), .mv (.r 4), .none⟩])
 (.block 2 (.seq (.reg [⟨(.some 28), .fadr 0 (.r 6), .none⟩, ⟨(.some 29), .ld (.r 28), .none⟩, ⟨(.some 30), .bin .eql (.r 25) (.r 29), .none⟩, ⟨(.some 27), .mv (.r 30), .none⟩])
 (.cond (.r 27) (.seq (.reg [⟨(.some 31), .lda 4 (.r 1), .none⟩, ⟨(.some 32), .lda 2 (.r 6), .none⟩, ⟨(.some 33), .call 67 [(.r 31), (.r 32)], .none⟩, ⟨(.some 34), .bin .add (.c (.s 3 (nat_lit 8128778))) (.r 33), .none⟩, ⟨(.some 35), .call 56 [(.r 3), (.r 34)], .none⟩])
 (.exit 1)) (.seq (.reg [⟨(.some 37), .bin .eql (.r 25) (.c (.i (.ofNat (nat_lit 0)))), .none⟩, ⟨(.some 36), .mv (.r 37), .none⟩])
 (.cond (.r 36) .skip (.reg [⟨(.some 26), .call 56 [(.r 3), (.c (.s 4 (nat_lit 171641098)))], .none⟩])))))))
 (.seq (.reg [⟨(.some 38), .lda 4 (.r 1), .none⟩, ⟨(.some 39), .lda 2 (.r 6), .none⟩, ⟨(.some 40), .call 68 [(.r 38), (.r 39)], .none⟩, ⟨(.some 41), .call 56 [(.r 3), (.r 40)], .none⟩])
 (.reg [⟨(.some 42), .fadr 0 (.r 6), .none⟩, ⟨(.some 43), .ld (.r 42), .none⟩, ⟨(.some 4), .mv (.r 43), .none⟩])))))
 (.reg [⟨(.some 44), .bin .add (.r 21) (.c (.i (.ofNat (nat_lit 1)))), .none⟩, ⟨(.some 21), .mv (.r 44), .none⟩])))))))
 (.seq (.reg [⟨(.some 45), .call 56 [(.r 3), (.c (.s 4 (nat_lit 171641098)))], .none⟩])
 (.seq (.reg [⟨(.some 46), .call 59 [(.r 3)], .none⟩, ⟨(.some 2), .mv (.r 46), .none⟩])
 .ret)))))))), 47, [.tmp 2]⟩
theorem AxZok36 : cfOf AxZ 36 = some AxZc36 := by kernel_rfl
/- (*conch/conchtop.sum).products -/
noncomputable def AxZc37 : CF := ⟨(.seq (.reg [⟨(.some 2), .mv (.c .nils), .none⟩, ⟨(.some 3), .mv (.c (.s 0 (nat_lit 0))), .none⟩])
 (.seq (.seq (.reg [⟨(.some 10), .mv (.r 0), .none⟩, ⟨(.some 11), .nilck (.r 10), .none⟩, ⟨(.some 12), .fadr 0 (.r 11), .none⟩, ⟨(.some 13), .ld (.r 12), .none⟩, ⟨(.some 14), .bin .eql (.r 13) (.c (.i (.ofNat (nat_lit 2)))), .none⟩])
 (.cond (.r 14) (.seq (.reg [⟨(.some 16), .mv (.r 0), .none⟩, ⟨(.some 17), .nilck (.r 16), .none⟩, ⟨(.some 18), .fadr 1 (.r 17), .none⟩, ⟨(.some 19), .ld (.r 18), .none⟩, ⟨(.some 20), .call 37 [(.r 19)], .none⟩, ⟨(.some 15), .mv (.r 20), .none⟩, ⟨(.some 21), .ext (.r 15) 0, .none⟩, ⟨(.some 22), .ext (.r 15) 1, .none⟩, ⟨(.some 4), .mv (.r 21), .none⟩, ⟨(.some 5), .mv (.r 22), .none⟩])
 (.seq (.reg [⟨(.some 24), .mv (.r 0), .none⟩, ⟨(.some 25), .nilck (.r 24), .none⟩, ⟨(.some 26), .fadr 2 (.r 25), .none⟩, ⟨(.some 27), .ld (.r 26), .none⟩, ⟨(.some 28), .call 69 [(.r 27)], .none⟩, ⟨(.some 23), .mv (.r 28), .none⟩, ⟨(.some 29), .ext (.r 23) 0, .none⟩, ⟨(.some 30), .ext (.r 23) 1, .none⟩, ⟨(.some 6), .mv (.r 29), .none⟩, ⟨(.some 7), .mv (.r 30), .none⟩])
 (.seq (.reg [⟨(.some 31), .mv (.r 4), .none⟩, ⟨(.some 32), .bslice 3 1 1 [(.i (.ofNat (nat_lit 0)))] [(0, 1, (.c (.i (.ofNat (nat_lit 3)))))], .none⟩, ⟨(.some 33), .app 3 1 (.r 31) (.r 32), .none⟩, ⟨(.some 34), .mv (.r 6), .none⟩, ⟨(.some 35), .app 3 1 (.r 33) (.r 34), .none⟩, ⟨(.some 36), .mv (.r 5), .none⟩, ⟨(.some 37), .bin .add (.c (.s 3 (nat_lit 2126888))) (.r 36), .none⟩, ⟨(.some 38), .bin .add (.r 37) (.c (.s 5 (nat_lit 138096027424))), .none⟩, ⟨(.some 39), .mv (.r 7), .none⟩, ⟨(.some 40), .bin .add (.r 38) (.r 39), .none⟩, ⟨(.some 41), .bin .add (.r 40) (.c (.s 1 (nat_lit 41))), .none⟩, ⟨(.some 2), .mv (.r 35), .none⟩, ⟨(.some 3), .mv (.r 41), .none⟩])
 .ret))) .skip))
 (.seq (.reg [⟨(.some 43), .mv (.r 0), .none⟩, ⟨(.some 44), .call 69 [(.r 43)], .none⟩, ⟨(.some 42), .mv (.r 44), .none⟩, ⟨(.some 45), .ext (.r 42) 0, .none⟩, ⟨(.some 46), .ext (.r 42) 1, .none⟩, ⟨(.some 8), .mv (.r 45), .none⟩, ⟨(.some 9), .mv (.r 46), .none⟩])
 (.seq (.reg [⟨(.some 47), .mv (.r 8), .none⟩, ⟨(.some 48), .mv (.r 9), .none⟩, ⟨(.some 49), .bin .add (.c (.s 3 (nat_lit 2126888))) (.r 48), .none⟩, ⟨(.some 50), .bin .add (.r 49) (.c (.s 1 (nat_lit 41))), .none⟩, ⟨(.some 2), .mv (.r 47), .none⟩, ⟨(.some 3), .mv (.r 50), .none⟩])
 .ret)))), 51, [.tmp 2, .tmp 3]⟩
theorem AxZok37 : cfOf AxZ 37 = some AxZc37 := by kernel_rfl
/- conch/gtok.All -/
noncomputable def AxZc38 : CF := ⟨(.seq (.reg [⟨(.some 2), .mv (.c .nils), .none⟩, ⟨(.some 3), .mv (.c .nili), .none⟩])
 (.scope (.seq (.seq (.reg [⟨(.some 9), .mv (.r 0), .none⟩, ⟨(.some 10), .lenStr (.r 9), .none⟩, ⟨(.some 11), .bin .gtr (.r 10) (.c (.i (.ofNat (nat_lit 8192)))), .none⟩])
 (.cond (.r 11) (.seq (.reg [⟨(.some 12), .call 40 [(.c (.i (.ofNat (nat_lit 5)))), (.c (.i (.ofNat (nat_lit 0))))], .none⟩, ⟨(.some 2), .mv (.c .nils), .none⟩, ⟨(.some 3), .mv (.r 12), .none⟩])
 .ret) .skip))
 (.seq (.reg [⟨(.some 4), .mv (.c .nils), .none⟩])
 (.seq (.reg [⟨(.some 5), .mv (.c (.i (.ofNat (nat_lit 0)))), .none⟩])
 (.seq (.label 0)
 (.seq (.block 0 (.loop (.block 1 (.seq (.seq (.reg [⟨(.some 13), .mv (.r 5), .none⟩, ⟨(.some 14), .mv (.r 0), .none⟩, ⟨(.some 15), .lenStr (.r 14), .none⟩, ⟨(.some 16), .bin .geq (.r 13) (.r 15), .none⟩])
 (.cond (.r 16) (.exit 0) .skip))
 (.seq (.reg [⟨(.some 18), .mv (.r 0), .none⟩, ⟨(.some 19), .mv (.r 5), .none⟩, ⟨(.some 20), .call 70 [(.r 18), (.r 19)], .none⟩, ⟨(.some 17), .mv (.r 20), .none⟩, ⟨(.some 21), .ext (.r 17) 0, .none⟩, ⟨(.some 22), .ext (.r 17) 1, .none⟩, ⟨(.some 23), .ext (.r 17) 2, .none⟩, ⟨(.some 6), .mv (.r 21), .none⟩, ⟨(.some 7), .mv (.r 22), .none⟩, ⟨(.some 8), .mv (.r 23), .none⟩])
 (.seq (.seq (.reg [⟨(.some 24), .mv (.r 8), .none⟩, ⟨(.some 25), .eq .iface true (.r 24) (.c .nili), .none⟩])
 (.cond (.r 25) (.seq (.reg [⟨(.some 26), .mv (.r 8), .none⟩, ⟨(.some 2), .mv (.c .nils), .none⟩, ⟨(.some 3), .mv (.r 26), .none⟩])
 .ret) .skip))
 (.seq (.seq (.reg [⟨(.some 27), .mv (.r 6), .none⟩, ⟨(.some 28), .bin .neq (.r 27) (.c (.i (.ofNat (nat_lit 0)))), .none⟩])
 (.cond (.r 28) (.reg [⟨(.some 29), .mv (.r 4), .none⟩, ⟨(.some 30), .mv (.r 6), .none⟩, ⟨(.some 31), .mv (.r 0), .none⟩, ⟨(.some 32), .mv (.r 5), .none⟩, ⟨(.some 33), .mv (.r 5), .none⟩, ⟨(.some 34), .mv (.r 7), .none⟩, ⟨(.some 35), .bin .add (.r 33) (.r 34), .none⟩, ⟨(.some 36), .slStr (.r 31) (.some (.r 32)) (.some (.r 35)), .none⟩, ⟨(.some 37), .mv (.r 5), .none⟩, ⟨(.some 38), .build [(.i (.ofNat (nat_lit 0))), (.s 0 (nat_lit 0)), (.i (.ofNat (nat_lit 0)))] [(0, 1, (.r 30)), (1, 1, (.r 36)), (2, 1, (.r 37))], .none⟩, ⟨(.some 39), .bslice 158 3 1 [(.i (.ofNat (nat_lit 0))), (.s 0 (nat_lit 0)), (.i (.ofNat (nat_lit 0)))] [(0, 3, (.r 38))], .none⟩, ⟨(.some 40), .app 158 3 (.r 29) (.r 39), .none⟩, ⟨(.some 4), .mv (.r 40), .none⟩]) .skip))
 (.reg [⟨(.some 41), .mv (.r 5), .none⟩, ⟨(.some 42), .mv (.r 7), .none⟩, ⟨(.some 43), .bin .add (.r 41) (.r 42), .none⟩, ⟨(.some 5), .mv (.r 43), .none⟩]))))))))
 (.seq (.reg [⟨(.some 44), .mv (.r 4), .none⟩, ⟨(.some 45), .mv (.r 0), .none⟩, ⟨(.some 46), .lenStr (.r 45), .none⟩, ⟨(.some 47), .build [(.i (.ofNat (nat_lit 0))), (.s 0 (nat_lit 0)), (.i (.ofNat (nat_lit 0)))] [(0, 1, (.c (.i (.ofNat (nat_lit 0))))), (2, 1, (.r 46))], .none⟩, ⟨(.some 48), .bslice 158 3 1 [(.i (.ofNat (nat_lit 0))), (.s 0 (nat_lit 0)), (.i (.ofNat (nat_lit 0)))] [(0, 3, (.r 47))], .none⟩, ⟨(.some 49), .app 158 3 (.r 44) (.r 48), .none⟩, ⟨(.some 2), .mv (.r 49), .none⟩, ⟨(.some 3), .mv (.c .nili), .none⟩])
 .ret)))))))), 50, [.tmp 2, .tmp 3]⟩
theorem AxZok38 : cfOf AxZ 38 = some AxZc38 := by kernel_rfl
/- conch/gread.Parse$1 -/
noncomputable def AxZc39 : CF := ⟨(.seq (.reg [⟨(.some 5), .recover, .none⟩])
 (.block 0 (.seq (.reg [⟨(.some 7), .eq .iface false (.r 5) (.c .nili), .none⟩])
 (.cond (.r 7) (.reg [⟨(.some 2), .mv (.r 5), .none⟩]) (.seq (.reg [⟨(.some 8), .tas (.agg [(.i (.ofNat (nat_lit 0))), (.i (.ofNat (nat_lit 0)))]) 93 true (.r 5), .none⟩, ⟨(.some 9), .ext (.r 8) 1, .none⟩, ⟨(.some 10), .ext (.r 8) 0, .none⟩])
 (.cond (.r 9) (.seq (.reg [⟨(.some 3), .alloc 93 [(.i (.ofNat (nat_lit 0))), (.i (.ofNat (nat_lit 0)))], .none⟩, ⟨.none, .st 2 (.r 3) (.r 10), .none⟩])
 (.reg [⟨(.some 11), .build [.nils, .nils, .nils, (.i (.ofNat (nat_lit 0)))] [], .none⟩, ⟨(.some 12), .fadr 0 (.r 3), .none⟩, ⟨(.some 13), .ld (.r 12), .none⟩, ⟨(.some 14), .fadr 1 (.r 3), .none⟩, ⟨(.some 15), .ld (.r 14), .none⟩, ⟨(.some 16), .call 40 [(.r 13), (.r 15)], .none⟩, ⟨.none, .st 4 (.r 0) (.r 11), .none⟩, ⟨.none, .st 1 (.r 1) (.r 16), .none⟩])) (.seq (.reg [⟨(.some 4), .mv (.r 5), .none⟩])
 (.reg [⟨(.some 6), .mv (.r 4), .none⟩, ⟨.none, .bad, .none⟩])))))))), 17, []⟩
theorem AxZok39 : cfOf AxZ 39 = some AxZc39 := by kernel_rfl
/- conch/fault.New -/
noncomputable def AxZc40 : CF := ⟨(.seq (.reg [⟨(.some 4), .mv (.c .nili), .none⟩])
 (.seq (.seq (.reg [⟨(.some 5), .mv (.r 0), .none⟩, ⟨(.some 6), .bin .eql (.r 5) (.c (.i (.ofNat (nat_lit 0)))), .none⟩])
 (.cond (.r 6) (.seq (.reg [⟨(.some 4), .mv (.c .nili), .none⟩])
 .ret) .skip))
 (.seq (.reg [⟨(.some 7), .mv (.r 0), .none⟩, ⟨(.some 8), .mv (.r 1), .none⟩, ⟨(.some 9), .build [(.i (.ofNat (nat_lit 0))), (.i (.ofNat (nat_lit 0)))] [(0, 1, (.r 7)), (1, 1, (.r 8))], .none⟩, ⟨(.some 10), .box 161 (.r 9), .none⟩, ⟨(.some 11), .mkIf 159 (.r 10), .none⟩, ⟨(.some 4), .mv (.r 11), .none⟩])
 .ret))), 12, [.tmp 4]⟩
theorem AxZok40 : cfOf AxZ 40 = some AxZc40 := by kernel_rfl
/- (*conch/gread.reader).form -/
noncomputable def AxZc41 : CF := ⟨(.seq (.block 0 (.loop (.seq (.seq (.reg [⟨(.some 2), .mv (.r 0), .none⟩, ⟨(.some 3), .call 71 [(.r 2), (.c (.i (.ofNat (nat_lit 6))))], .none⟩, ⟨(.some 4), .un .not (.r 3), .none⟩])
 (.cond (.r 4) .skip (.exit 0)))
 (.block 1 (.reg [⟨(.some 5), .mv (.r 0), .none⟩, ⟨(.some 6), .call 72 [(.r 5)], .none⟩])))))
 (.seq (.reg [⟨(.some 7), .mv (.r 0), .none⟩, ⟨(.some 8), .call 73 [(.r 7)], .none⟩])
 (.seq (.reg [⟨(.some 9), .mv (.r 0), .none⟩, ⟨(.some 10), .call 74 [(.r 9)], .none⟩])
 (.block 2 (.loop (.seq (.seq (.reg [⟨(.some 11), .mv (.r 0), .none⟩, ⟨(.some 12), .call 71 [(.r 11), (.c (.i (.ofNat (nat_lit 0))))], .none⟩, ⟨(.some 13), .un .not (.r 12), .none⟩])
 (.cond (.r 13) .skip (.exit 2)))
 (.block 3 (.reg [⟨(.some 14), .mv (.r 0), .none⟩, ⟨(.some 15), .call 74 [(.r 14)], .none⟩])))))))), 16, []⟩
theorem AxZok41 : cfOf AxZ 41 = some AxZc41 := by kernel_rfl
/- (*conch/gread.builder).build -/
noncomputable def AxZc42 : CF := ⟨(.seq (.reg [⟨(.some 2), .alloc 53 [.nils, .nils, .nils, (.i (.ofNat (nat_lit 0)))], .none⟩])
 (.seq (.reg [⟨(.some 13), .mv (.r 0), .none⟩, ⟨(.some 14), .call 75 [(.r 13)], .none⟩])
 (.seq (.reg [⟨(.some 15), .mv (.r 0), .none⟩, ⟨(.some 16), .nilck (.r 15), .none⟩, ⟨(.some 17), .fadr 3 (.r 16), .none⟩, ⟨(.some 18), .fadr 0 (.r 17), .none⟩, ⟨(.some 19), .ld (.r 18), .none⟩, ⟨(.some 20), .lenSl (.r 19), .none⟩, ⟨(.some 3), .mv (.r 20), .none⟩])
 (.seq (.seq (.reg [⟨(.some 21), .mv (.r 0), .none⟩, ⟨(.some 22), .nilck (.r 21), .none⟩, ⟨(.some 23), .fadr 0 (.r 22), .none⟩, ⟨(.some 24), .ld (.r 23), .none⟩, ⟨(.some 25), .nilck (.r 24), .none⟩, ⟨(.some 26), .fadr 4 (.r 25), .none⟩, ⟨(.some 27), .ld (.r 26), .none⟩, ⟨(.some 28), .lenSl (.r 27), .none⟩, ⟨(.some 29), .mv (.c (.i (.ofNat (nat_lit 0)))), .none⟩])
 (.block 0 (.loop (.seq (.reg [⟨(.some 30), .bin .lss (.r 29) (.r 28), .none⟩])
 (.seq (.cond (.r 30) .skip (.exit 0))
 (.seq (.block 1 (.seq (.reg [⟨(.some 31), .ixSl 4 (.r 27) (.r 29), .none⟩, ⟨(.some 32), .lda 4 (.r 31), .none⟩, ⟨(.some 5), .alloc 165 [(.i (.ofNat (nat_lit 0))), (.s 0 (nat_lit 0)), (.i (.ofNat (nat_lit 0))), .nils], .none⟩, ⟨.none, .st 4 (.r 5) (.r 32), .none⟩])
 (.seq (.reg [⟨(.some 33), .mv (.r 0), .none⟩, ⟨(.some 34), .fadr 0 (.r 5), .none⟩, ⟨(.some 35), .lda 3 (.r 34), .none⟩, ⟨(.some 36), .mv (.r 3), .none⟩, ⟨(.some 37), .call 76 [(.r 33), (.r 35), (.r 36)], .none⟩])
 (.seq (.reg [⟨(.some 38), .fadr 3 (.r 5), .none⟩, ⟨(.some 39), .ld (.r 38), .none⟩, ⟨(.some 40), .lenSl (.r 39), .none⟩, ⟨(.some 41), .mv (.c (.i (.ofNat (nat_lit 0)))), .none⟩])
 (.block 2 (.loop (.seq (.reg [⟨(.some 42), .bin .lss (.r 41) (.r 40), .none⟩])
 (.seq (.cond (.r 42) .skip (.exit 2))
 (.seq (.block 3 (.seq (.reg [⟨(.some 43), .ixSl 2 (.r 39) (.r 41), .none⟩, ⟨(.some 44), .lda 2 (.r 43), .none⟩, ⟨(.some 7), .alloc 168 [.nils, (.i (.ofNat (nat_lit 0)))], .none⟩, ⟨.none, .st 2 (.r 7) (.r 44), .none⟩])
 (.reg [⟨(.some 45), .mv (.r 0), .none⟩, ⟨(.some 46), .fadr 0 (.r 5), .none⟩, ⟨(.some 47), .fadr 1 (.r 46), .none⟩, ⟨(.some 48), .ld (.r 47), .none⟩, ⟨(.some 49), .lda 2 (.r 7), .none⟩, ⟨(.some 50), .call 77 [(.r 45), (.r 48), (.r 49)], .none⟩])))
 (.reg [⟨(.some 51), .bin .add (.r 41) (.c (.i (.ofNat (nat_lit 1)))), .none⟩, ⟨(.some 41), .mv (.r 51), .none⟩]))))))))))
 (.reg [⟨(.some 52), .bin .add (.r 29) (.c (.i (.ofNat (nat_lit 1)))), .none⟩, ⟨(.some 29), .mv (.r 52), .none⟩])))))))
 (.seq (.seq (.reg [⟨(.some 53), .mv (.r 0), .none⟩, ⟨(.some 54), .nilck (.r 53), .none⟩, ⟨(.some 55), .fadr 7 (.r 54), .none⟩, ⟨(.some 56), .ld (.r 55), .none⟩, ⟨(.some 57), .lenSl (.r 56), .none⟩, ⟨(.some 58), .mv (.c (.i (.ofNat (nat_lit 0)))), .none⟩])
 (.block 4 (.loop (.seq (.reg [⟨(.some 59), .bin .lss (.r 58) (.r 57), .none⟩])
 (.seq (.cond (.r 59) .skip (.exit 4))
 (.seq (.block 5 (.seq (.reg [⟨(.some 60), .ixSl 1 (.r 56) (.r 58), .none⟩, ⟨(.some 61), .ld (.r 60), .none⟩, ⟨(.some 9), .mv (.r 61), .none⟩])
 (.seq (.dreg [(⟨(.some 62), .mv (.r 0), .none⟩, false), (⟨(.some 63), .nilck (.r 62), .none⟩, false), (⟨(.some 64), .fadr 3 (.r 63), .none⟩, false), (⟨(.some 65), .lda 4 (.r 64), .none⟩, false), (⟨(.some 66), .mv (.r 9), .none⟩, false), (⟨(.some 67), .ixSl 1 (.r 66) (.c (.i (.ofNat (nat_lit 0)))), .none⟩, false), (⟨(.some 68), .ld (.r 67), .none⟩, false), (⟨(.some 69), .call 78 [(.r 65), (.r 68)], .none⟩, true), (⟨(.some 70), .build [(.i (.ofNat (nat_lit 0))), .nils] [(0, 1, (.r 69))], .none⟩, false), (⟨(.some 10), .alloc 149 [(.i (.ofNat (nat_lit 0))), .nils], .none⟩, true), (⟨.none, .st 2 (.r 10) (.r 70), .none⟩, true)] [])
 (.seq (.seq (.reg [⟨(.some 71), .mv (.r 9), .none⟩, ⟨(.some 72), .slSl 1 (.r 71) (.some (.c (.i (.ofNat (nat_lit 1))))) .none .none, .none⟩, ⟨(.some 73), .lenSl (.r 72), .none⟩, ⟨(.some 74), .mv (.c (.i (.ofNat (nat_lit 0)))), .none⟩])
 (.block 6 (.loop (.seq (.reg [⟨(.some 75), .bin .lss (.r 74) (.r 73), .none⟩])
 (.seq (.cond (.r 75) .skip (.exit 6))
 (.seq (.block 7 (.seq (.reg [⟨(.some 76), .ixSl 1 (.r 72) (.r 74), .none⟩, ⟨(.some 77), .ld (.r 76), .none⟩, ⟨(.some 12), .mv (.r 77), .none⟩])
 (.dreg [(⟨(.some 78), .fadr 1 (.r 10), .none⟩, false), (⟨(.some 79), .ld (.r 78), .none⟩, false), (⟨(.some 80), .mv (.r 0), .none⟩, false), (⟨(.some 81), .nilck (.r 80), .none⟩, false), (⟨(.some 82), .fadr 3 (.r 81), .none⟩, false), (⟨(.some 83), .lda 4 (.r 82), .none⟩, false), (⟨(.some 84), .mv (.r 12), .none⟩, false), (⟨(.some 85), .call 78 [(.r 83), (.r 84)], .none⟩, true), (⟨(.some 86), .bslice 3 1 1 [(.i (.ofNat (nat_lit 0)))] [(0, 1, (.r 85))], .none⟩, true), (⟨(.some 87), .app 3 1 (.r 79) (.r 86), .none⟩, true), (⟨(.some 88), .fadr 1 (.r 10), .none⟩, false), (⟨.none, .st 1 (.r 88) (.r 87), .none⟩, true)] [(⟨(.some 79), .ld (.r 78), .none⟩, 0, 3)])))
 (.reg [⟨(.some 89), .bin .add (.r 74) (.c (.i (.ofNat (nat_lit 1)))), .none⟩, ⟨(.some 74), .mv (.r 89), .none⟩])))))))
 (.dreg [(⟨(.some 90), .mv (.r 0), .none⟩, false), (⟨(.some 91), .mv (.r 0), .none⟩, false), (⟨(.some 92), .nilck (.r 91), .none⟩, false), (⟨(.some 93), .fadr 3 (.r 92), .none⟩, false), (⟨(.some 94), .fadr 2 (.r 93), .none⟩, false), (⟨(.some 95), .ld (.r 94), .none⟩, false), (⟨(.some 96), .lda 2 (.r 10), .none⟩, false), (⟨(.some 97), .bslice 149 2 1 [(.i (.ofNat (nat_lit 0))), .nils] [(0, 2, (.r 96))], .none⟩, true), (⟨(.some 98), .app 149 2 (.r 95) (.r 97), .none⟩, true), (⟨(.some 99), .nilck (.r 90), .none⟩, false), (⟨(.some 100), .fadr 3 (.r 99), .none⟩, false), (⟨(.some 101), .fadr 2 (.r 100), .none⟩, false), (⟨.none, .st 1 (.r 101) (.r 98), .none⟩, true)] [(⟨(.some 95), .ld (.r 94), .none⟩, 0, 2)])))))
 (.reg [⟨(.some 102), .bin .add (.r 58) (.c (.i (.ofNat (nat_lit 1)))), .none⟩, ⟨(.some 58), .mv (.r 102), .none⟩])))))))
 (.seq (.reg [⟨(.some 103), .mv (.r 0), .none⟩, ⟨(.some 104), .mv (.r 0), .none⟩, ⟨(.some 105), .nilck (.r 104), .none⟩, ⟨(.some 106), .fadr 3 (.r 105), .none⟩, ⟨(.some 107), .fadr 0 (.r 106), .none⟩, ⟨(.some 108), .ld (.r 107), .none⟩, ⟨(.some 109), .lenSl (.r 108), .none⟩, ⟨(.some 110), .bin .add (.r 109) (.c (.i (.ofNat (nat_lit 1)))), .none⟩, ⟨(.some 111), .nilck (.r 103), .none⟩, ⟨(.some 112), .fadr 3 (.r 111), .none⟩, ⟨(.some 113), .fadr 3 (.r 112), .none⟩, ⟨.none, .st 1 (.r 113) (.r 110), .none⟩])
 (.seq (.seq (.reg [⟨(.some 114), .mv (.r 0), .none⟩, ⟨(.some 115), .nilck (.r 114), .none⟩, ⟨(.some 116), .fadr 0 (.r 115), .none⟩, ⟨(.some 117), .ld (.r 116), .none⟩, ⟨(.some 118), .nilck (.r 117), .none⟩, ⟨(.some 119), .fadr 3 (.r 118), .none⟩, ⟨(.some 120), .ld (.r 119), .none⟩, ⟨(.some 121), .lenSl (.r 120), .none⟩, ⟨(.some 122), .bin .gtr (.r 121) (.c (.i (.ofNat (nat_lit 0)))), .none⟩])
 (.cond (.r 122) (.dreg [(⟨(.some 123), .mv (.r 0), .none⟩, false), (⟨(.some 124), .mv (.r 0), .none⟩, false), (⟨(.some 125), .nilck (.r 124), .none⟩, false), (⟨(.some 126), .fadr 3 (.r 125), .none⟩, false), (⟨(.some 127), .lda 4 (.r 126), .none⟩, false), (⟨(.some 128), .mv (.r 0), .none⟩, false), (⟨(.some 129), .nilck (.r 128), .none⟩, false), (⟨(.some 130), .fadr 0 (.r 129), .none⟩, false), (⟨(.some 131), .ld (.r 130), .none⟩, false), (⟨(.some 132), .nilck (.r 131), .none⟩, false), (⟨(.some 133), .fadr 3 (.r 132), .none⟩, false), (⟨(.some 134), .ld (.r 133), .none⟩, false), (⟨(.some 135), .ixSl 3 (.r 134) (.c (.i (.ofNat (nat_lit 0)))), .none⟩, false), (⟨(.some 136), .fadr 1 (.r 135), .none⟩, false), (⟨(.some 137), .ld (.r 136), .none⟩, false), (⟨(.some 138), .call 78 [(.r 127), (.r 137)], .none⟩, true), (⟨(.some 139), .nilck (.r 123), .none⟩, false), (⟨(.some 140), .fadr 3 (.r 139), .none⟩, false), (⟨(.some 141), .fadr 3 (.r 140), .none⟩, false), (⟨.none, .st 1 (.r 141) (.r 138), .none⟩, true)] []) .skip))
 (.seq (.reg [⟨(.some 142), .mv (.r 0), .none⟩, ⟨(.some 143), .nilck (.r 142), .none⟩, ⟨(.some 144), .fadr 3 (.r 143), .none⟩, ⟨(.some 145), .lda 4 (.r 144), .none⟩, ⟨.none, .st 4 (.r 2) (.r 145), .none⟩])
 .ret)))))))), 146, [.cell 2 4 true]⟩
theorem AxZok42 : cfOf AxZ 42 = some AxZc42 := by kernel_rfl
/- conch/acts.Of -/
noncomputable def AxZc43 : CF := ⟨(.seq (.reg [⟨(.some 1), .box 53 (.r 0), .none⟩, ⟨(.some 2), .alloc 78 [.nils, (.i (.ofNat (nat_lit 0))), (.i (.ofNat (nat_lit 0))), .nils, .nils], .none⟩, ⟨(.some 3), .mv (.c (.i (.ofNat (nat_lit 0)))), .none⟩])
 (.seq (.reg [⟨(.some 18), .lda 4 (.r 1), .none⟩, ⟨(.some 19), .call 79 [(.r 18)], .none⟩, ⟨(.some 17), .mv (.r 19), .none⟩, ⟨(.some 20), .ext (.r 17) 0, .none⟩, ⟨(.some 21), .ext (.r 17) 1, .none⟩, ⟨(.some 4), .alloc 173 [(.i (.ofNat (nat_lit 0))), .nils, .nils], .none⟩, ⟨.none, .st 3 (.r 4) (.r 20), .none⟩, ⟨(.some 5), .mv (.r 21), .none⟩])
 (.seq (.block 0 (.seq (.reg [⟨(.some 23), .mv (.r 5), .none⟩, ⟨(.some 24), .bin .neq (.r 23) (.c (.i (.ofNat (nat_lit 0)))), .none⟩, ⟨(.some 22), .mv (.r 24), .none⟩])
 (.cond (.r 22) (.seq (.reg [⟨(.some 25), .build [.nils, (.i (.ofNat (nat_lit 0))), (.i (.ofNat (nat_lit 0))), .nils, .nils] [], .none⟩, ⟨(.some 26), .mv (.r 5), .none⟩, ⟨.none, .st 5 (.r 2) (.r 25), .none⟩, ⟨(.some 3), .mv (.r 26), .none⟩])
 .ret) (.seq (.reg [⟨(.some 28), .lda 3 (.r 4), .none⟩, ⟨(.some 29), .fadr 0 (.r 1), .none⟩, ⟨(.some 30), .ld (.r 29), .none⟩, ⟨(.some 31), .lenSl (.r 30), .none⟩, ⟨(.some 32), .call 80 [(.r 28), (.r 31)], .none⟩, ⟨(.some 33), .lenSl (.r 32), .none⟩, ⟨(.some 34), .bin .gtr (.r 33) (.c (.i (.ofNat (nat_lit 0)))), .none⟩, ⟨(.some 27), .mv (.r 34), .none⟩])
 (.cond (.r 27) (.seq (.reg [⟨(.some 35), .build [.nils, (.i (.ofNat (nat_lit 0))), (.i (.ofNat (nat_lit 0))), .nils, .nils] [], .none⟩, ⟨.none, .st 5 (.r 2) (.r 35), .none⟩, ⟨(.some 3), .mv (.c (.i (.ofNat (nat_lit 12)))), .none⟩])
 .ret) .skip)))))
 (.seq (.reg [⟨(.some 36), .fadr 0 (.r 1), .none⟩, ⟨(.some 37), .ld (.r 36), .none⟩, ⟨(.some 38), .lenSl (.r 37), .none⟩, ⟨(.some 39), .fadr 1 (.r 1), .none⟩, ⟨(.some 40), .ld (.r 39), .none⟩, ⟨(.some 41), .lenSl (.r 40), .none⟩, ⟨(.some 42), .build [.nils, (.i (.ofNat (nat_lit 0))), (.i (.ofNat (nat_lit 0))), .nils, .nils] [(1, 1, (.r 38)), (2, 1, (.r 41))], .none⟩, ⟨(.some 6), .alloc 78 [.nils, (.i (.ofNat (nat_lit 0))), (.i (.ofNat (nat_lit 0))), .nils, .nils], .none⟩, ⟨.none, .st 5 (.r 6) (.r 42), .none⟩])
 (.seq (.seq (.reg [⟨(.some 43), .fadr 2 (.r 1), .none⟩, ⟨(.some 44), .ld (.r 43), .none⟩, ⟨(.some 45), .lenSl (.r 44), .none⟩, ⟨(.some 46), .bin .add (.r 45) (.c (.i (.ofNat (nat_lit 1)))), .none⟩, ⟨(.some 47), .mv (.c (.i (.ofNat (nat_lit 0)))), .none⟩])
 (.block 1 (.loop (.seq (.reg [⟨(.some 48), .bin .lss (.r 47) (.r 46), .none⟩])
 (.seq (.cond (.r 48) .skip (.exit 1))
 (.seq (.block 2 (.seq (.reg [⟨(.some 49), .mv (.r 47), .none⟩, ⟨(.some 7), .mv (.r 49), .none⟩])
 (.seq (.reg [⟨(.some 51), .lda 4 (.r 1), .none⟩, ⟨(.some 52), .mv (.r 7), .none⟩, ⟨(.some 53), .call 81 [(.r 51), (.r 52)], .none⟩, ⟨(.some 50), .mv (.r 53), .none⟩, ⟨(.some 54), .ext (.r 50) 0, .none⟩, ⟨(.some 55), .ext (.r 50) 1, .none⟩, ⟨(.some 8), .alloc 149 [(.i (.ofNat (nat_lit 0))), .nils], .none⟩, ⟨.none, .st 2 (.r 8) (.r 54), .none⟩, ⟨(.some 9), .mv (.r 55), .none⟩])
 (.reg [⟨(.some 56), .fadr 0 (.r 6), .none⟩, ⟨(.some 57), .ld (.r 56), .none⟩, ⟨(.some 58), .lda 2 (.r 8), .none⟩, ⟨(.some 59), .bslice 149 2 1 [(.i (.ofNat (nat_lit 0))), .nils] [(0, 2, (.r 58))], .none⟩, ⟨(.some 60), .app 149 2 (.r 57) (.r 59), .none⟩, ⟨(.some 61), .fadr 0 (.r 6), .none⟩, ⟨.none, .st 1 (.r 61) (.r 60), .none⟩]))))
 (.reg [⟨(.some 62), .bin .add (.r 47) (.c (.i (.ofNat (nat_lit 1)))), .none⟩, ⟨(.some 47), .mv (.r 62), .none⟩])))))))
 (.seq (.seq (.reg [⟨(.some 63), .fadr 1 (.r 4), .none⟩, ⟨(.some 64), .ld (.r 63), .none⟩, ⟨(.some 65), .lenSl (.r 64), .none⟩, ⟨(.some 66), .mv (.c (.i (.ofNat (nat_lit 0)))), .none⟩])
 (.block 3 (.loop (.seq (.reg [⟨(.some 67), .bin .lss (.r 66) (.r 65), .none⟩])
 (.seq (.cond (.r 67) .skip (.exit 3))
 (.seq (.block 4 (.seq (.reg [⟨(.some 68), .mv (.r 66), .none⟩, ⟨(.some 69), .ixSl 2 (.r 64) (.r 66), .none⟩, ⟨(.some 70), .lda 2 (.r 69), .none⟩, ⟨(.some 11), .alloc 183 [.nils, .nils], .none⟩, ⟨(.some 10), .mv (.r 68), .none⟩, ⟨.none, .st 2 (.r 11) (.r 70), .none⟩])
 (.seq (.reg [⟨(.some 71), .fadr 1 (.r 6), .none⟩, ⟨(.some 72), .ld (.r 71), .none⟩, ⟨(.some 73), .bin .add (.r 72) (.c (.i (.ofNat (nat_lit 1)))), .none⟩, ⟨(.some 74), .mkSl 83 2 [(.i (.ofNat (nat_lit 0))), (.i (.ofNat (nat_lit 0)))] (.r 73) (.r 73), .none⟩, ⟨(.some 12), .alloc 184 [.nils], .none⟩, ⟨.none, .st 1 (.r 12) (.r 74), .none⟩])
 (.seq (.seq (.reg [⟨(.some 75), .ld (.r 12), .none⟩, ⟨(.some 76), .lenSl (.r 75), .none⟩, ⟨(.some 77), .mv (.c (.i (.ofNat (nat_lit 0)))), .none⟩])
 (.block 5 (.loop (.seq (.reg [⟨(.some 78), .bin .lss (.r 77) (.r 76), .none⟩])
 (.seq (.cond (.r 78) .skip (.exit 5))
 (.seq (.block 6 (.seq (.reg [⟨(.some 79), .mv (.r 77), .none⟩, ⟨(.some 13), .alloc 3 [(.i (.ofNat (nat_lit 0)))], .none⟩, ⟨.none, .st 1 (.r 13) (.r 79), .none⟩])
 (.seq (.dreg [(⟨(.some 80), .fadr 0 (.r 4), .none⟩, false), (⟨(.some 81), .ld (.r 80), .none⟩, false), (⟨(.some 82), .lda 2 (.r 11), .none⟩, false), (⟨(.some 83), .fadr 2 (.r 4), .none⟩, false), (⟨(.some 84), .ld (.r 83), .none⟩, false), (⟨(.some 85), .mv (.r 10), .none⟩, false), (⟨(.some 86), .ixSl 1 (.r 84) (.r 85), .none⟩, false), (⟨(.some 87), .ld (.r 86), .none⟩, false), (⟨(.some 88), .ld (.r 13), .none⟩, false), (⟨(.some 89), .call 82 [(.r 81), (.r 82), (.r 87), (.r 88)], .none⟩, true)] [])
 (.block 7 (.rng (.r 89) [90] (.reg [⟨(.some 14), .alloc 83 [(.i (.ofNat (nat_lit 0))), (.i (.ofNat (nat_lit 0)))], .none⟩, ⟨.none, .st 2 (.r 14) (.r 90), .none⟩]) (.block 8 (.seq (.reg [⟨(.some 91), .ld (.r 12), .none⟩, ⟨(.some 92), .ld (.r 13), .none⟩, ⟨(.some 93), .lda 2 (.r 14), .none⟩, ⟨(.some 94), .ixSl 2 (.r 91) (.r 92), .none⟩, ⟨.none, .st 2 (.r 94) (.r 93), .none⟩])
 (.exit 7))))))))
 (.reg [⟨(.some 95), .bin .add (.r 77) (.c (.i (.ofNat (nat_lit 1)))), .none⟩, ⟨(.some 77), .mv (.r 95), .none⟩])))))))
 (.seq (.reg [⟨(.some 96), .fadr 2 (.r 6), .none⟩, ⟨(.some 97), .ld (.r 96), .none⟩, ⟨(.some 98), .mkSl 3 1 [(.i (.ofNat (nat_lit 0)))] (.r 97) (.r 97), .none⟩, ⟨(.some 15), .mv (.r 98), .none⟩])
 (.seq (.seq (.reg [⟨(.some 99), .mv (.r 15), .none⟩, ⟨(.some 100), .lenSl (.r 99), .none⟩, ⟨(.some 101), .mv (.c (.i (.ofNat (nat_lit 0)))), .none⟩])
 (.block 9 (.loop (.seq (.reg [⟨(.some 102), .bin .lss (.r 101) (.r 100), .none⟩])
 (.seq (.cond (.r 102) .skip (.exit 9))
 (.seq (.block 10 (.seq (.reg [⟨(.some 103), .mv (.r 101), .none⟩, ⟨(.some 16), .mv (.r 103), .none⟩])
 (.reg [⟨(.some 104), .mv (.r 15), .none⟩, ⟨(.some 105), .mv (.r 16), .none⟩, ⟨(.some 106), .fadr 1 (.r 4), .none⟩, ⟨(.some 107), .ld (.r 106), .none⟩, ⟨(.some 108), .mv (.r 10), .none⟩, ⟨(.some 109), .fadr 1 (.r 6), .none⟩, ⟨(.some 110), .ld (.r 109), .none⟩, ⟨(.some 111), .bin .add (.r 110) (.c (.i (.ofNat (nat_lit 1)))), .none⟩, ⟨(.some 112), .mv (.r 16), .none⟩, ⟨(.some 113), .bin .add (.r 111) (.r 112), .none⟩, ⟨(.some 114), .call 83 [(.r 107), (.r 108), (.r 113)], .none⟩, ⟨(.some 115), .ixSl 1 (.r 104) (.r 105), .none⟩, ⟨.none, .st 1 (.r 115) (.r 114), .none⟩])))
 (.reg [⟨(.some 116), .bin .add (.r 101) (.c (.i (.ofNat (nat_lit 1)))), .none⟩, ⟨(.some 101), .mv (.r 116), .none⟩])))))))
 (.dreg [(⟨(.some 117), .fadr 3 (.r 6), .none⟩, false), (⟨(.some 118), .ld (.r 117), .none⟩, false), (⟨(.some 119), .ld (.r 12), .none⟩, false), (⟨(.some 122), .fadr 4 (.r 6), .none⟩, false), (⟨(.some 123), .ld (.r 122), .none⟩, false), (⟨(.some 124), .mv (.r 15), .none⟩, false), (⟨(.some 120), .bslice 184 1 1 [.nils] [(0, 1, (.r 119))], .none⟩, true), (⟨(.some 121), .app 184 1 (.r 118) (.r 120), .none⟩, true), (⟨(.some 127), .fadr 3 (.r 6), .none⟩, false), (⟨(.some 125), .bslice 22 1 1 [.nils] [(0, 1, (.r 124))], .none⟩, true), (⟨(.some 126), .app 22 1 (.r 123) (.r 125), .none⟩, true), (⟨.none, .st 1 (.r 127) (.r 121), .none⟩, true), (⟨(.some 128), .fadr 4 (.r 6), .none⟩, false), (⟨.none, .st 1 (.r 128) (.r 126), .none⟩, true)] [(⟨(.some 118), .ld (.r 117), .none⟩, 0, 2), (⟨(.some 123), .ld (.r 122), .none⟩, 0, 4)])))))))
 (.reg [⟨(.some 129), .bin .add (.r 66) (.c (.i (.ofNat (nat_lit 1)))), .none⟩, ⟨(.some 66), .mv (.r 129), .none⟩])))))))
 (.seq (.reg [⟨(.some 130), .lda 5 (.r 6), .none⟩, ⟨.none, .st 5 (.r 2) (.r 130), .none⟩, ⟨(.some 3), .mv (.c (.i (.ofNat (nat_lit 0)))), .none⟩])
 .ret))))))), 131, [.cell 2 5 true, .tmp 3]⟩
theorem AxZok43 : cfOf AxZ 43 = some AxZc43 := by kernel_rfl
/- conch/auto.Build -/
noncomputable def AxZc44 : CF := ⟨(.seq (.reg [⟨(.some 1), .box 53 (.r 0), .none⟩, ⟨(.some 2), .mv (.c .nils), .none⟩, ⟨(.some 3), .mv (.c (.i (.ofNat (nat_lit 0)))), .none⟩])
 (.seq (.seq (.reg [⟨(.some 13), .lda 4 (.r 1), .none⟩, ⟨(.some 14), .call 64 [(.r 13)], .none⟩, ⟨(.some 4), .mv (.r 14), .none⟩])
 (.seq (.reg [⟨(.some 15), .mv (.r 4), .none⟩, ⟨(.some 16), .bin .neq (.r 15) (.c (.i (.ofNat (nat_lit 0)))), .none⟩])
 (.cond (.r 16) (.seq (.reg [⟨(.some 17), .mv (.r 4), .none⟩, ⟨(.some 2), .mv (.c .nils), .none⟩, ⟨(.some 3), .mv (.r 17), .none⟩])
 .ret) .skip)))
 (.seq (.reg [⟨(.some 18), .lda 4 (.r 1), .none⟩, ⟨(.some 19), .mkMap, .none⟩, ⟨(.some 20), .mkMap, .none⟩, ⟨(.some 21), .build [.nils, .nils, .nils, (.i (.ofNat (nat_lit 0))), .nils, .nils, .nilm, .nilm] [(0, 4, (.r 18)), (6, 1, (.r 19)), (7, 1, (.r 20))], .none⟩, ⟨(.some 22), .box 194 (.r 21), .none⟩, ⟨(.some 5), .mv (.r 22), .none⟩])
 (.seq (.reg [⟨(.some 23), .mv (.r 5), .none⟩, ⟨(.some 24), .call 84 [(.r 23)], .none⟩])
 (.seq (.reg [⟨(.some 25), .mv (.r 5), .none⟩, ⟨(.some 26), .lda 4 (.r 1), .none⟩, ⟨(.some 27), .call 86 [(.r 26)], .none⟩, ⟨(.some 28), .call 85 [(.r 25), (.r 27)], .none⟩])
 (.seq (.seq (.reg [⟨(.some 6), .mv (.c (.i (.ofNat (nat_lit 0)))), .none⟩])
 (.block 0 (.loop (.seq (.seq (.reg [⟨(.some 29), .mv (.r 6), .none⟩, ⟨(.some 30), .mv (.r 5), .none⟩, ⟨(.some 31), .nilck (.r 30), .none⟩, ⟨(.some 32), .fadr 5 (.r 31), .none⟩, ⟨(.some 33), .ld (.r 32), .none⟩, ⟨(.some 34), .lenSl (.r 33), .none⟩, ⟨(.some 35), .bin .lss (.r 29) (.r 34), .none⟩])
 (.cond (.r 35) .skip (.exit 0)))
 (.seq (.block 1 (.seq (.seq (.reg [⟨(.some 38), .mv (.r 5), .none⟩, ⟨(.some 39), .mv (.r 5), .none⟩, ⟨(.some 40), .nilck (.r 39), .none⟩, ⟨(.some 41), .fadr 5 (.r 40), .none⟩, ⟨(.some 42), .ld (.r 41), .none⟩, ⟨(.some 43), .mv (.r 6), .none⟩, ⟨(.some 44), .ixSl 2 (.r 42) (.r 43), .none⟩, ⟨(.some 45), .fadr 0 (.r 44), .none⟩, ⟨(.some 46), .ld (.r 45), .none⟩, ⟨(.some 47), .call 87 [(.r 38), (.r 46)], .none⟩, ⟨(.some 48), .lenSl (.r 47), .none⟩, ⟨(.some 49), .mv (.c (.i (.ofNat (nat_lit 0)))), .none⟩])
 (.block 2 (.loop (.seq (.reg [⟨(.some 50), .bin .lss (.r 49) (.r 48), .none⟩])
 (.seq (.cond (.r 50) .skip (.exit 2))
 (.seq (.block 3 (.seq (.reg [⟨(.some 51), .mv (.r 49), .none⟩, ⟨(.some 52), .ixSl 1 (.r 47) (.r 49), .none⟩, ⟨(.some 53), .ld (.r 52), .none⟩, ⟨(.some 7), .mv (.r 51), .none⟩, ⟨(.some 8), .mv (.r 53), .none⟩])
 (.seq (.reg [⟨(.some 54), .mv (.r 8), .none⟩, ⟨(.some 55), .lenSl (.r 54), .none⟩, ⟨(.some 56), .bin .gtr (.r 55) (.c (.i (.ofNat (nat_lit 0)))), .none⟩])
 (.cond (.r 56) (.dreg [(⟨(.some 57), .mv (.r 5), .none⟩, false), (⟨(.some 58), .nilck (.r 57), .none⟩, false), (⟨(.some 59), .fadr 7 (.r 58), .none⟩, false), (⟨(.some 60), .ld (.r 59), .none⟩, false), (⟨(.some 61), .mv (.r 6), .none⟩, false), (⟨(.some 62), .mv (.r 7), .none⟩, false), (⟨(.some 63), .build [(.i (.ofNat (nat_lit 0))), (.i (.ofNat (nat_lit 0)))] [(0, 1, (.r 61)), (1, 1, (.r 62))], .none⟩, false), (⟨(.some 64), .mv (.r 5), .none⟩, false), (⟨(.some 65), .mv (.r 8), .none⟩, false), (⟨(.some 66), .call 85 [(.r 64), (.r 65)], .none⟩, true), (⟨.none, .mupd (.flat [.int, .int]) (.r 60) (.r 63) (.r 66), .none⟩, true)] [(⟨(.some 60), .ld (.r 59), .none⟩, 0, 2)]) .skip))))
 (.reg [⟨(.some 67), .bin .add (.r 49) (.c (.i (.ofNat (nat_lit 1)))), .none⟩, ⟨(.some 49), .mv (.r 67), .none⟩])))))))
 (.seq (.reg [⟨(.some 68), .mv (.r 5), .none⟩, ⟨(.some 69), .nilck (.r 68), .none⟩, ⟨(.some 70), .fadr 5 (.r 69), .none⟩, ⟨(.some 71), .ld (.r 70), .none⟩, ⟨(.some 72), .lenSl (.r 71), .none⟩, ⟨(.some 73), .bin .gtr (.r 72) (.c (.i (.ofNat (nat_lit 2000)))), .none⟩])
 (.cond (.r 73) (.seq (.reg [⟨(.some 2), .mv (.c .nils), .none⟩, ⟨(.some 3), .mv (.c (.i (.ofNat (nat_lit 7)))), .none⟩])
 .ret) .skip))))
 (.reg [⟨(.some 36), .mv (.r 6), .none⟩, ⟨(.some 37), .bin .add (.r 36) (.c (.i (.ofNat (nat_lit 1)))), .none⟩, ⟨(.some 6), .mv (.r 37), .none⟩]))))))
 (.seq (.seq (.reg [⟨(.some 74), .mv (.r 5), .none⟩, ⟨(.some 75), .nilck (.r 74), .none⟩, ⟨(.some 76), .fadr 5 (.r 75), .none⟩, ⟨(.some 77), .ld (.r 76), .none⟩, ⟨(.some 78), .lenSl (.r 77), .none⟩, ⟨(.some 79), .mv (.c (.i (.ofNat (nat_lit 0)))), .none⟩])
 (.block 4 (.loop (.seq (.reg [⟨(.some 80), .bin .lss (.r 79) (.r 78), .none⟩])
 (.seq (.cond (.r 80) .skip (.exit 4))
 (.seq (.block 5 (.seq (.reg [⟨(.some 81), .mv (.r 79), .none⟩, ⟨(.some 9), .mv (.r 81), .none⟩])
 (.seq (.reg [⟨(.some 10), .mv (.c (.i (.ofNat (nat_lit 1)))), .none⟩])
 (.block 6 (.loop (.seq (.seq (.reg [⟨(.some 82), .mv (.r 10), .none⟩, ⟨(.some 83), .lda 4 (.r 1), .none⟩, ⟨(.some 84), .call 88 [(.r 83)], .none⟩, ⟨(.some 85), .bin .leq (.r 82) (.r 84), .none⟩])
 (.cond (.r 85) .skip (.exit 6)))
 (.seq (.block 7 (.seq (.reg [⟨(.some 89), .mv (.r 5), .none⟩, ⟨(.some 90), .nilck (.r 89), .none⟩, ⟨(.some 91), .fadr 7 (.r 90), .none⟩, ⟨(.some 92), .ld (.r 91), .none⟩, ⟨(.some 93), .mv (.r 9), .none⟩, ⟨(.some 94), .mv (.r 10), .none⟩, ⟨(.some 95), .build [(.i (.ofNat (nat_lit 0))), (.i (.ofNat (nat_lit 0)))] [(0, 1, (.r 93)), (1, 1, (.r 94))], .none⟩, ⟨(.some 96), .lookup (.flat [.int, .int]) (.i (.ofNat (nat_lit 0))) true (.r 92) (.r 95), .none⟩, ⟨(.some 88), .mv (.r 96), .none⟩, ⟨(.some 97), .ext (.r 88) 0, .none⟩, ⟨(.some 98), .ext (.r 88) 1, .none⟩, ⟨(.some 11), .mv (.r 97), .none⟩, ⟨(.some 12), .mv (.r 98), .none⟩])
 (.seq (.reg [⟨(.some 99), .mv (.r 12), .none⟩])
 (.cond (.r 99) (.dreg [(⟨(.some 100), .mv (.r 5), .none⟩, false), (⟨(.some 101), .nilck (.r 100), .none⟩, false), (⟨(.some 102), .fadr 5 (.r 101), .none⟩, false), (⟨(.some 103), .ld (.r 102), .none⟩, false), (⟨(.some 104), .mv (.r 9), .none⟩, false), (⟨(.some 105), .mv (.r 5), .none⟩, false), (⟨(.some 106), .nilck (.r 105), .none⟩, false), (⟨(.some 107), .fadr 5 (.r 106), .none⟩, false), (⟨(.some 108), .ld (.r 107), .none⟩, false), (⟨(.some 109), .mv (.r 9), .none⟩, false), (⟨(.some 110), .ixSl 2 (.r 108) (.r 109), .none⟩, false), (⟨(.some 111), .fadr 1 (.r 110), .none⟩, false), (⟨(.some 112), .ld (.r 111), .none⟩, false), (⟨(.some 113), .mv (.r 10), .none⟩, false), (⟨(.some 114), .mv (.r 11), .none⟩, false), (⟨(.some 115), .build [(.i (.ofNat (nat_lit 0))), (.i (.ofNat (nat_lit 0)))] [(0, 1, (.r 113)), (1, 1, (.r 114))], .none⟩, false), (⟨(.some 116), .bslice 201 2 1 [(.i (.ofNat (nat_lit 0))), (.i (.ofNat (nat_lit 0)))] [(0, 2, (.r 115))], .none⟩, true), (⟨(.some 117), .app 201 2 (.r 112) (.r 116), .none⟩, true), (⟨(.some 118), .ixSl 2 (.r 103) (.r 104), .none⟩, false), (⟨(.some 119), .fadr 1 (.r 118), .none⟩, false), (⟨.none, .st 1 (.r 119) (.r 117), .none⟩, true)] [(⟨(.some 103), .ld (.r 102), .none⟩, 0, 3), (⟨(.some 108), .ld (.r 107), .none⟩, 0, 2), (⟨(.some 112), .ld (.r 111), .none⟩, 0, 2)]) .skip))))
 (.reg [⟨(.some 86), .mv (.r 10), .none⟩, ⟨(.some 87), .bin .add (.r 86) (.c (.i (.ofNat (nat_lit 1)))), .none⟩, ⟨(.some 10), .mv (.r 87), .none⟩]))))))))
 (.reg [⟨(.some 120), .bin .add (.r 79) (.c (.i (.ofNat (nat_lit 1)))), .none⟩, ⟨(.some 79), .mv (.r 120), .none⟩])))))))
 (.seq (.reg [⟨(.some 121), .mv (.r 5), .none⟩, ⟨(.some 122), .nilck (.r 121), .none⟩, ⟨(.some 123), .fadr 5 (.r 122), .none⟩, ⟨(.some 124), .ld (.r 123), .none⟩, ⟨(.some 2), .mv (.r 124), .none⟩, ⟨(.some 3), .mv (.c (.i (.ofNat (nat_lit 0)))), .none⟩])
 .ret)))))))), 125, [.tmp 2, .tmp 3]⟩
theorem AxZok44 : cfOf AxZ 44 = some AxZc44 := by kernel_rfl
/- conch/least.Of -/
noncomputable def AxZc45 : CF := ⟨(.seq (.reg [⟨(.some 1), .box 53 (.r 0), .none⟩, ⟨(.some 2), .mv (.c .nilp), .none⟩])
 (.seq (.seq (.reg [⟨(.some 10), .lda 4 (.r 1), .none⟩, ⟨(.some 11), .call 64 [(.r 10)], .none⟩, ⟨(.some 12), .bin .neq (.r 11) (.c (.i (.ofNat (nat_lit 0)))), .none⟩])
 (.cond (.r 12) (.seq (.reg [⟨(.some 2), .mv (.c .nilp), .none⟩])
 .ret) .skip))
 (.seq (.reg [⟨(.some 13), .lda 4 (.r 1), .none⟩, ⟨(.some 14), .call 88 [(.r 13)], .none⟩, ⟨(.some 15), .bin .add (.r 14) (.c (.i (.ofNat (nat_lit 1)))), .none⟩, ⟨(.some 16), .mkSl 206 3 [(.b false), (.b false), .nils] (.r 15) (.r 15), .none⟩, ⟨(.some 17), .build [.nils] [(0, 1, (.r 16))], .none⟩, ⟨(.some 18), .box 204 (.r 17), .none⟩, ⟨(.some 3), .mv (.r 18), .none⟩])
 (.seq (.reg [⟨(.some 19), .mv (.r 3), .none⟩, ⟨(.some 20), .nilck (.r 19), .none⟩, ⟨(.some 21), .fadr 0 (.r 20), .none⟩, ⟨(.some 22), .ld (.r 21), .none⟩, ⟨(.some 23), .ixSl 3 (.r 22) (.c (.i (.ofNat (nat_lit 0)))), .none⟩, ⟨(.some 24), .fadr 0 (.r 23), .none⟩, ⟨.none, .st 1 (.r 24) (.c (.b true)), .none⟩])
 (.seq (.seq (.reg [⟨(.some 4), .mv (.c (.i (.ofNat (nat_lit 1)))), .none⟩])
 (.block 0 (.loop (.seq (.seq (.reg [⟨(.some 25), .lda 4 (.r 1), .none⟩, ⟨(.some 26), .mv (.r 4), .none⟩, ⟨(.some 27), .call 89 [(.r 25), (.r 26)], .none⟩])
 (.cond (.r 27) .skip (.exit 0)))
 (.seq (.block 1 (.reg [⟨(.some 30), .mv (.r 3), .none⟩, ⟨(.some 31), .nilck (.r 30), .none⟩, ⟨(.some 32), .fadr 0 (.r 31), .none⟩, ⟨(.some 33), .ld (.r 32), .none⟩, ⟨(.some 34), .mv (.r 4), .none⟩, ⟨(.some 35), .mv (.r 4), .none⟩, ⟨(.some 36), .bslice 3 1 1 [(.i (.ofNat (nat_lit 0)))] [(0, 1, (.r 35))], .none⟩, ⟨(.some 37), .build [(.b false), (.b false), .nils] [(0, 1, (.c (.b true))), (2, 1, (.r 36))], .none⟩, ⟨(.some 38), .ixSl 3 (.r 33) (.r 34), .none⟩, ⟨.none, .st 3 (.r 38) (.r 37), .none⟩]))
 (.reg [⟨(.some 28), .mv (.r 4), .none⟩, ⟨(.some 29), .bin .add (.r 28) (.c (.i (.ofNat (nat_lit 1)))), .none⟩, ⟨(.some 4), .mv (.r 29), .none⟩]))))))
 (.seq (.reg [⟨(.some 39), .call 90 [], .none⟩, ⟨(.some 5), .alloc 209 [.nilf], .none⟩, ⟨.none, .st 1 (.r 5) (.r 39), .none⟩])
 (.seq (.seq (.reg [⟨(.some 6), .mv (.c (.b true)), .none⟩])
 (.block 2 (.loop (.seq (.seq (.reg [⟨(.some 40), .mv (.r 6), .none⟩])
 (.cond (.r 40) .skip (.exit 2)))
 (.block 3 (.seq (.reg [⟨(.some 6), .mv (.c (.b false)), .none⟩])
 (.seq (.reg [⟨(.some 41), .fadr 2 (.r 1), .none⟩, ⟨(.some 42), .ld (.r 41), .none⟩, ⟨(.some 43), .lenSl (.r 42), .none⟩, ⟨(.some 44), .mv (.c (.i (.ofNat (nat_lit 0)))), .none⟩])
 (.block 4 (.loop (.seq (.reg [⟨(.some 45), .bin .lss (.r 44) (.r 43), .none⟩])
 (.seq (.cond (.r 45) .skip (.exit 4))
 (.seq (.block 5 (.seq (.reg [⟨(.some 46), .ixSl 2 (.r 42) (.r 44), .none⟩, ⟨(.some 47), .lda 2 (.r 46), .none⟩, ⟨(.some 8), .alloc 149 [(.i (.ofNat (nat_lit 0))), .nils], .none⟩, ⟨.none, .st 2 (.r 8) (.r 47), .none⟩])
 (.seq (.reg [⟨(.some 48), .mv (.r 3), .none⟩, ⟨(.some 49), .fadr 1 (.r 8), .none⟩, ⟨(.some 50), .ld (.r 49), .none⟩, ⟨(.some 51), .call 91 [(.r 48), (.r 50)], .none⟩, ⟨(.some 9), .alloc 206 [(.b false), (.b false), .nils], .none⟩, ⟨.none, .st 3 (.r 9) (.r 51), .none⟩])
 (.seq (.dreg [(⟨(.some 52), .lda 1 (.r 5), .none⟩, false), (⟨(.some 53), .lda 3 (.r 9), .none⟩, false), (⟨(.some 54), .mv (.r 3), .none⟩, false), (⟨(.some 55), .nilck (.r 54), .none⟩, false), (⟨(.some 56), .fadr 0 (.r 55), .none⟩, false), (⟨(.some 57), .ld (.r 56), .none⟩, false), (⟨(.some 58), .fadr 0 (.r 8), .none⟩, false), (⟨(.some 59), .ld (.r 58), .none⟩, false), (⟨(.some 60), .ixSl 3 (.r 57) (.r 59), .none⟩, false), (⟨(.some 61), .lda 3 (.r 60), .none⟩, false), (⟨(.some 62), .call 92 [(.r 52), (.r 53), (.r 61)], .none⟩, true)] [])
 (.cond (.r 62) (.seq (.dreg [(⟨(.some 63), .mv (.r 3), .none⟩, false), (⟨(.some 64), .nilck (.r 63), .none⟩, false), (⟨(.some 65), .fadr 0 (.r 64), .none⟩, false), (⟨(.some 66), .ld (.r 65), .none⟩, false), (⟨(.some 67), .fadr 0 (.r 8), .none⟩, false), (⟨(.some 68), .ld (.r 67), .none⟩, false), (⟨(.some 69), .lda 3 (.r 9), .none⟩, false), (⟨(.some 70), .ixSl 3 (.r 66) (.r 68), .none⟩, false), (⟨.none, .st 3 (.r 70) (.r 69), .none⟩, true)] [])
 (.reg [⟨(.some 6), .mv (.c (.b true)), .none⟩])) .skip)))))
 (.reg [⟨(.some 71), .bin .add (.r 44) (.c (.i (.ofNat (nat_lit 1)))), .none⟩, ⟨(.some 44), .mv (.r 71), .none⟩])))))))))))))
 (.seq (.reg [⟨(.some 72), .mv (.r 3), .none⟩, ⟨(.some 2), .mv (.r 72), .none⟩])
 .ret)))))))), 73, [.tmp 2]⟩
theorem AxZok45 : cfOf AxZ 45 = some AxZc45 := by kernel_rfl
/- (*conch/finish.Ends).right -/
noncomputable def AxZc46 : CF := ⟨(.seq (.reg [⟨(.some 3), .box 22 (.r 1), .none⟩, ⟨(.some 4), .mv (.c (.b false)), .none⟩])
 (.seq (.seq (.reg [⟨(.some 6), .ld (.r 3), .none⟩, ⟨(.some 7), .lenSl (.r 6), .none⟩, ⟨(.some 8), .bin .eql (.r 7) (.c (.i (.ofNat (nat_lit 0)))), .none⟩, ⟨(.some 9), .mv (.r 8), .none⟩, ⟨(.some 10), .ld (.r 3), (.some (9, false))⟩, ⟨(.some 11), .ixSl 1 (.r 10) (.c (.i (.ofNat (nat_lit 0)))), (.some (9, false))⟩, ⟨(.some 12), .ld (.r 11), (.some (9, false))⟩, ⟨(.some 13), .bin .neq (.r 12) (.c (.i (.ofNat (nat_lit 0)))), (.some (9, false))⟩, ⟨(.some 14), .pick (.r 9) (.c (.b true)) (.r 13), .none⟩])
 (.cond (.r 14) (.seq (.reg [⟨(.some 4), .mv (.c (.b false)), .none⟩])
 .ret) .skip))
 (.seq (.seq (.reg [⟨(.some 5), .alloc 3 [(.i (.ofNat (nat_lit 0)))], .none⟩, ⟨.none, .st 1 (.r 5) (.c (.i (.ofNat (nat_lit 1)))), .none⟩])
 (.block 0 (.loop (.seq (.seq (.reg [⟨(.some 15), .ld (.r 5), .none⟩, ⟨(.some 16), .ld (.r 3), .none⟩, ⟨(.some 17), .lenSl (.r 16), .none⟩, ⟨(.some 18), .bin .lss (.r 15) (.r 17), .none⟩])
 (.cond (.r 18) .skip (.exit 0)))
 (.seq (.block 1 (.seq (.dreg [(⟨(.some 21), .mv (.r 0), .none⟩, false), (⟨(.some 22), .nilck (.r 21), .none⟩, false), (⟨(.some 23), .fadr 4 (.r 22), .none⟩, false), (⟨(.some 24), .ld (.r 23), .none⟩, false), (⟨(.some 25), .ld (.r 3), .none⟩, false), (⟨(.some 26), .ld (.r 5), .none⟩, false), (⟨(.some 27), .bin .sub (.r 26) (.c (.i (.ofNat (nat_lit 1)))), .none⟩, false), (⟨(.some 28), .ixSl 1 (.r 25) (.r 27), .none⟩, false), (⟨(.some 29), .ld (.r 28), .none⟩, false), (⟨(.some 30), .ixSl 2 (.r 24) (.r 29), .none⟩, false), (⟨(.some 31), .fadr 1 (.r 30), .none⟩, false), (⟨(.some 32), .ld (.r 31), .none⟩, false), (⟨(.some 33), .mkFn 94 [(.r 3), (.r 5)], .none⟩, false), (⟨(.some 34), .call 93 [(.r 32), (.r 33)], .none⟩, true), (⟨(.some 35), .un .not (.r 34), .none⟩, false)] [])
 (.cond (.r 35) (.seq (.reg [⟨(.some 4), .mv (.c (.b false)), .none⟩])
 .ret) .skip)))
 (.seq (.seq (.reg [⟨(.some 36), .ld (.r 5), .none⟩])
 (.reg [⟨(.some 5), .alloc 3 [(.i (.ofNat (nat_lit 0)))], .none⟩, ⟨.none, .st 1 (.r 5) (.r 36), .none⟩]))
 (.reg [⟨(.some 19), .ld (.r 5), .none⟩, ⟨(.some 20), .bin .add (.r 19) (.c (.i (.ofNat (nat_lit 1)))), .none⟩, ⟨.none, .st 1 (.r 5) (.r 20), .none⟩])))))))
 (.seq (.reg [⟨(.some 4), .mv (.c (.b true)), .none⟩])
 .ret)))), 37, [.tmp 4]⟩
theorem AxZok46 : cfOf AxZ 46 = some AxZc46 := by kernel_rfl
/- (*conch/finish.Ends).all -/
noncomputable def AxZc47 : CF := ⟨(.seq (.reg [⟨(.some 5), .box 115 (.r 2), .none⟩, ⟨(.some 6), .mv (.c .nils), .none⟩])
 (.seq (.reg [⟨(.some 13), .mkMap, .none⟩, ⟨(.some 14), .lda 2 (.r 5), .none⟩, ⟨.none, .mupd (.flat [.int, .int]) (.r 13) (.r 14) (.c (.b true)), .none⟩, ⟨(.some 15), .mv (.r 13), .none⟩, ⟨(.some 7), .mv (.r 15), .none⟩])
 (.seq (.reg [⟨(.some 16), .lda 2 (.r 5), .none⟩, ⟨(.some 17), .bslice 115 2 1 [(.i (.ofNat (nat_lit 0))), (.i (.ofNat (nat_lit 0)))] [(0, 2, (.r 16))], .none⟩, ⟨(.some 8), .mv (.r 17), .none⟩])
 (.seq (.reg [⟨(.some 9), .mv (.c .nils), .none⟩])
 (.seq (.block 0 (.loop (.seq (.seq (.reg [⟨(.some 18), .mv (.r 8), .none⟩, ⟨(.some 19), .lenSl (.r 18), .none⟩, ⟨(.some 20), .bin .gtr (.r 19) (.c (.i (.ofNat (nat_lit 0)))), .none⟩])
 (.cond (.r 20) .skip (.exit 0)))
 (.block 1 (.seq (.reg [⟨(.some 21), .mv (.r 0), .none⟩, ⟨(.some 22), .mv (.r 1), .none⟩, ⟨(.some 23), .mv (.r 8), .none⟩, ⟨(.some 24), .ixSl 2 (.r 23) (.c (.i (.ofNat (nat_lit 0)))), .none⟩, ⟨(.some 25), .lda 2 (.r 24), .none⟩, ⟨(.some 26), .call 95 [(.r 21), (.r 22), (.r 25)], .none⟩, ⟨(.some 10), .mv (.r 26), .none⟩])
 (.seq (.reg [⟨(.some 27), .mv (.r 8), .none⟩, ⟨(.some 28), .slSl 2 (.r 27) (.some (.c (.i (.ofNat (nat_lit 1))))) .none .none, .none⟩, ⟨(.some 8), .mv (.r 28), .none⟩])
 (.seq (.reg [⟨(.some 29), .mv (.r 9), .none⟩, ⟨(.some 30), .mv (.r 10), .none⟩, ⟨(.some 31), .app 126 6 (.r 29) (.r 30), .none⟩, ⟨(.some 9), .mv (.r 31), .none⟩])
 (.seq (.reg [⟨(.some 32), .mv (.r 10), .none⟩, ⟨(.some 33), .lenSl (.r 32), .none⟩, ⟨(.some 34), .mv (.c (.i (.ofNat (nat_lit 0)))), .none⟩])
 (.block 2 (.loop (.seq (.reg [⟨(.some 35), .bin .lss (.r 34) (.r 33), .none⟩])
 (.seq (.cond (.r 35) .skip (.exit 2))
 (.seq (.block 3 (.seq (.reg [⟨(.some 36), .ixSl 6 (.r 32) (.r 34), .none⟩, ⟨(.some 37), .lda 6 (.r 36), .none⟩, ⟨(.some 12), .alloc 126 [(.i (.ofNat (nat_lit 0))), (.i (.ofNat (nat_lit 0))), .nils, (.i (.ofNat (nat_lit 0))), (.i (.ofNat (nat_lit 0))), (.b false)], .none⟩, ⟨.none, .st 6 (.r 12) (.r 37), .none⟩])
 (.seq (.reg [⟨(.some 38), .fadr 5 (.r 12), .none⟩, ⟨(.some 39), .ld (.r 38), .none⟩, ⟨(.some 40), .un .not (.r 39), .none⟩, ⟨(.some 41), .mv (.r 40), .none⟩, ⟨(.some 42), .mv (.r 7), (.some (41, true))⟩, ⟨(.some 43), .fadr 3 (.r 12), (.some (41, true))⟩, ⟨(.some 44), .lda 2 (.r 43), (.some (41, true))⟩, ⟨(.some 45), .lookup (.flat [.int, .int]) (.b false) false (.r 42) (.r 44), (.some (41, true))⟩, ⟨(.some 46), .un .not (.r 45), (.some (41, true))⟩, ⟨(.some 47), .pick (.r 41) (.r 46) (.c (.b false)), .none⟩])
 (.cond (.r 47) (.seq (.reg [⟨(.some 48), .mv (.r 7), .none⟩, ⟨(.some 49), .fadr 3 (.r 12), .none⟩, ⟨(.some 50), .lda 2 (.r 49), .none⟩, ⟨.none, .mupd (.flat [.int, .int]) (.r 48) (.r 50) (.c (.b true)), .none⟩])
 (.reg [⟨(.some 51), .mv (.r 8), .none⟩, ⟨(.some 52), .fadr 3 (.r 12), .none⟩, ⟨(.some 53), .lda 2 (.r 52), .none⟩, ⟨(.some 54), .bslice 115 2 1 [(.i (.ofNat (nat_lit 0))), (.i (.ofNat (nat_lit 0)))] [(0, 2, (.r 53))], .none⟩, ⟨(.some 55), .app 115 2 (.r 51) (.r 54), .none⟩, ⟨(.some 8), .mv (.r 55), .none⟩])) .skip))))
 (.reg [⟨(.some 56), .bin .add (.r 34) (.c (.i (.ofNat (nat_lit 1)))), .none⟩, ⟨(.some 34), .mv (.r 56), .none⟩]))))))))))))))
 (.seq (.reg [⟨(.some 57), .mv (.r 9), .none⟩, ⟨(.some 6), .mv (.r 57), .none⟩])
 .ret)))))), 58, [.tmp 6]⟩
theorem AxZok47 : cfOf AxZ 47 = some AxZc47 := by kernel_rfl
/- conch/finish.shortlex -/
noncomputable def AxZc48 : CF := ⟨(.seq (.reg [⟨(.some 4), .mv (.c (.b false)), .none⟩])
 (.seq (.seq (.reg [⟨(.some 5), .mv (.r 0), .none⟩, ⟨(.some 6), .lenSl (.r 5), .none⟩, ⟨(.some 7), .mv (.r 1), .none⟩, ⟨(.some 8), .lenSl (.r 7), .none⟩, ⟨(.some 9), .bin .neq (.r 6) (.r 8), .none⟩])
 (.cond (.r 9) (.seq (.reg [⟨(.some 10), .mv (.r 0), .none⟩, ⟨(.some 11), .lenSl (.r 10), .none⟩, ⟨(.some 12), .mv (.r 1), .none⟩, ⟨(.some 13), .lenSl (.r 12), .none⟩, ⟨(.some 14), .bin .lss (.r 11) (.r 13), .none⟩, ⟨(.some 4), .mv (.r 14), .none⟩])
 .ret) .skip))
 (.seq (.reg [⟨(.some 15), .mv (.r 0), .none⟩, ⟨(.some 16), .mv (.r 1), .none⟩, ⟨(.some 17), .call 96 [(.r 15), (.r 16)], .none⟩, ⟨(.some 18), .bin .lss (.r 17) (.c (.i (.ofNat (nat_lit 0)))), .none⟩, ⟨(.some 4), .mv (.r 18), .none⟩])
 .ret))), 19, [.tmp 4]⟩
theorem AxZok48 : cfOf AxZ 48 = some AxZc48 := by kernel_rfl
/- slices.Backward[[]conch/finish.step,conch/finish.step] -/
noncomputable def AxZc49 : CF := ⟨(.seq (.reg [⟨(.some 1), .box 116 (.r 0), .none⟩, ⟨(.some 2), .mv (.c .nilf), .none⟩])
 (.seq (.reg [⟨(.some 3), .mkFn 97 [(.r 1)], .none⟩, ⟨(.some 2), .mv (.r 3), .none⟩])
 .ret)), 4, [.tmp 2]⟩
theorem AxZok49 : cfOf AxZ 49 = some AxZc49 := by kernel_rfl
end Ax
