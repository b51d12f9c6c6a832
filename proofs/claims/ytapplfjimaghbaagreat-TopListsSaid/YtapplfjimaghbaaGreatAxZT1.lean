/- The functions of the seat, compiled, 2: each is what the compiler (AxComp, AxEvS3) makes of the program's. Printed by wip/tools/PrintSeat.lean. -/
import Derived.Test.YtapplfjimaghbaaGreatAxZ
set_option linter.all false
namespace Ax
open Go
set_option maxRecDepth 100000
/- slices.Concat[[]int,int] -/
noncomputable def AxZc50 : CF := ⟨(.seq (.reg [⟨(.some 2), .mv (.c .nils), .none⟩])
 (.seq (.reg [⟨(.some 3), .mv (.c (.i (.ofNat (nat_lit 0)))), .none⟩])
 (.seq (.seq (.reg [⟨(.some 9), .mv (.r 0), .none⟩, ⟨(.some 10), .lenSl (.r 9), .none⟩, ⟨(.some 11), .mv (.c (.i (.ofNat (nat_lit 0)))), .none⟩])
 (.block 0 (.loop (.seq (.reg [⟨(.some 12), .bin .lss (.r 11) (.r 10), .none⟩])
 (.seq (.cond (.r 12) .skip (.exit 0))
 (.seq (.block 1 (.seq (.reg [⟨(.some 13), .ixSl 1 (.r 9) (.r 11), .none⟩, ⟨(.some 14), .ld (.r 13), .none⟩, ⟨(.some 5), .mv (.r 14), .none⟩])
 (.seq (.reg [⟨(.some 15), .mv (.r 3), .none⟩, ⟨(.some 16), .mv (.r 5), .none⟩, ⟨(.some 17), .lenSl (.r 16), .none⟩, ⟨(.some 18), .bin .add (.r 15) (.r 17), .none⟩, ⟨(.some 3), .mv (.r 18), .none⟩])
 (.seq (.reg [⟨(.some 19), .mv (.r 3), .none⟩, ⟨(.some 20), .bin .lss (.r 19) (.c (.i (.ofNat (nat_lit 0)))), .none⟩])
 (.cond (.r 20) (.reg [⟨(.some 21), .mkIf 9 (.c (.s 16 (nat_lit 134789072936214216453580009062074836332))), .none⟩, ⟨.none, .bad, .none⟩]) .skip)))))
 (.reg [⟨(.some 22), .bin .add (.r 11) (.c (.i (.ofNat (nat_lit 1)))), .none⟩, ⟨(.some 11), .mv (.r 22), .none⟩])))))))
 (.seq (.reg [⟨(.some 23), .mv (.r 3), .none⟩, ⟨(.some 24), .call 98 [(.c .nils), (.r 23)], .none⟩, ⟨(.some 6), .mv (.r 24), .none⟩])
 (.seq (.seq (.reg [⟨(.some 25), .mv (.r 0), .none⟩, ⟨(.some 26), .lenSl (.r 25), .none⟩, ⟨(.some 27), .mv (.c (.i (.ofNat (nat_lit 0)))), .none⟩])
 (.block 2 (.loop (.seq (.reg [⟨(.some 28), .bin .lss (.r 27) (.r 26), .none⟩])
 (.seq (.cond (.r 28) .skip (.exit 2))
 (.seq (.block 3 (.seq (.reg [⟨(.some 29), .ixSl 1 (.r 25) (.r 27), .none⟩, ⟨(.some 30), .ld (.r 29), .none⟩, ⟨(.some 8), .mv (.r 30), .none⟩])
 (.reg [⟨(.some 31), .mv (.r 6), .none⟩, ⟨(.some 32), .mv (.r 8), .none⟩, ⟨(.some 33), .app 3 1 (.r 31) (.r 32), .none⟩, ⟨(.some 6), .mv (.r 33), .none⟩])))
 (.reg [⟨(.some 34), .bin .add (.r 27) (.c (.i (.ofNat (nat_lit 1)))), .none⟩, ⟨(.some 27), .mv (.r 34), .none⟩])))))))
 (.seq (.reg [⟨(.some 35), .mv (.r 6), .none⟩, ⟨(.some 2), .mv (.r 35), .none⟩])
 .ret)))))), 36, [.tmp 2]⟩
theorem AxZok50 : cfOf AxZ 50 = some AxZc50 := by kernel_rfl
/- (*conch/finish.best[conch/finish.place]).put -/
noncomputable def AxZc51 : CF := ⟨(.seq (.reg [⟨(.some 4), .box 115 (.r 1), .none⟩, ⟨(.some 6), .mv (.c (.b false)), .none⟩])
 (.seq (.dreg [(⟨(.some 10), .mv (.r 0), .none⟩, false), (⟨(.some 11), .nilck (.r 10), .none⟩, false), (⟨(.some 12), .fadr 0 (.r 11), .none⟩, false), (⟨(.some 13), .ld (.r 12), .none⟩, false), (⟨(.some 14), .lda 2 (.r 4), .none⟩, false), (⟨(.some 15), .lookup (.flat [.int, .int]) .nils true (.r 13) (.r 14), .none⟩, false), (⟨(.some 9), .mv (.r 15), .none⟩, false), (⟨(.some 16), .ext (.r 9) 0, .none⟩, false), (⟨(.some 17), .ext (.r 9) 1, .none⟩, false), (⟨(.some 7), .mv (.r 16), .none⟩, false), (⟨(.some 8), .mv (.r 17), .none⟩, false)] [])
 (.seq (.seq (.reg [⟨(.some 18), .mv (.r 8), .none⟩, ⟨(.some 19), .mv (.r 18), .none⟩, ⟨(.some 20), .mv (.r 0), (.some (19, true))⟩, ⟨(.some 21), .nilck (.r 20), (.some (19, true))⟩, ⟨(.some 22), .fadr 1 (.r 21), (.some (19, true))⟩, ⟨(.some 23), .ld (.r 22), (.some (19, true))⟩, ⟨(.some 24), .mv (.r 2), (.some (19, true))⟩, ⟨(.some 25), .mv (.r 7), (.some (19, true))⟩, ⟨(.some 26), .callv (.r 23) [(.r 24), (.r 25)], (.some (19, true))⟩, ⟨(.some 27), .un .not (.r 26), (.some (19, true))⟩, ⟨(.some 28), .pick (.r 19) (.r 27) (.c (.b false)), .none⟩])
 (.cond (.r 28) (.seq (.reg [⟨(.some 6), .mv (.c (.b false)), .none⟩])
 .ret) .skip))
 (.seq (.dreg [(⟨(.some 29), .mv (.r 0), .none⟩, false), (⟨(.some 30), .nilck (.r 29), .none⟩, false), (⟨(.some 31), .fadr 0 (.r 30), .none⟩, false), (⟨(.some 32), .ld (.r 31), .none⟩, false), (⟨(.some 33), .lda 2 (.r 4), .none⟩, false), (⟨(.some 34), .mv (.r 2), .none⟩, false), (⟨.none, .mupd (.flat [.int, .int]) (.r 32) (.r 33) (.r 34), .none⟩, true)] [])
 (.seq (.reg [⟨(.some 6), .mv (.c (.b true)), .none⟩])
 .ret))))), 35, [.tmp 6]⟩
theorem AxZok51 : cfOf AxZ 51 = some AxZc51 := by kernel_rfl
/- math/bits.Mul -/
noncomputable def AxZc52 : CF := ⟨(.seq (.reg [⟨(.some 4), .mv (.c (.u .u64 (.ofNat (nat_lit 0)))), .none⟩, ⟨(.some 5), .mv (.c (.u .u64 (.ofNat (nat_lit 0)))), .none⟩])
 (.seq (.cond (.c (.b false)) (.seq (.reg [⟨(.some 11), .mv (.r 0), .none⟩, ⟨(.some 12), .cvInt .u32 (.r 11), .none⟩, ⟨(.some 13), .mv (.r 1), .none⟩, ⟨(.some 14), .cvInt .u32 (.r 13), .none⟩, ⟨(.some 15), .call 99 [(.r 12), (.r 14)], .none⟩, ⟨(.some 10), .mv (.r 15), .none⟩, ⟨(.some 16), .ext (.r 10) 0, .none⟩, ⟨(.some 17), .ext (.r 10) 1, .none⟩, ⟨(.some 6), .mv (.r 16), .none⟩, ⟨(.some 7), .mv (.r 17), .none⟩])
 (.seq (.reg [⟨(.some 18), .mv (.r 6), .none⟩, ⟨(.some 19), .cvInt .u64 (.r 18), .none⟩, ⟨(.some 20), .mv (.r 7), .none⟩, ⟨(.some 21), .cvInt .u64 (.r 20), .none⟩, ⟨(.some 4), .mv (.r 19), .none⟩, ⟨(.some 5), .mv (.r 21), .none⟩])
 .ret)) .skip)
 (.seq (.reg [⟨(.some 23), .mv (.r 0), .none⟩, ⟨(.some 24), .mv (.r 1), .none⟩, ⟨(.some 25), .call 100 [(.r 23), (.r 24)], .none⟩, ⟨(.some 22), .mv (.r 25), .none⟩, ⟨(.some 26), .ext (.r 22) 0, .none⟩, ⟨(.some 27), .ext (.r 22) 1, .none⟩, ⟨(.some 8), .mv (.r 26), .none⟩, ⟨(.some 9), .mv (.r 27), .none⟩])
 (.seq (.reg [⟨(.some 28), .mv (.r 8), .none⟩, ⟨(.some 29), .mv (.r 9), .none⟩, ⟨(.some 4), .mv (.r 28), .none⟩, ⟨(.some 5), .mv (.r 29), .none⟩])
 .ret)))), 30, [.tmp 4, .tmp 5]⟩
theorem AxZok52 : cfOf AxZ 52 = some AxZc52 := by kernel_rfl
/- conch/runs.take$1 -/
noncomputable def AxZc53 : CF := ⟨(.reg [⟨(.some 2), .ld (.r 0), .none⟩, ⟨.none, .st 1 (.r 1) (.r 2), .none⟩]), 3, []⟩
theorem AxZok53 : cfOf AxZ 53 = some AxZc53 := by kernel_rfl
/- (*conch/arena.Tree).in -/
noncomputable def AxZc54 : CF := ⟨(.seq (.reg [⟨(.some 4), .mv (.c (.b false)), .none⟩])
 (.seq (.reg [⟨(.some 5), .mv (.r 1), .none⟩, ⟨(.some 6), .bin .geq (.r 5) (.c (.i (.ofNat (nat_lit 0)))), .none⟩, ⟨(.some 7), .mv (.r 6), .none⟩, ⟨(.some 8), .mv (.r 1), (.some (7, true))⟩, ⟨(.some 9), .mv (.r 0), (.some (7, true))⟩, ⟨(.some 10), .call 101 [(.r 9)], (.some (7, true))⟩, ⟨(.some 11), .bin .lss (.r 8) (.r 10), (.some (7, true))⟩, ⟨(.some 12), .pick (.r 7) (.r 11) (.c (.b false)), .none⟩, ⟨(.some 4), .mv (.r 12), .none⟩])
 .ret)), 13, [.tmp 4]⟩
theorem AxZok54 : cfOf AxZ 54 = some AxZc54 := by kernel_rfl
/- (*conch/arena.Tree).Show$1 -/
noncomputable def AxZc55 : CF := ⟨(.seq (.reg [⟨(.some 9), .ld (.r 1), .none⟩, ⟨(.some 10), .nilck (.r 9), .none⟩, ⟨(.some 11), .fadr 0 (.r 10), .none⟩, ⟨(.some 12), .ld (.r 11), .none⟩, ⟨(.some 13), .mv (.r 0), .none⟩, ⟨(.some 14), .ixSl 6 (.r 12) (.r 13), .none⟩, ⟨(.some 15), .lda 6 (.r 14), .none⟩, ⟨(.some 6), .alloc 139 [(.i (.ofNat (nat_lit 0))), (.i (.ofNat (nat_lit 0))), (.i (.ofNat (nat_lit 0))), .nils, (.b false), (.b false)], .none⟩, ⟨.none, .st 6 (.r 6) (.r 15), .none⟩])
 (.seq (.seq (.reg [⟨(.some 16), .fadr 4 (.r 6), .none⟩, ⟨(.some 17), .ld (.r 16), .none⟩])
 (.cond (.r 17) (.seq (.reg [⟨(.some 18), .lda 4 (.r 3), .none⟩, ⟨(.some 19), .fadr 0 (.r 6), .none⟩, ⟨(.some 20), .fadr 0 (.r 19), .none⟩, ⟨(.some 21), .ld (.r 20), .none⟩, ⟨(.some 22), .call 57 [(.r 18), (.r 21)], .none⟩, ⟨(.some 23), .call 56 [(.r 2), (.r 22)], .none⟩])
 .ret) .skip))
 (.seq (.reg [⟨(.some 24), .lda 4 (.r 3), .none⟩, ⟨(.some 25), .fadr 0 (.r 6), .none⟩, ⟨(.some 26), .fadr 0 (.r 25), .none⟩, ⟨(.some 27), .ld (.r 26), .none⟩, ⟨(.some 28), .call 57 [(.r 24), (.r 27)], .none⟩, ⟨(.some 29), .bin .add (.c (.s 1 (nat_lit 40))) (.r 28), .none⟩, ⟨(.some 30), .call 56 [(.r 2), (.r 29)], .none⟩])
 (.seq (.seq (.reg [⟨(.some 31), .fadr 0 (.r 6), .none⟩, ⟨(.some 32), .fadr 3 (.r 31), .none⟩, ⟨(.some 33), .ld (.r 32), .none⟩, ⟨(.some 34), .lenSl (.r 33), .none⟩, ⟨(.some 35), .mv (.c (.i (.ofNat (nat_lit 0)))), .none⟩])
 (.block 0 (.loop (.seq (.reg [⟨(.some 36), .bin .lss (.r 35) (.r 34), .none⟩])
 (.seq (.cond (.r 36) .skip (.exit 0))
 (.seq (.block 1 (.seq (.reg [⟨(.some 37), .ixSl 1 (.r 33) (.r 35), .none⟩, ⟨(.some 38), .ld (.r 37), .none⟩, ⟨(.some 8), .mv (.r 38), .none⟩])
 (.seq (.reg [⟨(.some 39), .call 58 [(.r 2), (.c (.u .u8 (.ofNat (nat_lit 32))))], .none⟩])
 (.reg [⟨(.some 40), .ld (.r 4), .none⟩, ⟨(.some 41), .mv (.r 8), .none⟩, ⟨(.some 42), .callv (.r 40) [(.r 41)], .none⟩]))))
 (.reg [⟨(.some 43), .bin .add (.r 35) (.c (.i (.ofNat (nat_lit 1)))), .none⟩, ⟨(.some 35), .mv (.r 43), .none⟩])))))))
 (.reg [⟨(.some 44), .call 58 [(.r 2), (.c (.u .u8 (.ofNat (nat_lit 41))))], .none⟩]))))), 45, []⟩
theorem AxZok55 : cfOf AxZ 55 = some AxZc55 := by kernel_rfl
/- (*strings.Builder).WriteString -/
noncomputable def AxZc56 : CF := ⟨(.seq (.reg [⟨(.some 4), .mv (.c (.i (.ofNat (nat_lit 0)))), .none⟩, ⟨(.some 5), .mv (.c .nili), .none⟩])
 (.seq (.reg [⟨(.some 6), .mv (.r 0), .none⟩, ⟨(.some 7), .call 102 [(.r 6)], .none⟩])
 (.seq (.reg [⟨(.some 8), .mv (.r 0), .none⟩, ⟨(.some 9), .mv (.r 0), .none⟩, ⟨(.some 10), .nilck (.r 9), .none⟩, ⟨(.some 11), .fadr 1 (.r 10), .none⟩, ⟨(.some 12), .ld (.r 11), .none⟩, ⟨(.some 13), .mv (.r 1), .none⟩, ⟨(.some 14), .app 5 1 (.r 12) (.r 13), .none⟩, ⟨(.some 15), .nilck (.r 8), .none⟩, ⟨(.some 16), .fadr 1 (.r 15), .none⟩, ⟨.none, .st 1 (.r 16) (.r 14), .none⟩])
 (.seq (.reg [⟨(.some 17), .mv (.r 1), .none⟩, ⟨(.some 18), .lenStr (.r 17), .none⟩, ⟨(.some 4), .mv (.r 18), .none⟩, ⟨(.some 5), .mv (.c .nili), .none⟩])
 .ret)))), 19, [.tmp 4, .tmp 5]⟩
theorem AxZok56 : cfOf AxZ 56 = some AxZc56 := by kernel_rfl
/- conch/gram.Name -/
noncomputable def AxZc57 : CF := ⟨(.seq (.reg [⟨(.some 2), .box 53 (.r 0), .none⟩, ⟨(.some 4), .mv (.c (.s 0 (nat_lit 0))), .none⟩])
 (.seq (.block 0 (.seq (.reg [⟨(.some 6), .mv (.r 1), .none⟩, ⟨(.some 7), .bin .eql (.r 6) (.c (.i (.ofNat (nat_lit 0)))), .none⟩, ⟨(.some 5), .mv (.r 7), .none⟩])
 (.cond (.r 5) (.seq (.reg [⟨(.some 4), .mv (.c (.s 1 (nat_lit 36))), .none⟩])
 .ret) (.seq (.reg [⟨(.some 9), .lda 4 (.r 2), .none⟩, ⟨(.some 10), .mv (.r 1), .none⟩, ⟨(.some 11), .call 89 [(.r 9), (.r 10)], .none⟩, ⟨(.some 8), .mv (.r 11), .none⟩])
 (.cond (.r 8) (.seq (.reg [⟨(.some 12), .fadr 0 (.r 2), .none⟩, ⟨(.some 13), .ld (.r 12), .none⟩, ⟨(.some 14), .mv (.r 1), .none⟩, ⟨(.some 15), .bin .sub (.r 14) (.c (.i (.ofNat (nat_lit 1)))), .none⟩, ⟨(.some 16), .ixSl 1 (.r 13) (.r 15), .none⟩, ⟨(.some 17), .ld (.r 16), .none⟩, ⟨(.some 4), .mv (.r 17), .none⟩])
 .ret) (.seq (.reg [⟨(.some 19), .lda 4 (.r 2), .none⟩, ⟨(.some 20), .mv (.r 1), .none⟩, ⟨(.some 21), .call 103 [(.r 19), (.r 20)], .none⟩, ⟨(.some 18), .mv (.r 21), .none⟩])
 (.cond (.r 18) (.seq (.reg [⟨(.some 22), .fadr 1 (.r 2), .none⟩, ⟨(.some 23), .ld (.r 22), .none⟩, ⟨(.some 24), .mv (.r 1), .none⟩, ⟨(.some 25), .bin .sub (.r 24) (.c (.i (.ofNat (nat_lit 1)))), .none⟩, ⟨(.some 26), .fadr 0 (.r 2), .none⟩, ⟨(.some 27), .ld (.r 26), .none⟩, ⟨(.some 28), .lenSl (.r 27), .none⟩, ⟨(.some 29), .bin .sub (.r 25) (.r 28), .none⟩, ⟨(.some 30), .ixSl 1 (.r 23) (.r 29), .none⟩, ⟨(.some 31), .ld (.r 30), .none⟩, ⟨(.some 4), .mv (.r 31), .none⟩])
 .ret) .skip)))))))
 (.seq (.reg [⟨(.some 4), .mv (.c (.s 0 (nat_lit 0))), .none⟩])
 .ret))), 32, [.tmp 4]⟩
theorem AxZok57 : cfOf AxZ 57 = some AxZc57 := by kernel_rfl
/- (*strings.Builder).WriteByte -/
noncomputable def AxZc58 : CF := ⟨(.seq (.reg [⟨(.some 4), .mv (.c .nili), .none⟩])
 (.seq (.reg [⟨(.some 5), .mv (.r 0), .none⟩, ⟨(.some 6), .call 102 [(.r 5)], .none⟩])
 (.seq (.reg [⟨(.some 7), .mv (.r 0), .none⟩, ⟨(.some 8), .mv (.r 0), .none⟩, ⟨(.some 9), .nilck (.r 8), .none⟩, ⟨(.some 10), .fadr 1 (.r 9), .none⟩, ⟨(.some 11), .ld (.r 10), .none⟩, ⟨(.some 12), .mv (.r 1), .none⟩, ⟨(.some 13), .bslice 5 1 1 [(.u .u8 (.ofNat (nat_lit 0)))] [(0, 1, (.r 12))], .none⟩, ⟨(.some 14), .app 5 1 (.r 11) (.r 13), .none⟩, ⟨(.some 15), .nilck (.r 7), .none⟩, ⟨(.some 16), .fadr 1 (.r 15), .none⟩, ⟨.none, .st 1 (.r 16) (.r 14), .none⟩])
 (.seq (.reg [⟨(.some 4), .mv (.c .nili), .none⟩])
 .ret)))), 17, [.tmp 4]⟩
theorem AxZok58 : cfOf AxZ 58 = some AxZc58 := by kernel_rfl
/- (*strings.Builder).String -/
noncomputable def AxZc59 : CF := ⟨(.seq (.reg [⟨(.some 2), .mv (.c (.s 0 (nat_lit 0))), .none⟩])
 (.seq (.dreg [(⟨(.some 3), .mv (.r 0), .none⟩, false), (⟨(.some 4), .nilck (.r 3), .none⟩, false), (⟨(.some 5), .fadr 1 (.r 4), .none⟩, false), (⟨(.some 6), .ld (.r 5), .none⟩, false), (⟨(.some 7), .usd (.r 6), .none⟩, false), (⟨(.some 8), .mv (.r 0), .none⟩, false), (⟨(.some 9), .nilck (.r 8), .none⟩, false), (⟨(.some 10), .fadr 1 (.r 9), .none⟩, false), (⟨(.some 11), .ld (.r 10), .none⟩, false), (⟨(.some 12), .lenSl (.r 11), .none⟩, false), (⟨(.some 13), .us 5 (.r 7) (.r 12), .none⟩, true), (⟨(.some 2), .mv (.r 13), .none⟩, false)] [])
 .ret)), 14, [.tmp 2]⟩
theorem AxZok59 : cfOf AxZ 59 = some AxZc59 := by kernel_rfl
/- (*conch/drive.Engine).look -/
noncomputable def AxZc60 : CF := ⟨(.seq (.reg [⟨(.some 4), .alloc 83 [(.i (.ofNat (nat_lit 0))), (.i (.ofNat (nat_lit 0)))], .none⟩])
 (.seq (.reg [⟨(.some 12), .mv (.r 0), .none⟩, ⟨(.some 13), .nilck (.r 12), .none⟩, ⟨(.some 14), .fadr 1 (.r 13), .none⟩, ⟨(.some 15), .ld (.r 14), .none⟩, ⟨(.some 16), .lenSl (.r 15), .none⟩, ⟨(.some 5), .mv (.r 16), .none⟩])
 (.seq (.reg [⟨(.some 6), .mv (.c .nils), .none⟩])
 (.block 0 (.loop (.block 1 (.seq (.reg [⟨(.some 7), .mv (.c (.i (.ofNat (nat_lit 0)))), .none⟩])
 (.seq (.seq (.reg [⟨(.some 17), .mv (.r 6), .none⟩, ⟨(.some 18), .lenSl (.r 17), .none⟩, ⟨(.some 19), .bin .gtr (.r 18) (.c (.i (.ofNat (nat_lit 0)))), .none⟩])
 (.cond (.r 19) (.reg [⟨(.some 20), .mv (.r 6), .none⟩, ⟨(.some 21), .mv (.r 6), .none⟩, ⟨(.some 22), .lenSl (.r 21), .none⟩, ⟨(.some 23), .bin .sub (.r 22) (.c (.i (.ofNat (nat_lit 1)))), .none⟩, ⟨(.some 24), .ixSl 1 (.r 20) (.r 23), .none⟩, ⟨(.some 25), .ld (.r 24), .none⟩, ⟨(.some 7), .mv (.r 25), .none⟩]) (.reg [⟨(.some 26), .mv (.r 0), .none⟩, ⟨(.some 27), .nilck (.r 26), .none⟩, ⟨(.some 28), .fadr 1 (.r 27), .none⟩, ⟨(.some 29), .ld (.r 28), .none⟩, ⟨(.some 30), .mv (.r 5), .none⟩, ⟨(.some 31), .bin .sub (.r 30) (.c (.i (.ofNat (nat_lit 1)))), .none⟩, ⟨(.some 32), .ixSl 1 (.r 29) (.r 31), .none⟩, ⟨(.some 33), .ld (.r 32), .none⟩, ⟨(.some 7), .mv (.r 33), .none⟩])))
 (.seq (.reg [⟨(.some 34), .mv (.r 0), .none⟩, ⟨(.some 35), .nilck (.r 34), .none⟩, ⟨(.some 36), .fadr 0 (.r 35), .none⟩, ⟨(.some 37), .ld (.r 36), .none⟩, ⟨(.some 38), .nilck (.r 37), .none⟩, ⟨(.some 39), .fadr 4 (.r 38), .none⟩, ⟨(.some 40), .lda 5 (.r 39), .none⟩, ⟨(.some 41), .mv (.r 7), .none⟩, ⟨(.some 42), .mv (.r 1), .none⟩, ⟨(.some 43), .call 61 [(.r 40), (.r 41), (.r 42)], .none⟩, ⟨(.some 8), .alloc 83 [(.i (.ofNat (nat_lit 0))), (.i (.ofNat (nat_lit 0)))], .none⟩, ⟨.none, .st 2 (.r 8) (.r 43), .none⟩])
 (.seq (.seq (.reg [⟨(.some 44), .fadr 0 (.r 8), .none⟩, ⟨(.some 45), .ld (.r 44), .none⟩, ⟨(.some 46), .bin .neq (.r 45) (.c (.i (.ofNat (nat_lit 2)))), .none⟩])
 (.cond (.r 46) (.seq (.reg [⟨(.some 47), .lda 2 (.r 8), .none⟩, ⟨.none, .st 2 (.r 4) (.r 47), .none⟩])
 .ret) .skip))
 (.seq (.dreg [(⟨(.some 48), .mv (.r 0), .none⟩, false), (⟨(.some 49), .nilck (.r 48), .none⟩, false), (⟨(.some 50), .fadr 0 (.r 49), .none⟩, false), (⟨(.some 51), .ld (.r 50), .none⟩, false), (⟨(.some 52), .nilck (.r 51), .none⟩, false), (⟨(.some 53), .fadr 4 (.r 52), .none⟩, false), (⟨(.some 54), .fadr 0 (.r 53), .none⟩, false), (⟨(.some 55), .ld (.r 54), .none⟩, false), (⟨(.some 56), .fadr 1 (.r 8), .none⟩, false), (⟨(.some 57), .ld (.r 56), .none⟩, false), (⟨(.some 58), .ixSl 2 (.r 55) (.r 57), .none⟩, false), (⟨(.some 59), .lda 2 (.r 58), .none⟩, false), (⟨(.some 9), .alloc 149 [(.i (.ofNat (nat_lit 0))), .nils], .none⟩, true), (⟨.none, .st 2 (.r 9) (.r 59), .none⟩, true)] [(⟨(.some 51), .ld (.r 50), .none⟩, 0, 2), (⟨(.some 55), .ld (.r 54), .none⟩, 0, 2), (⟨(.some 57), .ld (.r 56), .none⟩, 0, 2), (⟨(.some 59), .lda 2 (.r 58), .none⟩, 0, 2)])
 (.seq (.reg [⟨(.some 60), .fadr 1 (.r 9), .none⟩, ⟨(.some 61), .ld (.r 60), .none⟩, ⟨(.some 62), .lenSl (.r 61), .none⟩, ⟨(.some 10), .mv (.r 62), .none⟩])
 (.seq (.seq (.reg [⟨(.some 63), .mv (.r 10), .none⟩, ⟨(.some 64), .mv (.r 6), .none⟩, ⟨(.some 65), .lenSl (.r 64), .none⟩, ⟨(.some 66), .bin .leq (.r 63) (.r 65), .none⟩])
 (.cond (.r 66) (.reg [⟨(.some 67), .mv (.r 6), .none⟩, ⟨(.some 68), .mv (.r 6), .none⟩, ⟨(.some 69), .lenSl (.r 68), .none⟩, ⟨(.some 70), .mv (.r 10), .none⟩, ⟨(.some 71), .bin .sub (.r 69) (.r 70), .none⟩, ⟨(.some 72), .mv (.r 6), .none⟩, ⟨(.some 73), .lenSl (.r 72), .none⟩, ⟨(.some 74), .mv (.r 10), .none⟩, ⟨(.some 75), .bin .sub (.r 73) (.r 74), .none⟩, ⟨(.some 76), .slSl 1 (.r 67) .none (.some (.r 71)) (.some (.r 75)), .none⟩, ⟨(.some 6), .mv (.r 76), .none⟩]) (.seq (.reg [⟨(.some 77), .mv (.r 5), .none⟩, ⟨(.some 78), .mv (.r 10), .none⟩, ⟨(.some 79), .mv (.r 6), .none⟩, ⟨(.some 80), .lenSl (.r 79), .none⟩, ⟨(.some 81), .bin .sub (.r 78) (.r 80), .none⟩, ⟨(.some 82), .bin .sub (.r 77) (.r 81), .none⟩, ⟨(.some 5), .mv (.r 82), .none⟩])
 (.reg [⟨(.some 6), .mv (.c .nils), .none⟩]))))
 (.seq (.reg [⟨(.some 83), .mv (.r 0), .none⟩, ⟨(.some 84), .nilck (.r 83), .none⟩, ⟨(.some 85), .fadr 1 (.r 84), .none⟩, ⟨(.some 86), .ld (.r 85), .none⟩, ⟨(.some 87), .mv (.r 5), .none⟩, ⟨(.some 88), .bin .sub (.r 87) (.c (.i (.ofNat (nat_lit 1)))), .none⟩, ⟨(.some 89), .ixSl 1 (.r 86) (.r 88), .none⟩, ⟨(.some 90), .ld (.r 89), .none⟩, ⟨(.some 11), .mv (.r 90), .none⟩])
 (.seq (.seq (.reg [⟨(.some 91), .mv (.r 6), .none⟩, ⟨(.some 92), .lenSl (.r 91), .none⟩, ⟨(.some 93), .bin .gtr (.r 92) (.c (.i (.ofNat (nat_lit 0)))), .none⟩])
 (.cond (.r 93) (.reg [⟨(.some 94), .mv (.r 6), .none⟩, ⟨(.some 95), .mv (.r 6), .none⟩, ⟨(.some 96), .lenSl (.r 95), .none⟩, ⟨(.some 97), .bin .sub (.r 96) (.c (.i (.ofNat (nat_lit 1)))), .none⟩, ⟨(.some 98), .ixSl 1 (.r 94) (.r 97), .none⟩, ⟨(.some 99), .ld (.r 98), .none⟩, ⟨(.some 11), .mv (.r 99), .none⟩]) .skip))
 (.dreg [(⟨(.some 100), .mv (.r 6), .none⟩, false), (⟨(.some 101), .mv (.r 0), .none⟩, false), (⟨(.some 102), .nilck (.r 101), .none⟩, false), (⟨(.some 103), .fadr 0 (.r 102), .none⟩, false), (⟨(.some 104), .ld (.r 103), .none⟩, false), (⟨(.some 105), .nilck (.r 104), .none⟩, false), (⟨(.some 106), .fadr 4 (.r 105), .none⟩, false), (⟨(.some 107), .lda 5 (.r 106), .none⟩, false), (⟨(.some 108), .mv (.r 11), .none⟩, false), (⟨(.some 109), .fadr 0 (.r 9), .none⟩, false), (⟨(.some 110), .ld (.r 109), .none⟩, false), (⟨(.some 111), .call 63 [(.r 107), (.r 108), (.r 110)], .none⟩, true), (⟨(.some 112), .bslice 3 1 1 [(.i (.ofNat (nat_lit 0)))] [(0, 1, (.r 111))], .none⟩, true), (⟨(.some 113), .app 3 1 (.r 100) (.r 112), .none⟩, true), (⟨(.some 6), .mv (.r 113), .none⟩, false)] [])))))))))))))))), 114, [.cell 4 2 true]⟩
theorem AxZok60 : cfOf AxZ 60 = some AxZc60 := by kernel_rfl
/- conch/acts.Act -/
noncomputable def AxZc61 : CF := ⟨(.seq (.reg [⟨(.some 3), .box 78 (.r 0), .none⟩, ⟨(.some 6), .alloc 83 [(.i (.ofNat (nat_lit 0))), (.i (.ofNat (nat_lit 0)))], .none⟩])
 (.seq (.seq (.reg [⟨(.some 7), .mv (.r 1), .none⟩, ⟨(.some 8), .bin .lss (.r 7) (.c (.i (.ofNat (nat_lit 0)))), .none⟩, ⟨(.some 9), .mv (.r 8), .none⟩, ⟨(.some 10), .mv (.r 1), (.some (9, false))⟩, ⟨(.some 11), .fadr 3 (.r 3), (.some (9, false))⟩, ⟨(.some 12), .ld (.r 11), (.some (9, false))⟩, ⟨(.some 13), .lenSl (.r 12), (.some (9, false))⟩, ⟨(.some 14), .bin .geq (.r 10) (.r 13), (.some (9, false))⟩, ⟨(.some 15), .pick (.r 9) (.c (.b true)) (.r 14), .none⟩, ⟨(.some 16), .mv (.r 15), .none⟩, ⟨(.some 17), .mv (.r 2), (.some (16, false))⟩, ⟨(.some 18), .bin .lss (.r 17) (.c (.i (.ofNat (nat_lit 0)))), (.some (16, false))⟩, ⟨(.some 19), .pick (.r 16) (.c (.b true)) (.r 18), .none⟩, ⟨(.some 20), .mv (.r 19), .none⟩, ⟨(.some 21), .mv (.r 2), (.some (20, false))⟩, ⟨(.some 22), .fadr 3 (.r 3), (.some (20, false))⟩, ⟨(.some 23), .ld (.r 22), (.some (20, false))⟩, ⟨(.some 24), .mv (.r 1), (.some (20, false))⟩, ⟨(.some 25), .ixSl 1 (.r 23) (.r 24), (.some (20, false))⟩, ⟨(.some 26), .ld (.r 25), (.some (20, false))⟩, ⟨(.some 27), .lenSl (.r 26), (.some (20, false))⟩, ⟨(.some 28), .bin .geq (.r 21) (.r 27), (.some (20, false))⟩, ⟨(.some 29), .pick (.r 20) (.c (.b true)) (.r 28), .none⟩])
 (.cond (.r 29) (.seq (.reg [⟨(.some 30), .build [(.i (.ofNat (nat_lit 0))), (.i (.ofNat (nat_lit 0)))] [], .none⟩, ⟨.none, .st 2 (.r 6) (.r 30), .none⟩])
 .ret) .skip))
 (.seq (.reg [⟨(.some 31), .fadr 3 (.r 3), .none⟩, ⟨(.some 32), .ld (.r 31), .none⟩, ⟨(.some 33), .mv (.r 1), .none⟩, ⟨(.some 34), .ixSl 1 (.r 32) (.r 33), .none⟩, ⟨(.some 35), .ld (.r 34), .none⟩, ⟨(.some 36), .mv (.r 2), .none⟩, ⟨(.some 37), .ixSl 2 (.r 35) (.r 36), .none⟩, ⟨(.some 38), .lda 2 (.r 37), .none⟩, ⟨.none, .st 2 (.r 6) (.r 38), .none⟩])
 .ret))), 39, [.cell 6 2 true]⟩
theorem AxZok61 : cfOf AxZ 61 = some AxZc61 := by kernel_rfl
/- (*conch/arena.Tree).Join -/
noncomputable def AxZc62 : CF := ⟨(.seq (.reg [⟨(.some 8), .mv (.c (.i (.ofNat (nat_lit 0)))), .none⟩])
 (.seq (.seq (.reg [⟨(.some 13), .mv (.r 0), .none⟩, ⟨(.some 14), .eq .ptr false (.r 13) (.c .nilp), .none⟩])
 (.cond (.r 14) (.seq (.reg [⟨(.some 8), .mv (.c (.i (.negSucc (nat_lit 0)))), .none⟩])
 .ret) .skip))
 (.seq (.seq (.reg [⟨(.some 15), .mv (.r 3), .none⟩, ⟨(.some 16), .lenSl (.r 15), .none⟩, ⟨(.some 17), .mv (.c (.i (.ofNat (nat_lit 0)))), .none⟩])
 (.block 0 (.loop (.seq (.reg [⟨(.some 18), .bin .lss (.r 17) (.r 16), .none⟩])
 (.seq (.cond (.r 18) .skip (.exit 0))
 (.seq (.block 1 (.seq (.reg [⟨(.some 19), .mv (.r 17), .none⟩, ⟨(.some 20), .ixSl 1 (.r 15) (.r 17), .none⟩, ⟨(.some 21), .ld (.r 20), .none⟩, ⟨(.some 9), .mv (.r 19), .none⟩, ⟨(.some 10), .mv (.r 21), .none⟩])
 (.seq (.reg [⟨(.some 22), .mv (.r 0), .none⟩, ⟨(.some 23), .mv (.r 10), .none⟩, ⟨(.some 24), .call 54 [(.r 22), (.r 23)], .none⟩, ⟨(.some 25), .un .not (.r 24), .none⟩, ⟨(.some 26), .mv (.r 25), .none⟩, ⟨(.some 27), .mv (.r 0), (.some (26, false))⟩, ⟨(.some 28), .nilck (.r 27), (.some (26, false))⟩, ⟨(.some 29), .fadr 0 (.r 28), (.some (26, false))⟩, ⟨(.some 30), .ld (.r 29), (.some (26, false))⟩, ⟨(.some 31), .mv (.r 10), (.some (26, false))⟩, ⟨(.some 32), .ixSl 6 (.r 30) (.r 31), (.some (26, false))⟩, ⟨(.some 33), .fadr 5 (.r 32), (.some (26, false))⟩, ⟨(.some 34), .ld (.r 33), (.some (26, false))⟩, ⟨(.some 35), .pick (.r 26) (.c (.b true)) (.r 34), .none⟩, ⟨(.some 36), .mv (.r 35), .none⟩, ⟨(.some 37), .mv (.r 3), (.some (36, false))⟩, ⟨(.some 38), .mv (.r 9), (.some (36, false))⟩, ⟨(.some 39), .slSl 1 (.r 37) .none (.some (.r 38)) .none, (.some (36, false))⟩, ⟨(.some 40), .mv (.r 10), (.some (36, false))⟩, ⟨(.some 41), .call 104 [(.r 39), (.r 40)], (.some (36, false))⟩, ⟨(.some 42), .pick (.r 36) (.c (.b true)) (.r 41), .none⟩])
 (.cond (.r 42) (.seq (.reg [⟨(.some 8), .mv (.c (.i (.negSucc (nat_lit 0)))), .none⟩])
 .ret) .skip))))
 (.reg [⟨(.some 43), .bin .add (.r 17) (.c (.i (.ofNat (nat_lit 1)))), .none⟩, ⟨(.some 17), .mv (.r 43), .none⟩])))))))
 (.seq (.seq (.reg [⟨(.some 44), .mv (.r 3), .none⟩, ⟨(.some 45), .lenSl (.r 44), .none⟩, ⟨(.some 46), .mv (.c (.i (.ofNat (nat_lit 0)))), .none⟩])
 (.block 2 (.loop (.seq (.reg [⟨(.some 47), .bin .lss (.r 46) (.r 45), .none⟩])
 (.seq (.cond (.r 47) .skip (.exit 2))
 (.seq (.block 3 (.seq (.reg [⟨(.some 48), .ixSl 1 (.r 44) (.r 46), .none⟩, ⟨(.some 49), .ld (.r 48), .none⟩, ⟨(.some 12), .mv (.r 49), .none⟩])
 (.reg [⟨(.some 50), .mv (.r 0), .none⟩, ⟨(.some 51), .nilck (.r 50), .none⟩, ⟨(.some 52), .fadr 0 (.r 51), .none⟩, ⟨(.some 53), .ld (.r 52), .none⟩, ⟨(.some 54), .mv (.r 12), .none⟩, ⟨(.some 55), .ixSl 6 (.r 53) (.r 54), .none⟩, ⟨(.some 56), .fadr 5 (.r 55), .none⟩, ⟨.none, .st 1 (.r 56) (.c (.b true)), .none⟩])))
 (.reg [⟨(.some 57), .bin .add (.r 46) (.c (.i (.ofNat (nat_lit 1)))), .none⟩, ⟨(.some 46), .mv (.r 57), .none⟩])))))))
 (.seq (.dreg [(⟨(.some 58), .mv (.r 0), .none⟩, false), (⟨(.some 59), .mv (.r 0), .none⟩, false), (⟨(.some 60), .nilck (.r 59), .none⟩, false), (⟨(.some 61), .fadr 0 (.r 60), .none⟩, false), (⟨(.some 62), .ld (.r 61), .none⟩, false), (⟨(.some 63), .mv (.r 1), .none⟩, false), (⟨(.some 64), .mv (.r 2), .none⟩, false), (⟨(.some 65), .mv (.r 3), .none⟩, false), (⟨(.some 66), .call 18 [(.r 65)], .none⟩, true), (⟨(.some 67), .build [(.i (.ofNat (nat_lit 0))), (.i (.ofNat (nat_lit 0))), (.i (.ofNat (nat_lit 0))), .nils] [(0, 1, (.r 63)), (1, 1, (.c (.i (.negSucc (nat_lit 0))))), (2, 1, (.r 64)), (3, 1, (.r 66))], .none⟩, false), (⟨(.some 68), .build [(.i (.ofNat (nat_lit 0))), (.i (.ofNat (nat_lit 0))), (.i (.ofNat (nat_lit 0))), .nils, (.b false), (.b false)] [(0, 4, (.r 67))], .none⟩, false), (⟨(.some 69), .bslice 139 6 1 [(.i (.ofNat (nat_lit 0))), (.i (.ofNat (nat_lit 0))), (.i (.ofNat (nat_lit 0))), .nils, (.b false), (.b false)] [(0, 6, (.r 68))], .none⟩, true), (⟨(.some 70), .app 139 6 (.r 62) (.r 69), .none⟩, true), (⟨(.some 71), .nilck (.r 58), .none⟩, false), (⟨(.some 72), .fadr 0 (.r 71), .none⟩, false), (⟨.none, .st 1 (.r 72) (.r 70), .none⟩, true)] [(⟨(.some 62), .ld (.r 61), .none⟩, 0, 3)])
 (.seq (.reg [⟨(.some 73), .mv (.r 0), .none⟩, ⟨(.some 74), .nilck (.r 73), .none⟩, ⟨(.some 75), .fadr 0 (.r 74), .none⟩, ⟨(.some 76), .ld (.r 75), .none⟩, ⟨(.some 77), .lenSl (.r 76), .none⟩, ⟨(.some 78), .bin .sub (.r 77) (.c (.i (.ofNat (nat_lit 1)))), .none⟩, ⟨(.some 8), .mv (.r 78), .none⟩])
 .ret)))))), 79, [.tmp 8]⟩
theorem AxZok62 : cfOf AxZ 62 = some AxZc62 := by kernel_rfl
/- conch/acts.Goto -/
noncomputable def AxZc63 : CF := ⟨(.seq (.reg [⟨(.some 3), .box 78 (.r 0), .none⟩, ⟨(.some 6), .mv (.c (.i (.ofNat (nat_lit 0)))), .none⟩])
 (.seq (.seq (.reg [⟨(.some 8), .mv (.r 1), .none⟩, ⟨(.some 9), .bin .lss (.r 8) (.c (.i (.ofNat (nat_lit 0)))), .none⟩, ⟨(.some 10), .mv (.r 9), .none⟩, ⟨(.some 11), .mv (.r 1), (.some (10, false))⟩, ⟨(.some 12), .fadr 4 (.r 3), (.some (10, false))⟩, ⟨(.some 13), .ld (.r 12), (.some (10, false))⟩, ⟨(.some 14), .lenSl (.r 13), (.some (10, false))⟩, ⟨(.some 15), .bin .geq (.r 11) (.r 14), (.some (10, false))⟩, ⟨(.some 16), .pick (.r 10) (.c (.b true)) (.r 15), .none⟩, ⟨(.some 17), .mv (.r 16), .none⟩, ⟨(.some 18), .fadr 1 (.r 3), (.some (17, false))⟩, ⟨(.some 19), .ld (.r 18), (.some (17, false))⟩, ⟨(.some 20), .bin .lss (.r 19) (.c (.i (.ofNat (nat_lit 0)))), (.some (17, false))⟩, ⟨(.some 21), .pick (.r 17) (.c (.b true)) (.r 20), .none⟩, ⟨(.some 22), .mv (.r 21), .none⟩, ⟨(.some 23), .mv (.r 2), (.some (22, false))⟩, ⟨(.some 24), .fadr 1 (.r 3), (.some (22, false))⟩, ⟨(.some 25), .ld (.r 24), (.some (22, false))⟩, ⟨(.some 26), .bin .leq (.r 23) (.r 25), (.some (22, false))⟩, ⟨(.some 27), .pick (.r 22) (.c (.b true)) (.r 26), .none⟩])
 (.cond (.r 27) (.seq (.reg [⟨(.some 6), .mv (.c (.i (.negSucc (nat_lit 0)))), .none⟩])
 .ret) .skip))
 (.seq (.reg [⟨(.some 28), .mv (.r 2), .none⟩, ⟨(.some 29), .fadr 1 (.r 3), .none⟩, ⟨(.some 30), .ld (.r 29), .none⟩, ⟨(.some 31), .bin .sub (.r 28) (.r 30), .none⟩, ⟨(.some 32), .bin .sub (.r 31) (.c (.i (.ofNat (nat_lit 1)))), .none⟩, ⟨(.some 7), .mv (.r 32), .none⟩])
 (.seq (.seq (.reg [⟨(.some 33), .mv (.r 7), .none⟩, ⟨(.some 34), .fadr 4 (.r 3), .none⟩, ⟨(.some 35), .ld (.r 34), .none⟩, ⟨(.some 36), .mv (.r 1), .none⟩, ⟨(.some 37), .ixSl 1 (.r 35) (.r 36), .none⟩, ⟨(.some 38), .ld (.r 37), .none⟩, ⟨(.some 39), .lenSl (.r 38), .none⟩, ⟨(.some 40), .bin .geq (.r 33) (.r 39), .none⟩])
 (.cond (.r 40) (.seq (.reg [⟨(.some 6), .mv (.c (.i (.negSucc (nat_lit 0)))), .none⟩])
 .ret) .skip))
 (.seq (.reg [⟨(.some 41), .fadr 4 (.r 3), .none⟩, ⟨(.some 42), .ld (.r 41), .none⟩, ⟨(.some 43), .mv (.r 1), .none⟩, ⟨(.some 44), .ixSl 1 (.r 42) (.r 43), .none⟩, ⟨(.some 45), .ld (.r 44), .none⟩, ⟨(.some 46), .mv (.r 7), .none⟩, ⟨(.some 47), .ixSl 1 (.r 45) (.r 46), .none⟩, ⟨(.some 48), .ld (.r 47), .none⟩, ⟨(.some 6), .mv (.r 48), .none⟩])
 .ret))))), 49, [.tmp 6]⟩
theorem AxZok63 : cfOf AxZ 63 = some AxZc63 := by kernel_rfl
/- conch/gram.Check -/
noncomputable def AxZc64 : CF := ⟨(.seq (.reg [⟨(.some 1), .box 53 (.r 0), .none⟩, ⟨(.some 2), .mv (.c (.i (.ofNat (nat_lit 0)))), .none⟩])
 (.seq (.reg [⟨(.some 3), .mv (.c (.fn 105 [])), .none⟩])
 (.seq (.block 0 (.seq (.reg [⟨(.some 6), .fadr 0 (.r 1), .none⟩, ⟨(.some 7), .ld (.r 6), .none⟩, ⟨(.some 8), .lenSl (.r 7), .none⟩, ⟨(.some 9), .bin .gtr (.r 8) (.c (.i (.ofNat (nat_lit 120)))), .none⟩, ⟨(.some 10), .mv (.r 9), .none⟩, ⟨(.some 11), .fadr 1 (.r 1), (.some (10, false))⟩, ⟨(.some 12), .ld (.r 11), (.some (10, false))⟩, ⟨(.some 13), .lenSl (.r 12), (.some (10, false))⟩, ⟨(.some 14), .bin .gtr (.r 13) (.c (.i (.ofNat (nat_lit 120)))), (.some (10, false))⟩, ⟨(.some 15), .pick (.r 10) (.c (.b true)) (.r 14), .none⟩, ⟨(.some 16), .mv (.r 15), .none⟩, ⟨(.some 17), .fadr 2 (.r 1), (.some (16, false))⟩, ⟨(.some 18), .ld (.r 17), (.some (16, false))⟩, ⟨(.some 19), .lenSl (.r 18), (.some (16, false))⟩, ⟨(.some 20), .bin .gtr (.r 19) (.c (.i (.ofNat (nat_lit 300)))), (.some (16, false))⟩, ⟨(.some 21), .pick (.r 16) (.c (.b true)) (.r 20), .none⟩, ⟨(.some 22), .mv (.r 21), .none⟩, ⟨(.some 23), .fadr 2 (.r 1), (.some (22, false))⟩, ⟨(.some 24), .ld (.r 23), (.some (22, false))⟩, ⟨(.some 25), .mv (.r 3), (.some (22, false))⟩, ⟨(.some 26), .call 106 [(.r 24), (.r 25)], (.some (22, false))⟩, ⟨(.some 27), .un .not (.r 26), (.some (22, false))⟩, ⟨(.some 28), .pick (.r 22) (.c (.b true)) (.r 27), .none⟩, ⟨(.some 5), .mv (.r 28), .none⟩])
 (.cond (.r 5) (.seq (.reg [⟨(.some 2), .mv (.c (.i (.ofNat (nat_lit 7)))), .none⟩])
 .ret) (.seq (.reg [⟨(.some 30), .fadr 0 (.r 1), .none⟩, ⟨(.some 31), .ld (.r 30), .none⟩, ⟨(.some 32), .call 107 [(.r 31), (.c (.fn 108 []))], .none⟩, ⟨(.some 33), .un .not (.r 32), .none⟩, ⟨(.some 34), .mv (.r 33), .none⟩, ⟨(.some 35), .fadr 1 (.r 1), (.some (34, false))⟩, ⟨(.some 36), .ld (.r 35), (.some (34, false))⟩, ⟨(.some 37), .call 107 [(.r 36), (.c (.fn 109 []))], (.some (34, false))⟩, ⟨(.some 38), .un .not (.r 37), (.some (34, false))⟩, ⟨(.some 39), .pick (.r 34) (.c (.b true)) (.r 38), .none⟩, ⟨(.some 29), .mv (.r 39), .none⟩])
 (.cond (.r 29) (.seq (.reg [⟨(.some 2), .mv (.c (.i (.ofNat (nat_lit 10)))), .none⟩])
 .ret) (.seq (.reg [⟨(.some 41), .lda 4 (.r 1), .none⟩, ⟨(.some 42), .call 111 [(.r 41)], .none⟩, ⟨(.some 43), .un .not (.r 42), .none⟩, ⟨(.some 40), .mv (.r 43), .none⟩])
 (.cond (.r 40) (.seq (.reg [⟨(.some 2), .mv (.c (.i (.ofNat (nat_lit 8)))), .none⟩])
 .ret) (.seq (.reg [⟨(.some 45), .lda 4 (.r 1), .none⟩, ⟨(.some 46), .fadr 3 (.r 1), .none⟩, ⟨(.some 47), .ld (.r 46), .none⟩, ⟨(.some 48), .call 103 [(.r 45), (.r 47)], .none⟩, ⟨(.some 49), .un .not (.r 48), .none⟩, ⟨(.some 50), .mv (.r 49), .none⟩, ⟨(.some 51), .fadr 2 (.r 1), (.some (50, false))⟩, ⟨(.some 52), .ld (.r 51), (.some (50, false))⟩, ⟨(.some 53), .mkFn 112 [(.r 1)], (.some (50, false))⟩, ⟨(.some 54), .call 106 [(.r 52), (.r 53)], (.some (50, false))⟩, ⟨(.some 55), .un .not (.r 54), (.some (50, false))⟩, ⟨(.some 56), .pick (.r 50) (.c (.b true)) (.r 55), .none⟩, ⟨(.some 44), .mv (.r 56), .none⟩])
 (.cond (.r 44) (.seq (.reg [⟨(.some 2), .mv (.c (.i (.ofNat (nat_lit 1)))), .none⟩])
 .ret) (.seq (.reg [⟨(.some 58), .fadr 2 (.r 1), .none⟩, ⟨(.some 59), .ld (.r 58), .none⟩, ⟨(.some 60), .call 114 [(.r 59), (.c (.fn 115 []))], .none⟩, ⟨(.some 61), .un .not (.r 60), .none⟩, ⟨(.some 57), .mv (.r 61), .none⟩])
 (.cond (.r 57) (.seq (.reg [⟨(.some 2), .mv (.c (.i (.ofNat (nat_lit 8)))), .none⟩])
 .ret) .skip)))))))))))
 (.seq (.seq (.reg [⟨(.some 62), .fadr 0 (.r 1), .none⟩, ⟨(.some 63), .ld (.r 62), .none⟩, ⟨(.some 64), .lenSl (.r 63), .none⟩, ⟨(.some 65), .bin .add (.r 64) (.c (.i (.ofNat (nat_lit 1)))), .none⟩, ⟨(.some 4), .mv (.r 65), .none⟩])
 (.block 1 (.loop (.seq (.seq (.reg [⟨(.some 66), .mv (.r 4), .none⟩, ⟨(.some 67), .lda 4 (.r 1), .none⟩, ⟨(.some 68), .call 88 [(.r 67)], .none⟩, ⟨(.some 69), .bin .leq (.r 66) (.r 68), .none⟩])
 (.cond (.r 69) .skip (.exit 1)))
 (.seq (.block 2 (.seq (.reg [⟨(.some 72), .lda 4 (.r 1), .none⟩, ⟨(.some 73), .mv (.r 4), .none⟩, ⟨(.some 74), .call 116 [(.r 72), (.r 73)], .none⟩, ⟨(.some 75), .lenSl (.r 74), .none⟩, ⟨(.some 76), .bin .eql (.r 75) (.c (.i (.ofNat (nat_lit 0)))), .none⟩])
 (.cond (.r 76) (.seq (.reg [⟨(.some 2), .mv (.c (.i (.ofNat (nat_lit 9)))), .none⟩])
 .ret) .skip)))
 (.reg [⟨(.some 70), .mv (.r 4), .none⟩, ⟨(.some 71), .bin .add (.r 70) (.c (.i (.ofNat (nat_lit 1)))), .none⟩, ⟨(.some 4), .mv (.r 71), .none⟩]))))))
 (.seq (.reg [⟨(.some 2), .mv (.c (.i (.ofNat (nat_lit 0)))), .none⟩])
 .ret))))), 77, [.tmp 2]⟩
theorem AxZok64 : cfOf AxZ 64 = some AxZc64 := by kernel_rfl
/- conch/gram.Ordered -/
noncomputable def AxZc65 : CF := ⟨(.seq (.reg [⟨(.some 1), .box 53 (.r 0), .none⟩, ⟨(.some 2), .mv (.c (.b false)), .none⟩])
 (.seq (.reg [⟨(.some 3), .mv (.c .nils), .none⟩])
 (.seq (.seq (.reg [⟨(.some 7), .fadr 1 (.r 1), .none⟩, ⟨(.some 8), .ld (.r 7), .none⟩, ⟨(.some 9), .lenSl (.r 8), .none⟩, ⟨(.some 10), .mv (.c (.i (.ofNat (nat_lit 0)))), .none⟩])
 (.block 0 (.loop (.seq (.reg [⟨(.some 11), .bin .lss (.r 10) (.r 9), .none⟩])
 (.seq (.cond (.r 11) .skip (.exit 0))
 (.seq (.block 1 (.seq (.reg [⟨(.some 12), .mv (.r 10), .none⟩, ⟨(.some 4), .mv (.r 12), .none⟩])
 (.seq (.reg [⟨(.some 13), .fadr 0 (.r 1), .none⟩, ⟨(.some 14), .ld (.r 13), .none⟩, ⟨(.some 15), .lenSl (.r 14), .none⟩, ⟨(.some 16), .bin .add (.r 15) (.c (.i (.ofNat (nat_lit 1)))), .none⟩, ⟨(.some 17), .mv (.r 4), .none⟩, ⟨(.some 18), .bin .add (.r 16) (.r 17), .none⟩, ⟨(.some 5), .alloc 3 [(.i (.ofNat (nat_lit 0)))], .none⟩, ⟨.none, .st 1 (.r 5) (.r 18), .none⟩])
 (.seq (.reg [⟨(.some 19), .fadr 2 (.r 1), .none⟩, ⟨(.some 20), .ld (.r 19), .none⟩, ⟨(.some 21), .mkFn 118 [(.r 5)], .none⟩, ⟨(.some 22), .call 117 [(.r 20), (.r 21)], .none⟩, ⟨(.some 6), .mv (.r 22), .none⟩])
 (.seq (.seq (.reg [⟨(.some 23), .mv (.r 6), .none⟩, ⟨(.some 24), .bin .lss (.r 23) (.c (.i (.ofNat (nat_lit 0)))), .none⟩])
 (.cond (.r 24) (.reg [⟨(.some 25), .fadr 2 (.r 1), .none⟩, ⟨(.some 26), .ld (.r 25), .none⟩, ⟨(.some 27), .lenSl (.r 26), .none⟩, ⟨(.some 6), .mv (.r 27), .none⟩]) .skip))
 (.reg [⟨(.some 28), .mv (.r 3), .none⟩, ⟨(.some 29), .mv (.r 6), .none⟩, ⟨(.some 30), .bslice 3 1 1 [(.i (.ofNat (nat_lit 0)))] [(0, 1, (.r 29))], .none⟩, ⟨(.some 31), .app 3 1 (.r 28) (.r 30), .none⟩, ⟨(.some 3), .mv (.r 31), .none⟩]))))))
 (.reg [⟨(.some 32), .bin .add (.r 10) (.c (.i (.ofNat (nat_lit 1)))), .none⟩, ⟨(.some 10), .mv (.r 32), .none⟩])))))))
 (.seq (.reg [⟨(.some 33), .mv (.r 3), .none⟩, ⟨(.some 34), .call 119 [(.r 33)], .none⟩, ⟨(.some 2), .mv (.r 34), .none⟩])
 .ret)))), 35, [.tmp 2]⟩
theorem AxZok65 : cfOf AxZ 65 = some AxZc65 := by kernel_rfl
/- conch/gshow.heads -/
noncomputable def AxZc66 : CF := ⟨(.seq (.reg [⟨(.some 1), .box 53 (.r 0), .none⟩, ⟨(.some 2), .mv (.c (.s 0 (nat_lit 0))), .none⟩])
 (.seq (.reg [⟨(.some 4), .lda 4 (.r 1), .none⟩, ⟨(.some 5), .fadr 3 (.r 1), .none⟩, ⟨(.some 6), .ld (.r 5), .none⟩, ⟨(.some 7), .call 57 [(.r 4), (.r 6)], .none⟩, ⟨(.some 8), .bin .add (.c (.s 7 (nat_lit 9135233864856357))) (.r 7), .none⟩, ⟨(.some 9), .bin .add (.r 8) (.c (.s 4 (nat_lit 170206474))), .none⟩, ⟨(.some 3), .mv (.r 9), .none⟩])
 (.seq (.seq (.reg [⟨(.some 10), .fadr 0 (.r 1), .none⟩, ⟨(.some 11), .ld (.r 10), .none⟩, ⟨(.some 12), .lenSl (.r 11), .none⟩, ⟨(.some 13), .bin .eql (.r 12) (.c (.i (.ofNat (nat_lit 0)))), .none⟩])
 (.cond (.r 13) (.seq (.reg [⟨(.some 14), .mv (.r 3), .none⟩, ⟨(.some 2), .mv (.r 14), .none⟩])
 .ret) .skip))
 (.seq (.reg [⟨(.some 15), .fadr 0 (.r 1), .none⟩, ⟨(.some 16), .ld (.r 15), .none⟩, ⟨(.some 17), .call 120 [(.r 16)], .none⟩, ⟨(.some 18), .bin .add (.c (.s 6 (nat_lit 121381873218597))) (.r 17), .none⟩, ⟨(.some 19), .bin .add (.r 18) (.c (.s 1 (nat_lit 10))), .none⟩, ⟨(.some 20), .mv (.r 3), .none⟩, ⟨(.some 21), .bin .add (.r 19) (.r 20), .none⟩, ⟨(.some 2), .mv (.r 21), .none⟩])
 .ret)))), 22, [.tmp 2]⟩
theorem AxZok66 : cfOf AxZ 66 = some AxZc66 := by kernel_rfl
/- conch/gshow.right -/
noncomputable def AxZc67 : CF := ⟨(.seq (.reg [⟨(.some 2), .box 53 (.r 0), .none⟩, ⟨(.some 3), .box 149 (.r 1), .none⟩, ⟨(.some 4), .mv (.c (.s 0 (nat_lit 0))), .none⟩])
 (.seq (.reg [⟨(.some 5), .mv (.c .nils), .none⟩])
 (.seq (.seq (.reg [⟨(.some 8), .fadr 1 (.r 3), .none⟩, ⟨(.some 9), .ld (.r 8), .none⟩, ⟨(.some 10), .lenSl (.r 9), .none⟩, ⟨(.some 11), .mv (.c (.i (.ofNat (nat_lit 0)))), .none⟩])
 (.block 0 (.loop (.seq (.reg [⟨(.some 12), .bin .lss (.r 11) (.r 10), .none⟩])
 (.seq (.cond (.r 12) .skip (.exit 0))
 (.seq (.block 1 (.seq (.reg [⟨(.some 13), .ixSl 1 (.r 9) (.r 11), .none⟩, ⟨(.some 14), .ld (.r 13), .none⟩, ⟨(.some 7), .mv (.r 14), .none⟩])
 (.reg [⟨(.some 15), .mv (.r 5), .none⟩, ⟨(.some 16), .lda 4 (.r 2), .none⟩, ⟨(.some 17), .mv (.r 7), .none⟩, ⟨(.some 18), .call 57 [(.r 16), (.r 17)], .none⟩, ⟨(.some 19), .bslice 9 1 1 [(.s 0 (nat_lit 0))] [(0, 1, (.r 18))], .none⟩, ⟨(.some 20), .app 9 1 (.r 15) (.r 19), .none⟩, ⟨(.some 5), .mv (.r 20), .none⟩])))
 (.reg [⟨(.some 21), .bin .add (.r 11) (.c (.i (.ofNat (nat_lit 1)))), .none⟩, ⟨(.some 11), .mv (.r 21), .none⟩])))))))
 (.seq (.reg [⟨(.some 22), .mv (.r 5), .none⟩, ⟨(.some 23), .call 120 [(.r 22)], .none⟩, ⟨(.some 4), .mv (.r 23), .none⟩])
 .ret)))), 24, [.tmp 4]⟩
theorem AxZok67 : cfOf AxZ 67 = some AxZc67 := by kernel_rfl
/- conch/gshow.Rule -/
noncomputable def AxZc68 : CF := ⟨(.seq (.reg [⟨(.some 2), .box 53 (.r 0), .none⟩, ⟨(.some 3), .box 149 (.r 1), .none⟩, ⟨(.some 4), .mv (.c (.s 0 (nat_lit 0))), .none⟩])
 (.seq (.dreg [(⟨(.some 5), .lda 4 (.r 2), .none⟩, false), (⟨(.some 6), .fadr 0 (.r 3), .none⟩, false), (⟨(.some 7), .ld (.r 6), .none⟩, false), (⟨(.some 8), .call 57 [(.r 5), (.r 7)], .none⟩, true), (⟨(.some 9), .bin .add (.r 8) (.c (.s 2 (nat_lit 14880))), .none⟩, false), (⟨(.some 10), .lda 4 (.r 2), .none⟩, false), (⟨(.some 11), .lda 2 (.r 3), .none⟩, false), (⟨(.some 12), .call 67 [(.r 10), (.r 11)], .none⟩, true), (⟨(.some 13), .bin .add (.r 9) (.r 12), .none⟩, false), (⟨(.some 4), .mv (.r 13), .none⟩, false)] [(⟨(.some 10), .lda 4 (.r 2), .none⟩, 0, 2), (⟨(.some 11), .lda 2 (.r 3), .none⟩, 0, 2)])
 .ret)), 14, [.tmp 4]⟩
theorem AxZok68 : cfOf AxZ 68 = some AxZc68 := by kernel_rfl
/- (*conch/conchtop.sum).factors -/
noncomputable def AxZc69 : CF := ⟨(.seq (.reg [⟨(.some 2), .mv (.c .nils), .none⟩, ⟨(.some 3), .mv (.c (.s 0 (nat_lit 0))), .none⟩])
 (.seq (.seq (.reg [⟨(.some 6), .mv (.r 0), .none⟩, ⟨(.some 7), .nilck (.r 6), .none⟩, ⟨(.some 8), .fadr 0 (.r 7), .none⟩, ⟨(.some 9), .ld (.r 8), .none⟩, ⟨(.some 10), .bin .eql (.r 9) (.c (.i (.ofNat (nat_lit 0)))), .none⟩])
 (.cond (.r 10) (.seq (.reg [⟨(.some 11), .bslice 3 1 1 [(.i (.ofNat (nat_lit 0)))] [(0, 1, (.c (.i (.ofNat (nat_lit 1)))))], .none⟩, ⟨(.some 2), .mv (.r 11), .none⟩, ⟨(.some 3), .mv (.c (.s 5 (nat_lit 177404405288))), .none⟩])
 .ret) .skip))
 (.seq (.reg [⟨(.some 13), .mv (.r 0), .none⟩, ⟨(.some 14), .call 15 [(.r 13)], .none⟩, ⟨(.some 12), .mv (.r 14), .none⟩, ⟨(.some 15), .ext (.r 12) 0, .none⟩, ⟨(.some 16), .ext (.r 12) 1, .none⟩, ⟨(.some 4), .mv (.r 15), .none⟩, ⟨(.some 5), .mv (.r 16), .none⟩])
 (.seq (.reg [⟨(.some 17), .bslice 3 1 1 [(.i (.ofNat (nat_lit 0)))] [(0, 1, (.c (.i (.ofNat (nat_lit 4)))))], .none⟩, ⟨(.some 18), .mv (.r 4), .none⟩, ⟨(.some 19), .app 3 1 (.r 17) (.r 18), .none⟩, ⟨(.some 20), .bslice 3 1 1 [(.i (.ofNat (nat_lit 0)))] [(0, 1, (.c (.i (.ofNat (nat_lit 5)))))], .none⟩, ⟨(.some 21), .app 3 1 (.r 19) (.r 20), .none⟩, ⟨(.some 22), .mv (.r 5), .none⟩, ⟨(.some 23), .bin .add (.c (.s 7 (nat_lit 9050252663350824))) (.r 22), .none⟩, ⟨(.some 24), .bin .add (.r 23) (.c (.s 5 (nat_lit 176750667552))), .none⟩, ⟨(.some 2), .mv (.r 21), .none⟩, ⟨(.some 3), .mv (.r 24), .none⟩])
 .ret)))), 25, [.tmp 2, .tmp 3]⟩
theorem AxZok69 : cfOf AxZ 69 = some AxZc69 := by kernel_rfl
/- conch/gtok.one -/
noncomputable def AxZc70 : CF := ⟨(.seq (.reg [⟨(.some 4), .mv (.c (.i (.ofNat (nat_lit 0)))), .none⟩, ⟨(.some 5), .mv (.c (.i (.ofNat (nat_lit 0)))), .none⟩, ⟨(.some 6), .mv (.c .nili), .none⟩])
 (.seq (.reg [⟨(.some 14), .mv (.r 0), .none⟩, ⟨(.some 15), .mv (.r 1), .none⟩, ⟨(.some 16), .idxStr (.r 14) (.r 15), .none⟩, ⟨(.some 7), .mv (.r 16), .none⟩])
 (.seq (.block 0 (.seq (.reg [⟨(.some 18), .mv (.r 7), .none⟩, ⟨(.some 19), .call 121 [(.r 18)], .none⟩, ⟨(.some 17), .mv (.r 19), .none⟩])
 (.cond (.r 17) (.seq (.reg [⟨(.some 20), .mv (.r 0), .none⟩, ⟨(.some 21), .mv (.r 1), .none⟩, ⟨(.some 22), .call 122 [(.r 20), (.r 21), (.c (.fn 121 []))], .none⟩, ⟨(.some 4), .mv (.c (.i (.ofNat (nat_lit 0)))), .none⟩, ⟨(.some 5), .mv (.r 22), .none⟩, ⟨(.some 6), .mv (.c .nili), .none⟩])
 .ret) (.seq (.reg [⟨(.some 24), .mv (.r 7), .none⟩, ⟨(.some 25), .bin .eql (.r 24) (.c (.u .u8 (.ofNat (nat_lit 47)))), .none⟩, ⟨(.some 23), .mv (.r 25), .none⟩])
 (.cond (.r 23) (.seq (.reg [⟨(.some 27), .mv (.r 0), .none⟩, ⟨(.some 28), .mv (.r 1), .none⟩, ⟨(.some 29), .call 123 [(.r 27), (.r 28)], .none⟩, ⟨(.some 26), .mv (.r 29), .none⟩, ⟨(.some 30), .ext (.r 26) 0, .none⟩, ⟨(.some 31), .ext (.r 26) 1, .none⟩, ⟨(.some 8), .mv (.r 30), .none⟩, ⟨(.some 9), .mv (.r 31), .none⟩])
 (.seq (.reg [⟨(.some 32), .mv (.r 8), .none⟩, ⟨(.some 33), .mv (.r 9), .none⟩, ⟨(.some 4), .mv (.c (.i (.ofNat (nat_lit 0)))), .none⟩, ⟨(.some 5), .mv (.r 32), .none⟩, ⟨(.some 6), .mv (.r 33), .none⟩])
 .ret)) (.seq (.reg [⟨(.some 35), .mv (.r 7), .none⟩, ⟨(.some 36), .bin .eql (.r 35) (.c (.u .u8 (.ofNat (nat_lit 39)))), .none⟩, ⟨(.some 34), .mv (.r 36), .none⟩])
 (.cond (.r 34) (.seq (.reg [⟨(.some 38), .mv (.r 0), .none⟩, ⟨(.some 39), .mv (.r 1), .none⟩, ⟨(.some 40), .call 124 [(.r 38), (.r 39)], .none⟩, ⟨(.some 37), .mv (.r 40), .none⟩, ⟨(.some 41), .ext (.r 37) 0, .none⟩, ⟨(.some 42), .ext (.r 37) 1, .none⟩, ⟨(.some 10), .mv (.r 41), .none⟩, ⟨(.some 11), .mv (.r 42), .none⟩])
 (.seq (.reg [⟨(.some 43), .mv (.r 10), .none⟩, ⟨(.some 44), .mv (.r 11), .none⟩, ⟨(.some 4), .mv (.c (.i (.ofNat (nat_lit 2)))), .none⟩, ⟨(.some 5), .mv (.r 43), .none⟩, ⟨(.some 6), .mv (.r 44), .none⟩])
 .ret)) (.seq (.reg [⟨(.some 46), .mv (.r 7), .none⟩, ⟨(.some 47), .bin .eql (.r 46) (.c (.u .u8 (.ofNat (nat_lit 37)))), .none⟩, ⟨(.some 45), .mv (.r 47), .none⟩])
 (.cond (.r 45) (.seq (.reg [⟨(.some 48), .mv (.r 0), .none⟩, ⟨(.some 49), .mv (.r 1), .none⟩, ⟨(.some 50), .call 125 [(.r 48), (.r 49)], .none⟩, ⟨(.some 51), .ext (.r 50) 0, .none⟩, ⟨(.some 52), .ext (.r 50) 1, .none⟩, ⟨(.some 53), .ext (.r 50) 2, .none⟩, ⟨(.some 4), .mv (.r 51), .none⟩, ⟨(.some 5), .mv (.r 52), .none⟩, ⟨(.some 6), .mv (.r 53), .none⟩])
 .ret) (.seq (.reg [⟨(.some 55), .mv (.r 7), .none⟩, ⟨(.some 56), .call 126 [(.r 55)], .none⟩, ⟨(.some 57), .bin .eql (.r 56) (.c (.i (.ofNat (nat_lit 4)))), .none⟩, ⟨(.some 54), .mv (.r 57), .none⟩])
 (.cond (.r 54) (.seq (.reg [⟨(.some 58), .mv (.r 0), .none⟩, ⟨(.some 59), .mv (.r 1), .none⟩, ⟨(.some 60), .call 122 [(.r 58), (.r 59), (.c (.fn 127 []))], .none⟩, ⟨(.some 12), .mv (.r 60), .none⟩])
 (.seq (.seq (.reg [⟨(.some 61), .mv (.r 12), .none⟩, ⟨(.some 62), .bin .gtr (.r 61) (.c (.i (.ofNat (nat_lit 24)))), .none⟩])
 (.cond (.r 62) (.seq (.reg [⟨(.some 63), .mv (.r 1), .none⟩, ⟨(.some 64), .call 40 [(.c (.i (.ofNat (nat_lit 5)))), (.r 63)], .none⟩, ⟨(.some 4), .mv (.c (.i (.ofNat (nat_lit 0)))), .none⟩, ⟨(.some 5), .mv (.c (.i (.ofNat (nat_lit 0)))), .none⟩, ⟨(.some 6), .mv (.r 64), .none⟩])
 .ret) .skip))
 (.seq (.reg [⟨(.some 65), .mv (.r 12), .none⟩, ⟨(.some 4), .mv (.c (.i (.ofNat (nat_lit 1)))), .none⟩, ⟨(.some 5), .mv (.r 65), .none⟩, ⟨(.some 6), .mv (.c .nili), .none⟩])
 .ret))) .skip)))))))))))
 (.seq (.seq (.reg [⟨(.some 66), .mv (.r 7), .none⟩, ⟨(.some 67), .call 128 [(.r 66)], .none⟩, ⟨(.some 13), .mv (.r 67), .none⟩])
 (.seq (.reg [⟨(.some 68), .mv (.r 13), .none⟩, ⟨(.some 69), .bin .neq (.r 68) (.c (.i (.ofNat (nat_lit 0)))), .none⟩])
 (.cond (.r 69) (.seq (.reg [⟨(.some 70), .mv (.r 13), .none⟩, ⟨(.some 4), .mv (.r 70), .none⟩, ⟨(.some 5), .mv (.c (.i (.ofNat (nat_lit 1)))), .none⟩, ⟨(.some 6), .mv (.c .nili), .none⟩])
 .ret) .skip)))
 (.seq (.reg [⟨(.some 71), .mv (.r 1), .none⟩, ⟨(.some 72), .call 40 [(.c (.i (.ofNat (nat_lit 2)))), (.r 71)], .none⟩, ⟨(.some 4), .mv (.c (.i (.ofNat (nat_lit 0)))), .none⟩, ⟨(.some 5), .mv (.c (.i (.ofNat (nat_lit 0)))), .none⟩, ⟨(.some 6), .mv (.r 72), .none⟩])
 .ret))))), 73, [.tmp 4, .tmp 5, .tmp 6]⟩
theorem AxZok70 : cfOf AxZ 70 = some AxZc70 := by kernel_rfl
/- (*conch/gread.reader).is -/
noncomputable def AxZc71 : CF := ⟨(.seq (.reg [⟨(.some 4), .mv (.c (.b false)), .none⟩])
 (.seq (.reg [⟨(.some 5), .mv (.r 0), .none⟩, ⟨(.some 6), .nilck (.r 5), .none⟩, ⟨(.some 7), .fadr 0 (.r 6), .none⟩, ⟨(.some 8), .ld (.r 7), .none⟩, ⟨(.some 9), .ixSl 3 (.r 8) (.c (.i (.ofNat (nat_lit 0)))), .none⟩, ⟨(.some 10), .fadr 0 (.r 9), .none⟩, ⟨(.some 11), .ld (.r 10), .none⟩, ⟨(.some 12), .mv (.r 1), .none⟩, ⟨(.some 13), .bin .eql (.r 11) (.r 12), .none⟩, ⟨(.some 4), .mv (.r 13), .none⟩])
 .ret)), 14, [.tmp 4]⟩
theorem AxZok71 : cfOf AxZ 71 = some AxZc71 := by kernel_rfl
/- (*conch/gread.reader).head -/
noncomputable def AxZc72 : CF := ⟨(.block 0 (.seq (.reg [⟨(.some 5), .mv (.r 0), .none⟩, ⟨(.some 6), .call 71 [(.r 5), (.c (.i (.ofNat (nat_lit 7))))], .none⟩, ⟨(.some 4), .mv (.r 6), .none⟩])
 (.cond (.r 4) (.seq (.reg [⟨(.some 7), .mv (.r 0), .none⟩, ⟨(.some 8), .call 73 [(.r 7)], .none⟩])
 (.seq (.seq (.reg [⟨(.some 9), .mv (.r 0), .none⟩, ⟨(.some 10), .call 129 [(.r 9)], .none⟩, ⟨(.some 11), .un .not (.r 10), .none⟩])
 (.cond (.r 11) (.reg [⟨(.some 12), .mv (.r 0), .none⟩, ⟨(.some 13), .call 130 [(.r 12)], .none⟩]) .skip))
 (.block 1 (.loop (.seq (.seq (.reg [⟨(.some 14), .mv (.r 0), .none⟩, ⟨(.some 15), .call 129 [(.r 14)], .none⟩])
 (.cond (.r 15) .skip (.exit 1)))
 (.block 2 (.dreg [(⟨(.some 16), .mv (.r 0), .none⟩, false), (⟨(.some 17), .mv (.r 0), .none⟩, false), (⟨(.some 18), .nilck (.r 17), .none⟩, false), (⟨(.some 19), .fadr 1 (.r 18), .none⟩, false), (⟨(.some 20), .ld (.r 19), .none⟩, false), (⟨(.some 21), .mv (.r 0), .none⟩, false), (⟨(.some 22), .call 73 [(.r 21)], .none⟩, true), (⟨(.some 23), .bslice 158 3 1 [(.i (.ofNat (nat_lit 0))), (.s 0 (nat_lit 0)), (.i (.ofNat (nat_lit 0)))] [(0, 3, (.r 22))], .none⟩, true), (⟨(.some 24), .app 158 3 (.r 20) (.r 23), .none⟩, true), (⟨(.some 25), .nilck (.r 16), .none⟩, false), (⟨(.some 26), .fadr 1 (.r 25), .none⟩, false), (⟨.none, .st 1 (.r 26) (.r 24), .none⟩, true)] [(⟨(.some 20), .ld (.r 19), .none⟩, 0, 3)]))))))) (.seq (.reg [⟨(.some 28), .mv (.r 0), .none⟩, ⟨(.some 29), .call 71 [(.r 28), (.c (.i (.ofNat (nat_lit 8))))], .none⟩, ⟨(.some 27), .mv (.r 29), .none⟩])
 (.cond (.r 27) (.seq (.dreg [(⟨(.some 30), .mv (.r 0), .none⟩, false), (⟨(.some 31), .mv (.r 0), .none⟩, false), (⟨(.some 32), .nilck (.r 31), .none⟩, false), (⟨(.some 33), .fadr 2 (.r 32), .none⟩, false), (⟨(.some 34), .ld (.r 33), .none⟩, false), (⟨(.some 35), .mv (.r 0), .none⟩, false), (⟨(.some 36), .call 73 [(.r 35)], .none⟩, true), (⟨(.some 37), .fld 2 .none (.r 36), .none⟩, false), (⟨(.some 38), .bslice 3 1 1 [(.i (.ofNat (nat_lit 0)))] [(0, 1, (.r 37))], .none⟩, true), (⟨(.some 39), .app 3 1 (.r 34) (.r 38), .none⟩, true), (⟨(.some 40), .nilck (.r 30), .none⟩, false), (⟨(.some 41), .fadr 2 (.r 40), .none⟩, false), (⟨.none, .st 1 (.r 41) (.r 39), .none⟩, true)] [(⟨(.some 34), .ld (.r 33), .none⟩, 0, 3)])
 (.dreg [(⟨(.some 42), .mv (.r 0), .none⟩, false), (⟨(.some 43), .mv (.r 0), .none⟩, false), (⟨(.some 44), .nilck (.r 43), .none⟩, false), (⟨(.some 45), .fadr 3 (.r 44), .none⟩, false), (⟨(.some 46), .ld (.r 45), .none⟩, false), (⟨(.some 47), .mv (.r 0), .none⟩, false), (⟨(.some 48), .call 131 [(.r 47), (.c (.i (.ofNat (nat_lit 1))))], .none⟩, true), (⟨(.some 49), .bslice 158 3 1 [(.i (.ofNat (nat_lit 0))), (.s 0 (nat_lit 0)), (.i (.ofNat (nat_lit 0)))] [(0, 3, (.r 48))], .none⟩, true), (⟨(.some 50), .app 158 3 (.r 46) (.r 49), .none⟩, true), (⟨(.some 51), .nilck (.r 42), .none⟩, false), (⟨(.some 52), .fadr 3 (.r 51), .none⟩, false), (⟨.none, .st 1 (.r 52) (.r 50), .none⟩, true)] [(⟨(.some 46), .ld (.r 45), .none⟩, 0, 3)])) (.reg [⟨(.some 2), .mv (.r 0), .none⟩, ⟨(.some 3), .call 130 [(.r 2)], .none⟩])))))), 53, []⟩
theorem AxZok72 : cfOf AxZ 72 = some AxZc72 := by kernel_rfl
/- (*conch/gread.reader).take -/
noncomputable def AxZc73 : CF := ⟨(.seq (.reg [⟨(.some 2), .alloc 158 [(.i (.ofNat (nat_lit 0))), (.s 0 (nat_lit 0)), (.i (.ofNat (nat_lit 0)))], .none⟩])
 (.seq (.reg [⟨(.some 4), .mv (.r 0), .none⟩, ⟨(.some 5), .nilck (.r 4), .none⟩, ⟨(.some 6), .fadr 0 (.r 5), .none⟩, ⟨(.some 7), .ld (.r 6), .none⟩, ⟨(.some 8), .ixSl 3 (.r 7) (.c (.i (.ofNat (nat_lit 0)))), .none⟩, ⟨(.some 9), .lda 3 (.r 8), .none⟩, ⟨(.some 3), .alloc 158 [(.i (.ofNat (nat_lit 0))), (.s 0 (nat_lit 0)), (.i (.ofNat (nat_lit 0)))], .none⟩, ⟨.none, .st 3 (.r 3) (.r 9), .none⟩])
 (.seq (.reg [⟨(.some 10), .mv (.r 0), .none⟩, ⟨(.some 11), .mv (.r 0), .none⟩, ⟨(.some 12), .nilck (.r 11), .none⟩, ⟨(.some 13), .fadr 0 (.r 12), .none⟩, ⟨(.some 14), .ld (.r 13), .none⟩, ⟨(.some 15), .slSl 3 (.r 14) (.some (.c (.i (.ofNat (nat_lit 1))))) .none .none, .none⟩, ⟨(.some 16), .nilck (.r 10), .none⟩, ⟨(.some 17), .fadr 0 (.r 16), .none⟩, ⟨.none, .st 1 (.r 17) (.r 15), .none⟩])
 (.seq (.reg [⟨(.some 18), .lda 3 (.r 3), .none⟩, ⟨.none, .st 3 (.r 2) (.r 18), .none⟩])
 .ret)))), 19, [.cell 2 3 true]⟩
theorem AxZok73 : cfOf AxZ 73 = some AxZc73 := by kernel_rfl
/- (*conch/gread.reader).rule -/
noncomputable def AxZc74 : CF := ⟨(.seq (.reg [⟨(.some 3), .mv (.r 0), .none⟩, ⟨(.some 4), .call 131 [(.r 3), (.c (.i (.ofNat (nat_lit 1))))], .none⟩, ⟨(.some 5), .build [(.i (.ofNat (nat_lit 0))), (.s 0 (nat_lit 0)), (.i (.ofNat (nat_lit 0))), .nils] [(0, 3, (.r 4))], .none⟩, ⟨(.some 2), .alloc 165 [(.i (.ofNat (nat_lit 0))), (.s 0 (nat_lit 0)), (.i (.ofNat (nat_lit 0))), .nils], .none⟩, ⟨.none, .st 4 (.r 2) (.r 5), .none⟩])
 (.seq (.reg [⟨(.some 6), .mv (.r 0), .none⟩, ⟨(.some 7), .call 131 [(.r 6), (.c (.i (.ofNat (nat_lit 3))))], .none⟩])
 (.seq (.dreg [(⟨(.some 8), .fadr 3 (.r 2), .none⟩, false), (⟨(.some 9), .ld (.r 8), .none⟩, false), (⟨(.some 10), .mv (.r 0), .none⟩, false), (⟨(.some 11), .call 132 [(.r 10)], .none⟩, true), (⟨(.some 12), .bslice 168 2 1 [.nils, (.i (.ofNat (nat_lit 0)))] [(0, 2, (.r 11))], .none⟩, true), (⟨(.some 13), .app 168 2 (.r 9) (.r 12), .none⟩, true), (⟨(.some 14), .fadr 3 (.r 2), .none⟩, false), (⟨.none, .st 1 (.r 14) (.r 13), .none⟩, true)] [(⟨(.some 9), .ld (.r 8), .none⟩, 0, 3)])
 (.seq (.block 0 (.loop (.seq (.seq (.reg [⟨(.some 15), .mv (.r 0), .none⟩, ⟨(.some 16), .call 71 [(.r 15), (.c (.i (.ofNat (nat_lit 4))))], .none⟩])
 (.cond (.r 16) .skip (.exit 0)))
 (.block 1 (.seq (.reg [⟨(.some 17), .mv (.r 0), .none⟩, ⟨(.some 18), .call 73 [(.r 17)], .none⟩])
 (.dreg [(⟨(.some 19), .fadr 3 (.r 2), .none⟩, false), (⟨(.some 20), .ld (.r 19), .none⟩, false), (⟨(.some 21), .mv (.r 0), .none⟩, false), (⟨(.some 22), .call 132 [(.r 21)], .none⟩, true), (⟨(.some 23), .bslice 168 2 1 [.nils, (.i (.ofNat (nat_lit 0)))] [(0, 2, (.r 22))], .none⟩, true), (⟨(.some 24), .app 168 2 (.r 20) (.r 23), .none⟩, true), (⟨(.some 25), .fadr 3 (.r 2), .none⟩, false), (⟨.none, .st 1 (.r 25) (.r 24), .none⟩, true)] [(⟨(.some 20), .ld (.r 19), .none⟩, 0, 3)]))))))
 (.seq (.reg [⟨(.some 26), .mv (.r 0), .none⟩, ⟨(.some 27), .call 131 [(.r 26), (.c (.i (.ofNat (nat_lit 5))))], .none⟩])
 (.seq (.dreg [(⟨(.some 28), .mv (.r 0), .none⟩, false), (⟨(.some 29), .mv (.r 0), .none⟩, false), (⟨(.some 30), .nilck (.r 29), .none⟩, false), (⟨(.some 31), .fadr 4 (.r 30), .none⟩, false), (⟨(.some 32), .ld (.r 31), .none⟩, false), (⟨(.some 33), .lda 4 (.r 2), .none⟩, false), (⟨(.some 34), .bslice 165 4 1 [(.i (.ofNat (nat_lit 0))), (.s 0 (nat_lit 0)), (.i (.ofNat (nat_lit 0))), .nils] [(0, 4, (.r 33))], .none⟩, true), (⟨(.some 35), .app 165 4 (.r 32) (.r 34), .none⟩, true), (⟨(.some 36), .nilck (.r 28), .none⟩, false), (⟨(.some 37), .fadr 4 (.r 36), .none⟩, false), (⟨.none, .st 1 (.r 37) (.r 35), .none⟩, true)] [(⟨(.some 32), .ld (.r 31), .none⟩, 0, 2)])
 (.dreg [(⟨(.some 38), .mv (.r 0), .none⟩, false), (⟨(.some 39), .nilck (.r 38), .none⟩, false), (⟨(.some 40), .fadr 5 (.r 39), .none⟩, false), (⟨(.some 41), .ld (.r 40), .none⟩, false), (⟨(.some 42), .fadr 0 (.r 2), .none⟩, false), (⟨(.some 43), .fadr 1 (.r 42), .none⟩, false), (⟨(.some 44), .ld (.r 43), .none⟩, false), (⟨(.some 45), .lookup (.leaf .str) (.i (.ofNat (nat_lit 0))) false (.r 41) (.r 44), .none⟩, false), (⟨(.some 46), .bin .add (.r 45) (.c (.i (.ofNat (nat_lit 1)))), .none⟩, false), (⟨.none, .mupd (.leaf .str) (.r 41) (.r 44) (.r 46), .none⟩, true)] []))))))), 47, []⟩
theorem AxZok74 : cfOf AxZ 74 = some AxZc74 := by kernel_rfl
/- (*conch/gread.builder).heads -/
noncomputable def AxZc75 : CF := ⟨(.seq (.reg [⟨(.some 1), .box 100 (.r 0), .none⟩])
 (.seq (.reg [⟨(.some 2), .mkFn 133 [(.r 1)], .none⟩, ⟨.none, .deferv (.r 2) [], .none⟩])
 (.reg [⟨(.some 3), .ld (.r 1), .none⟩, ⟨(.some 4), .call 136 [(.r 3)], .none⟩]))), 5, []⟩
theorem AxZok75 : cfOf AxZ 75 = some AxZc75 := by kernel_rfl
/- (*conch/gread.builder).left -/
noncomputable def AxZc76 : CF := ⟨(.seq (.reg [⟨(.some 4), .box 158 (.r 1), .none⟩])
 (.seq (.seq (.dreg [(⟨(.some 7), .mv (.r 0), .none⟩, false), (⟨(.some 8), .nilck (.r 7), .none⟩, false), (⟨(.some 9), .fadr 1 (.r 8), .none⟩, false), (⟨(.some 10), .ld (.r 9), .none⟩, false), (⟨(.some 11), .fadr 1 (.r 4), .none⟩, false), (⟨(.some 12), .ld (.r 11), .none⟩, false), (⟨(.some 13), .lookup (.leaf .str) (.i (.ofNat (nat_lit 0))) false (.r 10) (.r 12), .none⟩, false), (⟨(.some 6), .mv (.r 13), .none⟩, false)] [])
 (.seq (.reg [⟨(.some 14), .mv (.r 6), .none⟩, ⟨(.some 15), .bin .gtr (.r 14) (.c (.i (.ofNat (nat_lit 0)))), .none⟩, ⟨(.some 16), .mv (.r 15), .none⟩, ⟨(.some 17), .mv (.r 6), (.some (16, true))⟩, ⟨(.some 18), .mv (.r 2), (.some (16, true))⟩, ⟨(.some 19), .bin .leq (.r 17) (.r 18), (.some (16, true))⟩, ⟨(.some 20), .pick (.r 16) (.r 19) (.c (.b false)), .none⟩])
 (.cond (.r 20) (.reg [⟨(.some 21), .fadr 2 (.r 4), .none⟩, ⟨(.some 22), .ld (.r 21), .none⟩, ⟨(.some 23), .call 135 [(.c (.i (.ofNat (nat_lit 8)))), (.r 22)], .none⟩]) .skip)))
 (.seq (.seq (.dreg [(⟨(.some 24), .mv (.r 0), .none⟩, false), (⟨(.some 25), .nilck (.r 24), .none⟩, false), (⟨(.some 26), .fadr 2 (.r 25), .none⟩, false), (⟨(.some 27), .ld (.r 26), .none⟩, false), (⟨(.some 28), .fadr 1 (.r 4), .none⟩, false), (⟨(.some 29), .ld (.r 28), .none⟩, false), (⟨(.some 30), .lookup (.leaf .str) (.i (.ofNat (nat_lit 0))) false (.r 27) (.r 29), .none⟩, false), (⟨(.some 31), .bin .gtr (.r 30) (.c (.i (.ofNat (nat_lit 0)))), .none⟩, false)] [])
 (.cond (.r 31) .ret .skip))
 (.seq (.seq (.reg [⟨(.some 32), .mv (.r 0), .none⟩, ⟨(.some 33), .nilck (.r 32), .none⟩, ⟨(.some 34), .fadr 3 (.r 33), .none⟩, ⟨(.some 35), .fadr 1 (.r 34), .none⟩, ⟨(.some 36), .ld (.r 35), .none⟩, ⟨(.some 37), .lenSl (.r 36), .none⟩, ⟨(.some 38), .bin .geq (.r 37) (.c (.i (.ofNat (nat_lit 120)))), .none⟩])
 (.cond (.r 38) (.reg [⟨(.some 39), .fadr 2 (.r 4), .none⟩, ⟨(.some 40), .ld (.r 39), .none⟩, ⟨(.some 41), .call 135 [(.c (.i (.ofNat (nat_lit 7)))), (.r 40)], .none⟩]) .skip))
 (.seq (.dreg [(⟨(.some 42), .mv (.r 0), .none⟩, false), (⟨(.some 43), .mv (.r 0), .none⟩, false), (⟨(.some 44), .nilck (.r 43), .none⟩, false), (⟨(.some 45), .fadr 3 (.r 44), .none⟩, false), (⟨(.some 46), .fadr 1 (.r 45), .none⟩, false), (⟨(.some 47), .ld (.r 46), .none⟩, false), (⟨(.some 48), .fadr 1 (.r 4), .none⟩, false), (⟨(.some 49), .ld (.r 48), .none⟩, false), (⟨(.some 50), .bslice 9 1 1 [(.s 0 (nat_lit 0))] [(0, 1, (.r 49))], .none⟩, true), (⟨(.some 51), .app 9 1 (.r 47) (.r 50), .none⟩, true), (⟨(.some 52), .nilck (.r 42), .none⟩, false), (⟨(.some 53), .fadr 3 (.r 52), .none⟩, false), (⟨(.some 54), .fadr 1 (.r 53), .none⟩, false), (⟨.none, .st 1 (.r 54) (.r 51), .none⟩, true)] [(⟨(.some 47), .ld (.r 46), .none⟩, 0, 2)])
 (.dreg [(⟨(.some 55), .mv (.r 0), .none⟩, false), (⟨(.some 56), .nilck (.r 55), .none⟩, false), (⟨(.some 57), .fadr 2 (.r 56), .none⟩, false), (⟨(.some 58), .ld (.r 57), .none⟩, false), (⟨(.some 59), .fadr 1 (.r 4), .none⟩, false), (⟨(.some 60), .ld (.r 59), .none⟩, false), (⟨(.some 61), .mv (.r 0), .none⟩, false), (⟨(.some 62), .nilck (.r 61), .none⟩, false), (⟨(.some 63), .fadr 3 (.r 62), .none⟩, false), (⟨(.some 64), .fadr 1 (.r 63), .none⟩, false), (⟨(.some 65), .ld (.r 64), .none⟩, false), (⟨(.some 66), .lenSl (.r 65), .none⟩, false), (⟨.none, .mupd (.leaf .str) (.r 58) (.r 60) (.r 66), .none⟩, true)] [])))))), 67, []⟩
theorem AxZok76 : cfOf AxZ 76 = some AxZc76 := by kernel_rfl
/- (*conch/gread.builder).side -/
noncomputable def AxZc77 : CF := ⟨(.seq (.reg [⟨(.some 5), .box 168 (.r 2), .none⟩])
 (.seq (.seq (.reg [⟨(.some 9), .mv (.r 0), .none⟩, ⟨(.some 10), .nilck (.r 9), .none⟩, ⟨(.some 11), .fadr 7 (.r 10), .none⟩, ⟨(.some 12), .ld (.r 11), .none⟩, ⟨(.some 13), .lenSl (.r 12), .none⟩, ⟨(.some 14), .bin .geq (.r 13) (.c (.i (.ofNat (nat_lit 300)))), .none⟩])
 (.cond (.r 14) (.reg [⟨(.some 15), .fadr 1 (.r 5), .none⟩, ⟨(.some 16), .ld (.r 15), .none⟩, ⟨(.some 17), .call 135 [(.c (.i (.ofNat (nat_lit 7)))), (.r 16)], .none⟩]) .skip))
 (.seq (.reg [⟨(.some 18), .mv (.r 1), .none⟩, ⟨(.some 19), .bslice 9 1 1 [(.s 0 (nat_lit 0))] [(0, 1, (.r 18))], .none⟩, ⟨(.some 6), .alloc 50 [.nils], .none⟩, ⟨.none, .st 1 (.r 6) (.r 19), .none⟩])
 (.seq (.seq (.reg [⟨(.some 20), .fadr 0 (.r 5), .none⟩, ⟨(.some 21), .ld (.r 20), .none⟩, ⟨(.some 22), .lenSl (.r 21), .none⟩, ⟨(.some 23), .mv (.c (.i (.ofNat (nat_lit 0)))), .none⟩])
 (.block 0 (.loop (.seq (.reg [⟨(.some 24), .bin .lss (.r 23) (.r 22), .none⟩])
 (.seq (.cond (.r 24) .skip (.exit 0))
 (.seq (.block 1 (.seq (.reg [⟨(.some 25), .mv (.r 23), .none⟩, ⟨(.some 26), .ixSl 3 (.r 21) (.r 23), .none⟩, ⟨(.some 27), .lda 3 (.r 26), .none⟩, ⟨(.some 8), .alloc 158 [(.i (.ofNat (nat_lit 0))), (.s 0 (nat_lit 0)), (.i (.ofNat (nat_lit 0)))], .none⟩, ⟨(.some 7), .mv (.r 25), .none⟩, ⟨.none, .st 3 (.r 8) (.r 27), .none⟩])
 (.seq (.reg [⟨(.some 28), .mv (.r 0), .none⟩, ⟨(.some 29), .lda 3 (.r 8), .none⟩, ⟨(.some 30), .mv (.r 7), .none⟩, ⟨(.some 31), .call 137 [(.r 28), (.r 29), (.r 30)], .none⟩])
 (.reg [⟨(.some 32), .ld (.r 6), .none⟩, ⟨(.some 33), .fadr 1 (.r 8), .none⟩, ⟨(.some 34), .ld (.r 33), .none⟩, ⟨(.some 35), .bslice 9 1 1 [(.s 0 (nat_lit 0))] [(0, 1, (.r 34))], .none⟩, ⟨(.some 36), .app 9 1 (.r 32) (.r 35), .none⟩, ⟨.none, .st 1 (.r 6) (.r 36), .none⟩]))))
 (.reg [⟨(.some 37), .bin .add (.r 23) (.c (.i (.ofNat (nat_lit 1)))), .none⟩, ⟨(.some 23), .mv (.r 37), .none⟩])))))))
 (.seq (.seq (.reg [⟨(.some 38), .mv (.r 0), .none⟩, ⟨(.some 39), .nilck (.r 38), .none⟩, ⟨(.some 40), .fadr 7 (.r 39), .none⟩, ⟨(.some 41), .ld (.r 40), .none⟩, ⟨(.some 42), .mkFn 139 [(.r 6)], .none⟩, ⟨(.some 43), .call 138 [(.r 41), (.r 42)], .none⟩])
 (.cond (.r 43) (.reg [⟨(.some 44), .fadr 1 (.r 5), .none⟩, ⟨(.some 45), .ld (.r 44), .none⟩, ⟨(.some 46), .call 135 [(.c (.i (.ofNat (nat_lit 8)))), (.r 45)], .none⟩]) .skip))
 (.dreg [(⟨(.some 47), .mv (.r 0), .none⟩, false), (⟨(.some 48), .mv (.r 0), .none⟩, false), (⟨(.some 49), .nilck (.r 48), .none⟩, false), (⟨(.some 50), .fadr 7 (.r 49), .none⟩, false), (⟨(.some 51), .ld (.r 50), .none⟩, false), (⟨(.some 52), .ld (.r 6), .none⟩, false), (⟨(.some 53), .bslice 50 1 1 [.nils] [(0, 1, (.r 52))], .none⟩, true), (⟨(.some 54), .app 50 1 (.r 51) (.r 53), .none⟩, true), (⟨(.some 55), .nilck (.r 47), .none⟩, false), (⟨(.some 56), .fadr 7 (.r 55), .none⟩, false), (⟨.none, .st 1 (.r 56) (.r 54), .none⟩, true)] [(⟨(.some 51), .ld (.r 50), .none⟩, 0, 2)])))))), 57, []⟩
theorem AxZok77 : cfOf AxZ 77 = some AxZc77 := by kernel_rfl
/- conch/gram.Find -/
noncomputable def AxZc78 : CF := ⟨(.seq (.reg [⟨(.some 2), .box 53 (.r 0), .none⟩, ⟨(.some 4), .mv (.c (.i (.ofNat (nat_lit 0)))), .none⟩])
 (.seq (.seq (.reg [⟨(.some 7), .fadr 0 (.r 2), .none⟩, ⟨(.some 8), .ld (.r 7), .none⟩, ⟨(.some 9), .mv (.r 1), .none⟩, ⟨(.some 10), .call 141 [(.r 8), (.r 9)], .none⟩, ⟨(.some 5), .mv (.r 10), .none⟩])
 (.seq (.reg [⟨(.some 11), .mv (.r 5), .none⟩, ⟨(.some 12), .bin .geq (.r 11) (.c (.i (.ofNat (nat_lit 0)))), .none⟩])
 (.cond (.r 12) (.seq (.reg [⟨(.some 13), .mv (.r 5), .none⟩, ⟨(.some 14), .bin .add (.r 13) (.c (.i (.ofNat (nat_lit 1)))), .none⟩, ⟨(.some 4), .mv (.r 14), .none⟩])
 .ret) .skip)))
 (.seq (.seq (.reg [⟨(.some 15), .fadr 1 (.r 2), .none⟩, ⟨(.some 16), .ld (.r 15), .none⟩, ⟨(.some 17), .mv (.r 1), .none⟩, ⟨(.some 18), .call 141 [(.r 16), (.r 17)], .none⟩, ⟨(.some 6), .mv (.r 18), .none⟩])
 (.seq (.reg [⟨(.some 19), .mv (.r 6), .none⟩, ⟨(.some 20), .bin .geq (.r 19) (.c (.i (.ofNat (nat_lit 0)))), .none⟩])
 (.cond (.r 20) (.seq (.reg [⟨(.some 21), .fadr 0 (.r 2), .none⟩, ⟨(.some 22), .ld (.r 21), .none⟩, ⟨(.some 23), .lenSl (.r 22), .none⟩, ⟨(.some 24), .mv (.r 6), .none⟩, ⟨(.some 25), .bin .add (.r 23) (.r 24), .none⟩, ⟨(.some 26), .bin .add (.r 25) (.c (.i (.ofNat (nat_lit 1)))), .none⟩, ⟨(.some 4), .mv (.r 26), .none⟩])
 .ret) .skip)))
 (.seq (.reg [⟨(.some 4), .mv (.c (.i (.ofNat (nat_lit 0)))), .none⟩])
 .ret)))), 27, [.tmp 4]⟩
theorem AxZok78 : cfOf AxZ 78 = some AxZc78 := by kernel_rfl
/- conch/acts.makes -/
noncomputable def AxZc79 : CF := ⟨(.seq (.reg [⟨(.some 1), .box 53 (.r 0), .none⟩, ⟨(.some 2), .alloc 173 [(.i (.ofNat (nat_lit 0))), .nils, .nils], .none⟩, ⟨(.some 3), .mv (.c (.i (.ofNat (nat_lit 0)))), .none⟩])
 (.seq (.reg [⟨(.some 8), .lda 4 (.r 1), .none⟩, ⟨(.some 9), .call 44 [(.r 8)], .none⟩, ⟨(.some 7), .mv (.r 9), .none⟩, ⟨(.some 10), .ext (.r 7) 0, .none⟩, ⟨(.some 11), .ext (.r 7) 1, .none⟩, ⟨(.some 4), .mv (.r 10), .none⟩, ⟨(.some 5), .mv (.r 11), .none⟩])
 (.seq (.seq (.reg [⟨(.some 12), .mv (.r 5), .none⟩, ⟨(.some 13), .bin .neq (.r 12) (.c (.i (.ofNat (nat_lit 0)))), .none⟩])
 (.cond (.r 13) (.seq (.reg [⟨(.some 14), .build [(.i (.ofNat (nat_lit 0))), .nils, .nils] [], .none⟩, ⟨(.some 15), .mv (.r 5), .none⟩, ⟨.none, .st 3 (.r 2) (.r 14), .none⟩, ⟨(.some 3), .mv (.r 15), .none⟩])
 .ret) .skip))
 (.seq (.reg [⟨(.some 17), .lda 4 (.r 1), .none⟩, ⟨(.some 18), .call 142 [(.r 17)], .none⟩, ⟨(.some 16), .mv (.r 18), .none⟩, ⟨(.some 19), .ext (.r 16) 0, .none⟩, ⟨(.some 20), .ext (.r 16) 1, .none⟩, ⟨(.some 6), .mv (.r 19), .none⟩, ⟨(.some 5), .mv (.r 20), .none⟩])
 (.seq (.reg [⟨(.some 21), .fadr 2 (.r 1), .none⟩, ⟨(.some 22), .ld (.r 21), .none⟩, ⟨(.some 23), .lenSl (.r 22), .none⟩, ⟨(.some 24), .mv (.r 4), .none⟩, ⟨(.some 25), .mv (.r 6), .none⟩, ⟨(.some 26), .build [(.i (.ofNat (nat_lit 0))), .nils, .nils] [(0, 1, (.r 23)), (1, 1, (.r 24)), (2, 1, (.r 25))], .none⟩, ⟨(.some 27), .mv (.r 5), .none⟩, ⟨.none, .st 3 (.r 2) (.r 26), .none⟩, ⟨(.some 3), .mv (.r 27), .none⟩])
 .ret))))), 28, [.cell 2 3 true, .tmp 3]⟩
theorem AxZok79 : cfOf AxZ 79 = some AxZc79 := by kernel_rfl
/- (conch/acts.made).clashes -/
noncomputable def AxZc80 : CF := ⟨(.seq (.reg [⟨(.some 2), .box 173 (.r 0), .none⟩, ⟨(.some 4), .mv (.c .nils), .none⟩])
 (.seq (.reg [⟨(.some 5), .mv (.c .nils), .none⟩])
 (.seq (.seq (.reg [⟨(.some 10), .fadr 1 (.r 2), .none⟩, ⟨(.some 11), .ld (.r 10), .none⟩, ⟨(.some 12), .lenSl (.r 11), .none⟩, ⟨(.some 13), .mv (.c (.i (.ofNat (nat_lit 0)))), .none⟩])
 (.block 0 (.loop (.seq (.reg [⟨(.some 14), .bin .lss (.r 13) (.r 12), .none⟩])
 (.seq (.cond (.r 14) .skip (.exit 0))
 (.seq (.block 1 (.seq (.reg [⟨(.some 15), .mv (.r 13), .none⟩, ⟨(.some 6), .mv (.r 15), .none⟩])
 (.seq (.reg [⟨(.some 16), .mv (.r 1), .none⟩, ⟨(.some 17), .bin .add (.r 16) (.c (.i (.ofNat (nat_lit 1)))), .none⟩, ⟨(.some 18), .mv (.c (.i (.ofNat (nat_lit 0)))), .none⟩])
 (.block 2 (.loop (.seq (.reg [⟨(.some 19), .bin .lss (.r 18) (.r 17), .none⟩])
 (.seq (.cond (.r 19) .skip (.exit 2))
 (.seq (.block 3 (.seq (.reg [⟨(.some 20), .mv (.r 18), .none⟩, ⟨(.some 7), .mv (.r 20), .none⟩])
 (.seq (.reg [⟨(.some 21), .lda 3 (.r 2), .none⟩, ⟨(.some 22), .mv (.r 6), .none⟩, ⟨(.some 23), .mv (.r 7), .none⟩, ⟨(.some 24), .call 143 [(.r 21), (.r 22), (.r 23)], .none⟩, ⟨(.some 8), .mv (.r 24), .none⟩])
 (.seq (.reg [⟨(.some 9), .mv (.c (.i (.ofNat (nat_lit 1)))), .none⟩])
 (.block 4 (.loop (.seq (.seq (.reg [⟨(.some 25), .mv (.r 9), .none⟩, ⟨(.some 26), .mv (.r 8), .none⟩, ⟨(.some 27), .lenSl (.r 26), .none⟩, ⟨(.some 28), .bin .lss (.r 25) (.r 27), .none⟩])
 (.cond (.r 28) .skip (.exit 4)))
 (.seq (.block 5 (.dreg [(⟨(.some 31), .mv (.r 5), .none⟩, false), (⟨(.some 32), .mv (.r 6), .none⟩, false), (⟨(.some 33), .mv (.r 7), .none⟩, false), (⟨(.some 34), .mv (.r 8), .none⟩, false), (⟨(.some 35), .ixSl 2 (.r 34) (.c (.i (.ofNat (nat_lit 0)))), .none⟩, false), (⟨(.some 36), .lda 2 (.r 35), .none⟩, false), (⟨(.some 37), .mv (.r 8), .none⟩, false), (⟨(.some 38), .mv (.r 9), .none⟩, false), (⟨(.some 39), .ixSl 2 (.r 37) (.r 38), .none⟩, false), (⟨(.some 40), .lda 2 (.r 39), .none⟩, false), (⟨(.some 41), .build [(.i (.ofNat (nat_lit 0))), (.i (.ofNat (nat_lit 0))), (.i (.ofNat (nat_lit 0))), (.i (.ofNat (nat_lit 0))), (.i (.ofNat (nat_lit 0))), (.i (.ofNat (nat_lit 0)))] [(0, 1, (.r 32)), (1, 1, (.r 33)), (2, 2, (.r 36)), (4, 2, (.r 40))], .none⟩, false), (⟨(.some 42), .bslice 252 6 1 [(.i (.ofNat (nat_lit 0))), (.i (.ofNat (nat_lit 0))), (.i (.ofNat (nat_lit 0))), (.i (.ofNat (nat_lit 0))), (.i (.ofNat (nat_lit 0))), (.i (.ofNat (nat_lit 0)))] [(0, 6, (.r 41))], .none⟩, true), (⟨(.some 43), .app 252 6 (.r 31) (.r 42), .none⟩, true), (⟨(.some 5), .mv (.r 43), .none⟩, false)] []))
 (.reg [⟨(.some 29), .mv (.r 9), .none⟩, ⟨(.some 30), .bin .add (.r 29) (.c (.i (.ofNat (nat_lit 1)))), .none⟩, ⟨(.some 9), .mv (.r 30), .none⟩])))))))))
 (.reg [⟨(.some 44), .bin .add (.r 18) (.c (.i (.ofNat (nat_lit 1)))), .none⟩, ⟨(.some 18), .mv (.r 44), .none⟩])))))))))
 (.reg [⟨(.some 45), .bin .add (.r 13) (.c (.i (.ofNat (nat_lit 1)))), .none⟩, ⟨(.some 13), .mv (.r 45), .none⟩])))))))
 (.seq (.reg [⟨(.some 46), .mv (.r 5), .none⟩, ⟨(.some 4), .mv (.r 46), .none⟩])
 .ret)))), 47, [.tmp 4]⟩
theorem AxZok80 : cfOf AxZ 80 = some AxZc80 := by kernel_rfl
/- conch/gram.Rule -/
noncomputable def AxZc81 : CF := ⟨(.seq (.reg [⟨(.some 2), .box 53 (.r 0), .none⟩, ⟨(.some 4), .alloc 149 [(.i (.ofNat (nat_lit 0))), .nils], .none⟩, ⟨(.some 5), .mv (.c (.b false)), .none⟩])
 (.seq (.block 0 (.seq (.reg [⟨(.some 7), .mv (.r 1), .none⟩, ⟨(.some 8), .bin .lss (.r 7) (.c (.i (.ofNat (nat_lit 0)))), .none⟩, ⟨(.some 9), .mv (.r 8), .none⟩, ⟨(.some 10), .mv (.r 1), (.some (9, false))⟩, ⟨(.some 11), .fadr 2 (.r 2), (.some (9, false))⟩, ⟨(.some 12), .ld (.r 11), (.some (9, false))⟩, ⟨(.some 13), .lenSl (.r 12), (.some (9, false))⟩, ⟨(.some 14), .bin .gtr (.r 10) (.r 13), (.some (9, false))⟩, ⟨(.some 15), .pick (.r 9) (.c (.b true)) (.r 14), .none⟩, ⟨(.some 6), .mv (.r 15), .none⟩])
 (.cond (.r 6) (.seq (.reg [⟨(.some 16), .build [(.i (.ofNat (nat_lit 0))), .nils] [], .none⟩, ⟨.none, .st 2 (.r 4) (.r 16), .none⟩, ⟨(.some 5), .mv (.c (.b false)), .none⟩])
 .ret) (.seq (.reg [⟨(.some 18), .mv (.r 1), .none⟩, ⟨(.some 19), .fadr 2 (.r 2), .none⟩, ⟨(.some 20), .ld (.r 19), .none⟩, ⟨(.some 21), .lenSl (.r 20), .none⟩, ⟨(.some 22), .bin .eql (.r 18) (.r 21), .none⟩, ⟨(.some 17), .mv (.r 22), .none⟩])
 (.cond (.r 17) (.seq (.reg [⟨(.some 23), .fadr 3 (.r 2), .none⟩, ⟨(.some 24), .ld (.r 23), .none⟩, ⟨(.some 25), .bslice 3 1 1 [(.i (.ofNat (nat_lit 0)))] [(0, 1, (.r 24))], .none⟩, ⟨(.some 26), .build [(.i (.ofNat (nat_lit 0))), .nils] [(1, 1, (.r 25))], .none⟩, ⟨.none, .st 2 (.r 4) (.r 26), .none⟩, ⟨(.some 5), .mv (.c (.b true)), .none⟩])
 .ret) .skip)))))
 (.seq (.reg [⟨(.some 27), .fadr 2 (.r 2), .none⟩, ⟨(.some 28), .ld (.r 27), .none⟩, ⟨(.some 29), .mv (.r 1), .none⟩, ⟨(.some 30), .ixSl 2 (.r 28) (.r 29), .none⟩, ⟨(.some 31), .lda 2 (.r 30), .none⟩, ⟨.none, .st 2 (.r 4) (.r 31), .none⟩, ⟨(.some 5), .mv (.c (.b true)), .none⟩])
 .ret))), 32, [.cell 4 2 true, .tmp 5]⟩
theorem AxZok81 : cfOf AxZ 81 = some AxZc81 := by kernel_rfl
/- conch/acts.possible -/
noncomputable def AxZc82 : CF := ⟨(.seq (.reg [⟨(.some 4), .box 3 (.r 0), .none⟩, ⟨(.some 5), .box 183 (.r 1), .none⟩, ⟨(.some 6), .box 188 (.r 2), .none⟩, ⟨(.some 7), .box 3 (.r 3), .none⟩, ⟨(.some 8), .mv (.c .nilf), .none⟩])
 (.seq (.reg [⟨(.some 9), .mkFn 144 [(.r 5), (.r 7), (.r 6), (.r 4)], .none⟩, ⟨(.some 8), .mv (.r 9), .none⟩])
 .ret)), 10, [.tmp 8]⟩
theorem AxZok82 : cfOf AxZ 82 = some AxZc82 := by kernel_rfl
/- conch/auto.Goto -/
noncomputable def AxZc83 : CF := ⟨(.seq (.reg [⟨(.some 6), .mv (.c (.i (.ofNat (nat_lit 0)))), .none⟩])
 (.seq (.seq (.reg [⟨(.some 9), .mv (.r 1), .none⟩, ⟨(.some 10), .bin .lss (.r 9) (.c (.i (.ofNat (nat_lit 0)))), .none⟩, ⟨(.some 11), .mv (.r 10), .none⟩, ⟨(.some 12), .mv (.r 1), (.some (11, false))⟩, ⟨(.some 13), .mv (.r 0), (.some (11, false))⟩, ⟨(.some 14), .lenSl (.r 13), (.some (11, false))⟩, ⟨(.some 15), .bin .geq (.r 12) (.r 14), (.some (11, false))⟩, ⟨(.some 16), .pick (.r 11) (.c (.b true)) (.r 15), .none⟩])
 (.cond (.r 16) (.seq (.reg [⟨(.some 6), .mv (.c (.i (.negSucc (nat_lit 0)))), .none⟩])
 .ret) .skip))
 (.seq (.seq (.reg [⟨(.some 17), .mv (.r 0), .none⟩, ⟨(.some 18), .mv (.r 1), .none⟩, ⟨(.some 19), .ixSl 2 (.r 17) (.r 18), .none⟩, ⟨(.some 20), .fadr 1 (.r 19), .none⟩, ⟨(.some 21), .ld (.r 20), .none⟩, ⟨(.some 22), .lenSl (.r 21), .none⟩, ⟨(.some 23), .mv (.c (.i (.ofNat (nat_lit 0)))), .none⟩])
 (.block 0 (.loop (.seq (.reg [⟨(.some 24), .bin .lss (.r 23) (.r 22), .none⟩])
 (.seq (.cond (.r 24) .skip (.exit 0))
 (.seq (.block 1 (.seq (.reg [⟨(.some 25), .ixSl 2 (.r 21) (.r 23), .none⟩, ⟨(.some 26), .lda 2 (.r 25), .none⟩, ⟨(.some 8), .alloc 201 [(.i (.ofNat (nat_lit 0))), (.i (.ofNat (nat_lit 0)))], .none⟩, ⟨.none, .st 2 (.r 8) (.r 26), .none⟩])
 (.seq (.reg [⟨(.some 27), .fadr 0 (.r 8), .none⟩, ⟨(.some 28), .ld (.r 27), .none⟩, ⟨(.some 29), .mv (.r 2), .none⟩, ⟨(.some 30), .bin .eql (.r 28) (.r 29), .none⟩])
 (.cond (.r 30) (.seq (.reg [⟨(.some 31), .fadr 1 (.r 8), .none⟩, ⟨(.some 32), .ld (.r 31), .none⟩, ⟨(.some 6), .mv (.r 32), .none⟩])
 .ret) .skip))))
 (.reg [⟨(.some 33), .bin .add (.r 23) (.c (.i (.ofNat (nat_lit 1)))), .none⟩, ⟨(.some 23), .mv (.r 33), .none⟩])))))))
 (.seq (.reg [⟨(.some 6), .mv (.c (.i (.negSucc (nat_lit 0)))), .none⟩])
 .ret)))), 34, [.tmp 6]⟩
theorem AxZok83 : cfOf AxZ 83 = some AxZc83 := by kernel_rfl
/- (*conch/auto.builder).prepare -/
noncomputable def AxZc84 : CF := ⟨(.seq (.reg [⟨(.some 10), .mv (.r 0), .none⟩, ⟨(.some 11), .mv (.r 0), .none⟩, ⟨(.some 12), .nilck (.r 11), .none⟩, ⟨(.some 13), .fadr 0 (.r 12), .none⟩, ⟨(.some 14), .lda 4 (.r 13), .none⟩, ⟨(.some 15), .call 88 [(.r 14)], .none⟩, ⟨(.some 16), .bin .add (.r 15) (.c (.i (.ofNat (nat_lit 1)))), .none⟩, ⟨(.some 17), .mkSl 180 1 [.nils] (.r 16) (.r 16), .none⟩, ⟨(.some 18), .nilck (.r 10), .none⟩, ⟨(.some 19), .fadr 4 (.r 18), .none⟩, ⟨.none, .st 1 (.r 19) (.r 17), .none⟩])
 (.seq (.reg [⟨(.some 20), .mv (.r 0), .none⟩, ⟨(.some 21), .nilck (.r 20), .none⟩, ⟨(.some 22), .fadr 0 (.r 21), .none⟩, ⟨(.some 23), .fadr 0 (.r 22), .none⟩, ⟨(.some 24), .ld (.r 23), .none⟩, ⟨(.some 25), .lenSl (.r 24), .none⟩, ⟨(.some 26), .bin .add (.r 25) (.c (.i (.ofNat (nat_lit 1)))), .none⟩, ⟨(.some 2), .mv (.r 26), .none⟩])
 (.block 0 (.loop (.seq (.seq (.reg [⟨(.some 27), .mv (.r 2), .none⟩, ⟨(.some 28), .mv (.r 0), .none⟩, ⟨(.some 29), .nilck (.r 28), .none⟩, ⟨(.some 30), .fadr 0 (.r 29), .none⟩, ⟨(.some 31), .lda 4 (.r 30), .none⟩, ⟨(.some 32), .call 88 [(.r 31)], .none⟩, ⟨(.some 33), .bin .leq (.r 27) (.r 32), .none⟩])
 (.cond (.r 33) .skip (.exit 0)))
 (.seq (.block 1 (.seq (.reg [⟨(.some 36), .mkMap, .none⟩, ⟨(.some 37), .mv (.r 2), .none⟩, ⟨.none, .mupd (.leaf .int) (.r 36) (.r 37) (.c (.b true)), .none⟩, ⟨(.some 38), .mv (.r 36), .none⟩, ⟨(.some 3), .mv (.r 38), .none⟩])
 (.seq (.reg [⟨(.some 39), .mv (.r 2), .none⟩, ⟨(.some 40), .bslice 3 1 1 [(.i (.ofNat (nat_lit 0)))] [(0, 1, (.r 39))], .none⟩, ⟨(.some 4), .mv (.r 40), .none⟩])
 (.seq (.reg [⟨(.some 5), .mv (.c .nils), .none⟩])
 (.seq (.block 2 (.loop (.seq (.seq (.reg [⟨(.some 41), .mv (.r 4), .none⟩, ⟨(.some 42), .lenSl (.r 41), .none⟩, ⟨(.some 43), .bin .gtr (.r 42) (.c (.i (.ofNat (nat_lit 0)))), .none⟩])
 (.cond (.r 43) .skip (.exit 2)))
 (.block 3 (.seq (.reg [⟨(.some 44), .mv (.r 0), .none⟩, ⟨(.some 45), .mv (.r 4), .none⟩, ⟨(.some 46), .ixSl 1 (.r 45) (.c (.i (.ofNat (nat_lit 0)))), .none⟩, ⟨(.some 47), .ld (.r 46), .none⟩, ⟨(.some 48), .call 145 [(.r 44), (.r 47)], .none⟩, ⟨(.some 6), .mv (.r 48), .none⟩])
 (.seq (.reg [⟨(.some 49), .mv (.r 4), .none⟩, ⟨(.some 50), .slSl 1 (.r 49) (.some (.c (.i (.ofNat (nat_lit 1))))) .none .none, .none⟩, ⟨(.some 4), .mv (.r 50), .none⟩])
 (.seq (.reg [⟨(.some 51), .mv (.r 5), .none⟩, ⟨(.some 52), .mv (.r 6), .none⟩, ⟨(.some 53), .app 259 2 (.r 51) (.r 52), .none⟩, ⟨(.some 5), .mv (.r 53), .none⟩])
 (.seq (.reg [⟨(.some 54), .mv (.r 6), .none⟩, ⟨(.some 55), .lenSl (.r 54), .none⟩, ⟨(.some 56), .mv (.c (.i (.ofNat (nat_lit 0)))), .none⟩])
 (.block 4 (.loop (.seq (.reg [⟨(.some 57), .bin .lss (.r 56) (.r 55), .none⟩])
 (.seq (.cond (.r 57) .skip (.exit 4))
 (.seq (.block 5 (.seq (.reg [⟨(.some 58), .ixSl 2 (.r 54) (.r 56), .none⟩, ⟨(.some 59), .lda 2 (.r 58), .none⟩, ⟨(.some 8), .alloc 259 [(.i (.ofNat (nat_lit 0))), (.i (.ofNat (nat_lit 0)))], .none⟩, ⟨.none, .st 2 (.r 8) (.r 59), .none⟩])
 (.seq (.reg [⟨(.some 60), .mv (.r 0), .none⟩, ⟨(.some 61), .lda 2 (.r 8), .none⟩, ⟨(.some 62), .call 146 [(.r 60), (.r 61)], .none⟩, ⟨(.some 9), .mv (.r 62), .none⟩])
 (.seq (.reg [⟨(.some 63), .mv (.r 0), .none⟩, ⟨(.some 64), .nilck (.r 63), .none⟩, ⟨(.some 65), .fadr 0 (.r 64), .none⟩, ⟨(.some 66), .lda 4 (.r 65), .none⟩, ⟨(.some 67), .mv (.r 9), .none⟩, ⟨(.some 68), .call 103 [(.r 66), (.r 67)], .none⟩, ⟨(.some 69), .mv (.r 68), .none⟩, ⟨(.some 70), .mv (.r 3), (.some (69, true))⟩, ⟨(.some 71), .mv (.r 9), (.some (69, true))⟩, ⟨(.some 72), .lookup (.leaf .int) (.b false) false (.r 70) (.r 71), (.some (69, true))⟩, ⟨(.some 73), .un .not (.r 72), (.some (69, true))⟩, ⟨(.some 74), .pick (.r 69) (.r 73) (.c (.b false)), .none⟩])
 (.cond (.r 74) (.seq (.reg [⟨(.some 75), .mv (.r 3), .none⟩, ⟨(.some 76), .mv (.r 9), .none⟩, ⟨.none, .mupd (.leaf .int) (.r 75) (.r 76) (.c (.b true)), .none⟩])
 (.reg [⟨(.some 77), .mv (.r 4), .none⟩, ⟨(.some 78), .mv (.r 9), .none⟩, ⟨(.some 79), .bslice 3 1 1 [(.i (.ofNat (nat_lit 0)))] [(0, 1, (.r 78))], .none⟩, ⟨(.some 80), .app 3 1 (.r 77) (.r 79), .none⟩, ⟨(.some 4), .mv (.r 80), .none⟩])) .skip)))))
 (.reg [⟨(.some 81), .bin .add (.r 56) (.c (.i (.ofNat (nat_lit 1)))), .none⟩, ⟨(.some 56), .mv (.r 81), .none⟩]))))))))))))))
 (.reg [⟨(.some 82), .mv (.r 0), .none⟩, ⟨(.some 83), .nilck (.r 82), .none⟩, ⟨(.some 84), .fadr 4 (.r 83), .none⟩, ⟨(.some 85), .ld (.r 84), .none⟩, ⟨(.some 86), .mv (.r 2), .none⟩, ⟨(.some 87), .mv (.r 5), .none⟩, ⟨(.some 88), .ixSl 1 (.r 85) (.r 86), .none⟩, ⟨.none, .st 1 (.r 88) (.r 87), .none⟩]))))))
 (.reg [⟨(.some 34), .mv (.r 2), .none⟩, ⟨(.some 35), .bin .add (.r 34) (.c (.i (.ofNat (nat_lit 1)))), .none⟩, ⟨(.some 2), .mv (.r 35), .none⟩]))))))), 89, []⟩
theorem AxZok84 : cfOf AxZ 84 = some AxZc84 := by kernel_rfl
/- (*conch/auto.builder).state -/
noncomputable def AxZc85 : CF := ⟨(.seq (.reg [⟨(.some 4), .mv (.c (.i (.ofNat (nat_lit 0)))), .none⟩])
 (.seq (.reg [⟨(.some 8), .mv (.r 1), .none⟩, ⟨(.some 9), .call 147 [(.r 8)], .none⟩, ⟨(.some 5), .mv (.r 9), .none⟩])
 (.seq (.seq (.reg [⟨(.some 11), .mv (.r 0), .none⟩, ⟨(.some 12), .nilck (.r 11), .none⟩, ⟨(.some 13), .fadr 6 (.r 12), .none⟩, ⟨(.some 14), .ld (.r 13), .none⟩, ⟨(.some 15), .mv (.r 5), .none⟩, ⟨(.some 16), .lookup (.leaf .str) (.i (.ofNat (nat_lit 0))) true (.r 14) (.r 15), .none⟩, ⟨(.some 10), .mv (.r 16), .none⟩, ⟨(.some 17), .ext (.r 10) 0, .none⟩, ⟨(.some 18), .ext (.r 10) 1, .none⟩, ⟨(.some 6), .mv (.r 17), .none⟩, ⟨(.some 7), .mv (.r 18), .none⟩])
 (.seq (.reg [⟨(.some 19), .mv (.r 7), .none⟩])
 (.cond (.r 19) (.seq (.reg [⟨(.some 20), .mv (.r 6), .none⟩, ⟨(.some 4), .mv (.r 20), .none⟩])
 .ret) .skip)))
 (.seq (.dreg [(⟨(.some 21), .mv (.r 0), .none⟩, false), (⟨(.some 22), .nilck (.r 21), .none⟩, false), (⟨(.some 23), .fadr 6 (.r 22), .none⟩, false), (⟨(.some 24), .ld (.r 23), .none⟩, false), (⟨(.some 25), .mv (.r 5), .none⟩, false), (⟨(.some 26), .mv (.r 0), .none⟩, false), (⟨(.some 27), .nilck (.r 26), .none⟩, false), (⟨(.some 28), .fadr 5 (.r 27), .none⟩, false), (⟨(.some 29), .ld (.r 28), .none⟩, false), (⟨(.some 30), .lenSl (.r 29), .none⟩, false), (⟨.none, .mupd (.leaf .str) (.r 24) (.r 25) (.r 30), .none⟩, true)] [])
 (.seq (.reg [⟨(.some 31), .mv (.r 0), .none⟩, ⟨(.some 32), .mv (.r 0), .none⟩, ⟨(.some 33), .nilck (.r 32), .none⟩, ⟨(.some 34), .fadr 5 (.r 33), .none⟩, ⟨(.some 35), .ld (.r 34), .none⟩, ⟨(.some 36), .mv (.r 1), .none⟩, ⟨(.some 37), .build [.nils, .nils] [(0, 1, (.r 36))], .none⟩, ⟨(.some 38), .bslice 183 2 1 [.nils, .nils] [(0, 2, (.r 37))], .none⟩, ⟨(.some 39), .app 183 2 (.r 35) (.r 38), .none⟩, ⟨(.some 40), .nilck (.r 31), .none⟩, ⟨(.some 41), .fadr 5 (.r 40), .none⟩, ⟨.none, .st 1 (.r 41) (.r 39), .none⟩])
 (.seq (.reg [⟨(.some 42), .mv (.r 0), .none⟩, ⟨(.some 43), .nilck (.r 42), .none⟩, ⟨(.some 44), .fadr 5 (.r 43), .none⟩, ⟨(.some 45), .ld (.r 44), .none⟩, ⟨(.some 46), .lenSl (.r 45), .none⟩, ⟨(.some 47), .bin .sub (.r 46) (.c (.i (.ofNat (nat_lit 1)))), .none⟩, ⟨(.some 4), .mv (.r 47), .none⟩])
 .ret)))))), 48, [.tmp 4]⟩
theorem AxZok85 : cfOf AxZ 85 = some AxZc85 := by kernel_rfl
/- conch/item.Begin -/
noncomputable def AxZc86 : CF := ⟨(.seq (.reg [⟨(.some 1), .box 53 (.r 0), .none⟩, ⟨(.some 2), .mv (.c .nils), .none⟩])
 (.seq (.seq (.reg [⟨(.some 3), .lda 4 (.r 1), .none⟩, ⟨(.some 4), .call 148 [(.r 3)], .none⟩, ⟨(.some 5), .un .not (.r 4), .none⟩])
 (.cond (.r 5) (.seq (.reg [⟨(.some 2), .mv (.c .nils), .none⟩])
 .ret) .skip))
 (.seq (.reg [⟨(.some 6), .fadr 2 (.r 1), .none⟩, ⟨(.some 7), .ld (.r 6), .none⟩, ⟨(.some 8), .lenSl (.r 7), .none⟩, ⟨(.some 9), .build [(.i (.ofNat (nat_lit 0))), (.i (.ofNat (nat_lit 0)))] [(0, 1, (.r 8))], .none⟩, ⟨(.some 10), .bslice 259 2 1 [(.i (.ofNat (nat_lit 0))), (.i (.ofNat (nat_lit 0)))] [(0, 2, (.r 9))], .none⟩, ⟨(.some 2), .mv (.r 10), .none⟩])
 .ret))), 11, [.tmp 2]⟩
theorem AxZok86 : cfOf AxZ 86 = some AxZc86 := by kernel_rfl
/- (*conch/auto.builder).steps -/
noncomputable def AxZc87 : CF := ⟨(.seq (.reg [⟨(.some 2), .box 190 (.r 0), .none⟩, ⟨(.some 4), .mv (.c .nils), .none⟩])
 (.seq (.reg [⟨(.some 14), .ld (.r 2), .none⟩, ⟨(.some 15), .nilck (.r 14), .none⟩, ⟨(.some 16), .fadr 0 (.r 15), .none⟩, ⟨(.some 17), .lda 4 (.r 16), .none⟩, ⟨(.some 18), .call 88 [(.r 17)], .none⟩, ⟨(.some 19), .bin .add (.r 18) (.c (.i (.ofNat (nat_lit 1)))), .none⟩, ⟨(.some 20), .mkSl 180 1 [.nils] (.r 19) (.r 19), .none⟩, ⟨(.some 5), .alloc 192 [.nils], .none⟩, ⟨.none, .st 1 (.r 5) (.r 20), .none⟩])
 (.seq (.reg [⟨(.some 21), .mkFn 149 [(.r 2), (.r 5)], .none⟩, ⟨(.some 6), .mv (.r 21), .none⟩])
 (.seq (.reg [⟨(.some 22), .mkMap, .none⟩, ⟨(.some 7), .mv (.r 22), .none⟩])
 (.seq (.seq (.reg [⟨(.some 23), .mv (.r 1), .none⟩, ⟨(.some 24), .lenSl (.r 23), .none⟩, ⟨(.some 25), .mv (.c (.i (.ofNat (nat_lit 0)))), .none⟩])
 (.block 0 (.loop (.seq (.reg [⟨(.some 26), .bin .lss (.r 25) (.r 24), .none⟩])
 (.seq (.cond (.r 26) .skip (.exit 0))
 (.seq (.block 1 (.seq (.reg [⟨(.some 27), .ixSl 2 (.r 23) (.r 25), .none⟩, ⟨(.some 28), .lda 2 (.r 27), .none⟩, ⟨(.some 9), .alloc 259 [(.i (.ofNat (nat_lit 0))), (.i (.ofNat (nat_lit 0)))], .none⟩, ⟨.none, .st 2 (.r 9) (.r 28), .none⟩])
 (.seq (.reg [⟨(.some 29), .mv (.r 6), .none⟩, ⟨(.some 30), .lda 2 (.r 9), .none⟩, ⟨(.some 31), .callv (.r 29) [(.r 30)], .none⟩])
 (.seq (.reg [⟨(.some 32), .ld (.r 2), .none⟩, ⟨(.some 33), .lda 2 (.r 9), .none⟩, ⟨(.some 34), .call 146 [(.r 32), (.r 33)], .none⟩, ⟨(.some 10), .mv (.r 34), .none⟩])
 (.seq (.seq (.reg [⟨(.some 35), .mv (.r 7), .none⟩, ⟨(.some 36), .mv (.r 10), .none⟩, ⟨(.some 37), .lookup (.leaf .int) (.b false) false (.r 35) (.r 36), .none⟩, ⟨(.some 38), .mv (.r 37), .none⟩, ⟨(.some 39), .ld (.r 2), (.some (38, false))⟩, ⟨(.some 40), .nilck (.r 39), (.some (38, false))⟩, ⟨(.some 41), .fadr 0 (.r 40), (.some (38, false))⟩, ⟨(.some 42), .lda 4 (.r 41), (.some (38, false))⟩, ⟨(.some 43), .mv (.r 10), (.some (38, false))⟩, ⟨(.some 44), .call 103 [(.r 42), (.r 43)], (.some (38, false))⟩, ⟨(.some 45), .un .not (.r 44), (.some (38, false))⟩, ⟨(.some 46), .pick (.r 38) (.c (.b true)) (.r 45), .none⟩])
 (.cond (.r 46) (.exit 1) .skip))
 (.seq (.reg [⟨(.some 47), .mv (.r 7), .none⟩, ⟨(.some 48), .mv (.r 10), .none⟩, ⟨.none, .mupd (.leaf .int) (.r 47) (.r 48) (.c (.b true)), .none⟩])
 (.seq (.reg [⟨(.some 49), .ld (.r 2), .none⟩, ⟨(.some 50), .nilck (.r 49), .none⟩, ⟨(.some 51), .fadr 4 (.r 50), .none⟩, ⟨(.some 52), .ld (.r 51), .none⟩, ⟨(.some 53), .mv (.r 10), .none⟩, ⟨(.some 54), .ixSl 1 (.r 52) (.r 53), .none⟩, ⟨(.some 55), .ld (.r 54), .none⟩, ⟨(.some 56), .lenSl (.r 55), .none⟩, ⟨(.some 57), .mv (.c (.i (.ofNat (nat_lit 0)))), .none⟩])
 (.block 2 (.loop (.seq (.reg [⟨(.some 58), .bin .lss (.r 57) (.r 56), .none⟩])
 (.seq (.cond (.r 58) .skip (.exit 2))
 (.seq (.block 3 (.seq (.reg [⟨(.some 59), .ixSl 2 (.r 55) (.r 57), .none⟩, ⟨(.some 60), .lda 2 (.r 59), .none⟩, ⟨(.some 12), .alloc 259 [(.i (.ofNat (nat_lit 0))), (.i (.ofNat (nat_lit 0)))], .none⟩, ⟨.none, .st 2 (.r 12) (.r 60), .none⟩])
 (.reg [⟨(.some 61), .mv (.r 6), .none⟩, ⟨(.some 62), .lda 2 (.r 12), .none⟩, ⟨(.some 63), .callv (.r 61) [(.r 62)], .none⟩])))
 (.reg [⟨(.some 64), .bin .add (.r 57) (.c (.i (.ofNat (nat_lit 1)))), .none⟩, ⟨(.some 57), .mv (.r 64), .none⟩])))))))))))))
 (.reg [⟨(.some 65), .bin .add (.r 25) (.c (.i (.ofNat (nat_lit 1)))), .none⟩, ⟨(.some 25), .mv (.r 65), .none⟩])))))))
 (.seq (.seq (.reg [⟨(.some 66), .ld (.r 5), .none⟩, ⟨(.some 67), .lenSl (.r 66), .none⟩, ⟨(.some 68), .mv (.c (.i (.ofNat (nat_lit 0)))), .none⟩])
 (.block 4 (.loop (.seq (.reg [⟨(.some 69), .bin .lss (.r 68) (.r 67), .none⟩])
 (.seq (.cond (.r 69) .skip (.exit 4))
 (.seq (.block 5 (.seq (.reg [⟨(.some 70), .mv (.r 68), .none⟩, ⟨(.some 13), .mv (.r 70), .none⟩])
 (.dreg [(⟨(.some 71), .ld (.r 5), .none⟩, false), (⟨(.some 72), .mv (.r 13), .none⟩, false), (⟨(.some 73), .ld (.r 5), .none⟩, false), (⟨(.some 74), .mv (.r 13), .none⟩, false), (⟨(.some 75), .ixSl 1 (.r 73) (.r 74), .none⟩, false), (⟨(.some 76), .ld (.r 75), .none⟩, false), (⟨(.some 77), .call 150 [(.r 76)], .none⟩, true), (⟨(.some 78), .ixSl 1 (.r 71) (.r 72), .none⟩, false), (⟨.none, .st 1 (.r 78) (.r 77), .none⟩, true)] [(⟨(.some 71), .ld (.r 5), .none⟩, 0, 2)])))
 (.reg [⟨(.some 79), .bin .add (.r 68) (.c (.i (.ofNat (nat_lit 1)))), .none⟩, ⟨(.some 68), .mv (.r 79), .none⟩])))))))
 (.seq (.reg [⟨(.some 80), .ld (.r 5), .none⟩, ⟨(.some 4), .mv (.r 80), .none⟩])
 .ret))))))), 81, [.tmp 4]⟩
theorem AxZok87 : cfOf AxZ 87 = some AxZc87 := by kernel_rfl
/- conch/gram.Top -/
noncomputable def AxZc88 : CF := ⟨(.seq (.reg [⟨(.some 1), .box 53 (.r 0), .none⟩, ⟨(.some 2), .mv (.c (.i (.ofNat (nat_lit 0)))), .none⟩])
 (.seq (.reg [⟨(.some 3), .fadr 0 (.r 1), .none⟩, ⟨(.some 4), .ld (.r 3), .none⟩, ⟨(.some 5), .lenSl (.r 4), .none⟩, ⟨(.some 6), .fadr 1 (.r 1), .none⟩, ⟨(.some 7), .ld (.r 6), .none⟩, ⟨(.some 8), .lenSl (.r 7), .none⟩, ⟨(.some 9), .bin .add (.r 5) (.r 8), .none⟩, ⟨(.some 2), .mv (.r 9), .none⟩])
 .ret)), 10, [.tmp 2]⟩
theorem AxZok88 : cfOf AxZ 88 = some AxZc88 := by kernel_rfl
/- conch/gram.Term -/
noncomputable def AxZc89 : CF := ⟨(.seq (.reg [⟨(.some 2), .box 53 (.r 0), .none⟩, ⟨(.some 4), .mv (.c (.b false)), .none⟩])
 (.seq (.reg [⟨(.some 5), .mv (.r 1), .none⟩, ⟨(.some 6), .bin .geq (.r 5) (.c (.i (.ofNat (nat_lit 1)))), .none⟩, ⟨(.some 7), .mv (.r 6), .none⟩, ⟨(.some 8), .mv (.r 1), (.some (7, true))⟩, ⟨(.some 9), .fadr 0 (.r 2), (.some (7, true))⟩, ⟨(.some 10), .ld (.r 9), (.some (7, true))⟩, ⟨(.some 11), .lenSl (.r 10), (.some (7, true))⟩, ⟨(.some 12), .bin .leq (.r 8) (.r 11), (.some (7, true))⟩, ⟨(.some 13), .pick (.r 7) (.r 12) (.c (.b false)), .none⟩, ⟨(.some 4), .mv (.r 13), .none⟩])
 .ret)), 14, [.tmp 4]⟩
theorem AxZok89 : cfOf AxZ 89 = some AxZc89 := by kernel_rfl
/- conch/least.shortlex -/
noncomputable def AxZc90 : CF := ⟨(.seq (.reg [⟨(.some 0), .alloc 209 [.nilf], .none⟩])
 (.seq (.reg [⟨(.some 1), .build [.nilf] [(0, 1, (.c (.fn 151 [])))], .none⟩, ⟨.none, .st 1 (.r 0) (.r 1), .none⟩])
 .ret)), 2, [.cell 0 1 true]⟩
theorem AxZok90 : cfOf AxZ 90 = some AxZc90 := by kernel_rfl
/- (*conch/least.Words).join -/
noncomputable def AxZc91 : CF := ⟨(.seq (.reg [⟨(.some 4), .alloc 206 [(.b false), (.b false), .nils], .none⟩])
 (.seq (.reg [⟨(.some 9), .build [(.b false), (.b false), .nils] [(0, 1, (.c (.b true)))], .none⟩, ⟨(.some 5), .alloc 206 [(.b false), (.b false), .nils], .none⟩, ⟨.none, .st 3 (.r 5) (.r 9), .none⟩])
 (.seq (.seq (.reg [⟨(.some 10), .mv (.r 1), .none⟩, ⟨(.some 11), .lenSl (.r 10), .none⟩, ⟨(.some 12), .mv (.c (.i (.ofNat (nat_lit 0)))), .none⟩])
 (.block 0 (.loop (.seq (.reg [⟨(.some 13), .bin .lss (.r 12) (.r 11), .none⟩])
 (.seq (.cond (.r 13) .skip (.exit 0))
 (.seq (.block 1 (.seq (.reg [⟨(.some 14), .ixSl 1 (.r 10) (.r 12), .none⟩, ⟨(.some 15), .ld (.r 14), .none⟩, ⟨(.some 7), .mv (.r 15), .none⟩])
 (.seq (.seq (.reg [⟨(.some 16), .mv (.r 7), .none⟩, ⟨(.some 17), .bin .lss (.r 16) (.c (.i (.ofNat (nat_lit 0)))), .none⟩, ⟨(.some 18), .mv (.r 17), .none⟩, ⟨(.some 19), .mv (.r 7), (.some (18, false))⟩, ⟨(.some 20), .mv (.r 0), (.some (18, false))⟩, ⟨(.some 21), .nilck (.r 20), (.some (18, false))⟩, ⟨(.some 22), .fadr 0 (.r 21), (.some (18, false))⟩, ⟨(.some 23), .ld (.r 22), (.some (18, false))⟩, ⟨(.some 24), .lenSl (.r 23), (.some (18, false))⟩, ⟨(.some 25), .bin .geq (.r 19) (.r 24), (.some (18, false))⟩, ⟨(.some 26), .pick (.r 18) (.c (.b true)) (.r 25), .none⟩, ⟨(.some 27), .mv (.r 26), .none⟩, ⟨(.some 28), .mv (.r 0), (.some (27, false))⟩, ⟨(.some 29), .nilck (.r 28), (.some (27, false))⟩, ⟨(.some 30), .fadr 0 (.r 29), (.some (27, false))⟩, ⟨(.some 31), .ld (.r 30), (.some (27, false))⟩, ⟨(.some 32), .mv (.r 7), (.some (27, false))⟩, ⟨(.some 33), .ixSl 3 (.r 31) (.r 32), (.some (27, false))⟩, ⟨(.some 34), .fadr 0 (.r 33), (.some (27, false))⟩, ⟨(.some 35), .ld (.r 34), (.some (27, false))⟩, ⟨(.some 36), .un .not (.r 35), (.some (27, false))⟩, ⟨(.some 37), .pick (.r 27) (.c (.b true)) (.r 36), .none⟩])
 (.cond (.r 37) (.seq (.reg [⟨(.some 38), .build [(.b false), (.b false), .nils] [], .none⟩, ⟨.none, .st 3 (.r 4) (.r 38), .none⟩])
 .ret) .skip))
 (.seq (.reg [⟨(.some 39), .mv (.r 0), .none⟩, ⟨(.some 40), .nilck (.r 39), .none⟩, ⟨(.some 41), .fadr 0 (.r 40), .none⟩, ⟨(.some 42), .ld (.r 41), .none⟩, ⟨(.some 43), .mv (.r 7), .none⟩, ⟨(.some 44), .ixSl 3 (.r 42) (.r 43), .none⟩, ⟨(.some 45), .lda 3 (.r 44), .none⟩, ⟨(.some 8), .alloc 206 [(.b false), (.b false), .nils], .none⟩, ⟨.none, .st 3 (.r 8) (.r 45), .none⟩])
 (.seq (.reg [⟨(.some 46), .fadr 1 (.r 5), .none⟩, ⟨(.some 47), .ld (.r 46), .none⟩, ⟨(.some 48), .mv (.r 47), .none⟩, ⟨(.some 49), .fadr 1 (.r 8), (.some (48, false))⟩, ⟨(.some 50), .ld (.r 49), (.some (48, false))⟩, ⟨(.some 51), .pick (.r 48) (.c (.b true)) (.r 50), .none⟩, ⟨(.some 52), .mv (.r 51), .none⟩, ⟨(.some 53), .fadr 2 (.r 5), (.some (52, false))⟩, ⟨(.some 54), .ld (.r 53), (.some (52, false))⟩, ⟨(.some 55), .lenSl (.r 54), (.some (52, false))⟩, ⟨(.some 56), .fadr 2 (.r 8), (.some (52, false))⟩, ⟨(.some 57), .ld (.r 56), (.some (52, false))⟩, ⟨(.some 58), .lenSl (.r 57), (.some (52, false))⟩, ⟨(.some 59), .bin .add (.r 55) (.r 58), (.some (52, false))⟩, ⟨(.some 60), .bin .gtr (.r 59) (.c (.i (.ofNat (nat_lit 4096)))), (.some (52, false))⟩, ⟨(.some 61), .pick (.r 52) (.c (.b true)) (.r 60), .none⟩, ⟨(.some 62), .fadr 1 (.r 5), .none⟩, ⟨.none, .st 1 (.r 62) (.r 61), .none⟩])
 (.seq (.reg [⟨(.some 63), .fadr 1 (.r 5), .none⟩, ⟨(.some 64), .ld (.r 63), .none⟩, ⟨(.some 65), .un .not (.r 64), .none⟩])
 (.cond (.r 65) (.reg [⟨(.some 66), .fadr 2 (.r 5), .none⟩, ⟨(.some 67), .ld (.r 66), .none⟩, ⟨(.some 68), .fadr 2 (.r 8), .none⟩, ⟨(.some 69), .ld (.r 68), .none⟩, ⟨(.some 70), .app 3 1 (.r 67) (.r 69), .none⟩, ⟨(.some 71), .fadr 2 (.r 5), .none⟩, ⟨.none, .st 1 (.r 71) (.r 70), .none⟩]) .skip)))))))
 (.reg [⟨(.some 72), .bin .add (.r 12) (.c (.i (.ofNat (nat_lit 1)))), .none⟩, ⟨(.some 12), .mv (.r 72), .none⟩])))))))
 (.seq (.seq (.reg [⟨(.some 73), .fadr 1 (.r 5), .none⟩, ⟨(.some 74), .ld (.r 73), .none⟩])
 (.cond (.r 74) (.reg [⟨(.some 75), .fadr 2 (.r 5), .none⟩, ⟨.none, .st 1 (.r 75) (.c .nils), .none⟩]) .skip))
 (.seq (.reg [⟨(.some 76), .lda 3 (.r 5), .none⟩, ⟨.none, .st 3 (.r 4) (.r 76), .none⟩])
 .ret))))), 77, [.cell 4 3 true]⟩
theorem AxZok91 : cfOf AxZ 91 = some AxZc91 := by kernel_rfl
/- (conch/least.order).better -/
noncomputable def AxZc92 : CF := ⟨(.seq (.reg [⟨(.some 3), .box 209 (.r 0), .none⟩, ⟨(.some 4), .box 206 (.r 1), .none⟩, ⟨(.some 5), .box 206 (.r 2), .none⟩, ⟨(.some 6), .mv (.c (.b false)), .none⟩])
 (.seq (.block 0 (.seq (.reg [⟨(.some 8), .fadr 0 (.r 4), .none⟩, ⟨(.some 9), .ld (.r 8), .none⟩, ⟨(.some 10), .un .not (.r 9), .none⟩, ⟨(.some 7), .mv (.r 10), .none⟩])
 (.cond (.r 7) (.seq (.reg [⟨(.some 6), .mv (.c (.b false)), .none⟩])
 .ret) (.seq (.reg [⟨(.some 12), .fadr 0 (.r 5), .none⟩, ⟨(.some 13), .ld (.r 12), .none⟩, ⟨(.some 14), .un .not (.r 13), .none⟩, ⟨(.some 11), .mv (.r 14), .none⟩])
 (.cond (.r 11) (.seq (.reg [⟨(.some 6), .mv (.c (.b true)), .none⟩])
 .ret) (.seq (.reg [⟨(.some 16), .fadr 1 (.r 4), .none⟩, ⟨(.some 17), .ld (.r 16), .none⟩, ⟨(.some 18), .mv (.r 17), .none⟩, ⟨(.some 19), .fadr 1 (.r 5), (.some (18, false))⟩, ⟨(.some 20), .ld (.r 19), (.some (18, false))⟩, ⟨(.some 21), .pick (.r 18) (.c (.b true)) (.r 20), .none⟩, ⟨(.some 15), .mv (.r 21), .none⟩])
 (.cond (.r 15) (.seq (.reg [⟨(.some 22), .fadr 1 (.r 5), .none⟩, ⟨(.some 23), .ld (.r 22), .none⟩, ⟨(.some 24), .mv (.r 23), .none⟩, ⟨(.some 25), .fadr 1 (.r 4), (.some (24, true))⟩, ⟨(.some 26), .ld (.r 25), (.some (24, true))⟩, ⟨(.some 27), .un .not (.r 26), (.some (24, true))⟩, ⟨(.some 28), .pick (.r 24) (.r 27) (.c (.b false)), .none⟩, ⟨(.some 6), .mv (.r 28), .none⟩])
 .ret) .skip)))))))
 (.seq (.reg [⟨(.some 29), .fadr 0 (.r 3), .none⟩, ⟨(.some 30), .ld (.r 29), .none⟩, ⟨(.some 31), .fadr 2 (.r 4), .none⟩, ⟨(.some 32), .ld (.r 31), .none⟩, ⟨(.some 33), .fadr 2 (.r 5), .none⟩, ⟨(.some 34), .ld (.r 33), .none⟩, ⟨(.some 35), .callv (.r 30) [(.r 32), (.r 34)], .none⟩, ⟨(.some 6), .mv (.r 35), .none⟩])
 .ret))), 36, [.tmp 6]⟩
theorem AxZok92 : cfOf AxZ 92 = some AxZc92 := by kernel_rfl
/- slices.ContainsFunc[[]conch/api.Trans,conch/api.Trans] -/
noncomputable def AxZc93 : CF := ⟨(.seq (.reg [⟨(.some 4), .mv (.c (.b false)), .none⟩])
 (.seq (.reg [⟨(.some 5), .mv (.r 0), .none⟩, ⟨(.some 6), .mv (.r 1), .none⟩, ⟨(.some 7), .call 152 [(.r 5), (.r 6)], .none⟩, ⟨(.some 8), .bin .geq (.r 7) (.c (.i (.ofNat (nat_lit 0)))), .none⟩, ⟨(.some 4), .mv (.r 8), .none⟩])
 .ret)), 9, [.tmp 4]⟩
theorem AxZok93 : cfOf AxZ 93 = some AxZc93 := by kernel_rfl
/- (*conch/finish.Ends).right$1 -/
noncomputable def AxZc94 : CF := ⟨(.seq (.reg [⟨(.some 3), .box 201 (.r 0), .none⟩, ⟨(.some 4), .mv (.c (.b false)), .none⟩])
 (.seq (.dreg [(⟨(.some 5), .fadr 1 (.r 3), .none⟩, false), (⟨(.some 6), .ld (.r 5), .none⟩, false), (⟨(.some 7), .ld (.r 1), .none⟩, false), (⟨(.some 8), .ld (.r 2), .none⟩, false), (⟨(.some 9), .ixSl 1 (.r 7) (.r 8), .none⟩, false), (⟨(.some 10), .ld (.r 9), .none⟩, false), (⟨(.some 11), .bin .eql (.r 6) (.r 10), .none⟩, false), (⟨(.some 4), .mv (.r 11), .none⟩, false)] [])
 .ret)), 12, [.tmp 4]⟩
theorem AxZok94 : cfOf AxZ 94 = some AxZc94 := by kernel_rfl
/- (*conch/finish.Ends).steps -/
noncomputable def AxZc95 : CF := ⟨(.seq (.reg [⟨(.some 5), .box 115 (.r 2), .none⟩, ⟨(.some 6), .mv (.c .nils), .none⟩])
 (.seq (.reg [⟨(.some 7), .mv (.c .nils), .none⟩])
 (.seq (.seq (.dreg [(⟨(.some 15), .mv (.r 0), .none⟩, false), (⟨(.some 16), .nilck (.r 15), .none⟩, false), (⟨(.some 17), .fadr 4 (.r 16), .none⟩, false), (⟨(.some 18), .ld (.r 17), .none⟩, false), (⟨(.some 19), .fadr 1 (.r 5), .none⟩, false), (⟨(.some 20), .ld (.r 19), .none⟩, false), (⟨(.some 21), .ixSl 2 (.r 18) (.r 20), .none⟩, false), (⟨(.some 22), .fadr 0 (.r 21), .none⟩, false), (⟨(.some 23), .ld (.r 22), .none⟩, false), (⟨(.some 24), .lenSl (.r 23), .none⟩, false), (⟨(.some 25), .mv (.c (.i (.ofNat (nat_lit 0)))), .none⟩, false)] [])
 (.block 0 (.loop (.seq (.reg [⟨(.some 26), .bin .lss (.r 25) (.r 24), .none⟩])
 (.seq (.cond (.r 26) .skip (.exit 0))
 (.seq (.block 1 (.seq (.reg [⟨(.some 27), .ixSl 2 (.r 23) (.r 25), .none⟩, ⟨(.some 28), .lda 2 (.r 27), .none⟩, ⟨(.some 9), .alloc 259 [(.i (.ofNat (nat_lit 0))), (.i (.ofNat (nat_lit 0)))], .none⟩, ⟨.none, .st 2 (.r 9) (.r 28), .none⟩])
 (.seq (.dreg [(⟨(.some 30), .mv (.r 0), .none⟩, false), (⟨(.some 31), .nilck (.r 30), .none⟩, false), (⟨(.some 32), .fadr 0 (.r 31), .none⟩, false), (⟨(.some 33), .lda 4 (.r 32), .none⟩, false), (⟨(.some 34), .fadr 0 (.r 9), .none⟩, false), (⟨(.some 35), .ld (.r 34), .none⟩, false), (⟨(.some 36), .call 81 [(.r 33), (.r 35)], .none⟩, true), (⟨(.some 29), .mv (.r 36), .none⟩, false), (⟨(.some 37), .ext (.r 29) 0, .none⟩, false), (⟨(.some 38), .ext (.r 29) 1, .none⟩, false), (⟨(.some 10), .alloc 149 [(.i (.ofNat (nat_lit 0))), .nils], .none⟩, true), (⟨.none, .st 2 (.r 10) (.r 37), .none⟩, true), (⟨(.some 11), .mv (.r 38), .none⟩, false)] [])
 (.seq (.dreg [(⟨(.some 40), .mv (.r 0), .none⟩, false), (⟨(.some 41), .nilck (.r 40), .none⟩, false), (⟨(.some 42), .fadr 5 (.r 41), .none⟩, false), (⟨(.some 43), .ld (.r 42), .none⟩, false), (⟨(.some 44), .fadr 1 (.r 10), .none⟩, false), (⟨(.some 45), .ld (.r 44), .none⟩, false), (⟨(.some 46), .fadr 1 (.r 9), .none⟩, false), (⟨(.some 47), .ld (.r 46), .none⟩, false), (⟨(.some 48), .slSl 1 (.r 45) (.some (.r 47)) .none .none, .none⟩, false), (⟨(.some 49), .call 153 [(.r 43), (.r 48)], .none⟩, true), (⟨(.some 39), .mv (.r 49), .none⟩, false), (⟨(.some 50), .ext (.r 39) 0, .none⟩, false), (⟨(.some 51), .ext (.r 39) 1, .none⟩, false), (⟨(.some 12), .mv (.r 50), .none⟩, false), (⟨(.some 13), .mv (.r 51), .none⟩, false)] [])
 (.block 2 (.seq (.reg [⟨(.some 79), .mv (.r 13), .none⟩, ⟨(.some 80), .un .not (.r 79), .none⟩, ⟨(.some 78), .mv (.r 80), .none⟩])
 (.cond (.r 78) .skip (.seq (.dreg [(⟨(.some 82), .fadr 0 (.r 9), .none⟩, false), (⟨(.some 83), .ld (.r 82), .none⟩, false), (⟨(.some 84), .mv (.r 0), .none⟩, false), (⟨(.some 85), .nilck (.r 84), .none⟩, false), (⟨(.some 86), .fadr 0 (.r 85), .none⟩, false), (⟨(.some 87), .fadr 2 (.r 86), .none⟩, false), (⟨(.some 88), .ld (.r 87), .none⟩, false), (⟨(.some 89), .lenSl (.r 88), .none⟩, false), (⟨(.some 90), .bin .eql (.r 83) (.r 89), .none⟩, false), (⟨(.some 81), .mv (.r 90), .none⟩, false)] [])
 (.cond (.r 81) (.reg [⟨(.some 91), .mv (.r 7), .none⟩, ⟨(.some 92), .lda 2 (.r 5), .none⟩, ⟨(.some 93), .mv (.r 12), .none⟩, ⟨(.some 94), .build [(.i (.ofNat (nat_lit 0))), (.i (.ofNat (nat_lit 0))), .nils, (.i (.ofNat (nat_lit 0))), (.i (.ofNat (nat_lit 0))), (.b false)] [(0, 2, (.r 92)), (2, 1, (.r 93)), (5, 1, (.c (.b true)))], .none⟩, ⟨(.some 95), .bslice 126 6 1 [(.i (.ofNat (nat_lit 0))), (.i (.ofNat (nat_lit 0))), .nils, (.i (.ofNat (nat_lit 0))), (.i (.ofNat (nat_lit 0))), (.b false)] [(0, 6, (.r 94))], .none⟩, ⟨(.some 96), .app 126 6 (.r 91) (.r 95), .none⟩, ⟨(.some 7), .mv (.r 96), .none⟩]) (.seq (.reg [⟨(.some 52), .fadr 0 (.r 5), .none⟩, ⟨(.some 53), .ld (.r 52), .none⟩, ⟨(.some 54), .fadr 1 (.r 9), .none⟩, ⟨(.some 55), .ld (.r 54), .none⟩, ⟨(.some 56), .bin .sub (.r 53) (.r 55), .none⟩, ⟨(.some 57), .bin .add (.r 56) (.c (.i (.ofNat (nat_lit 1)))), .none⟩, ⟨(.some 14), .mv (.r 57), .none⟩])
 (.dreg [(⟨(.some 58), .mv (.r 7), .none⟩, false), (⟨(.some 59), .lda 2 (.r 5), .none⟩, false), (⟨(.some 60), .mv (.r 12), .none⟩, false), (⟨(.some 61), .mv (.r 14), .none⟩, false), (⟨(.some 62), .mv (.r 0), .none⟩, false), (⟨(.some 63), .nilck (.r 62), .none⟩, false), (⟨(.some 64), .fadr 4 (.r 63), .none⟩, false), (⟨(.some 65), .ld (.r 64), .none⟩, false), (⟨(.some 66), .mv (.r 1), .none⟩, false), (⟨(.some 67), .mv (.r 14), .none⟩, false), (⟨(.some 68), .bin .sub (.r 67) (.c (.i (.ofNat (nat_lit 1)))), .none⟩, false), (⟨(.some 69), .ixSl 1 (.r 66) (.r 68), .none⟩, false), (⟨(.some 70), .ld (.r 69), .none⟩, false), (⟨(.some 71), .fadr 0 (.r 10), .none⟩, false), (⟨(.some 72), .ld (.r 71), .none⟩, false), (⟨(.some 73), .call 83 [(.r 65), (.r 70), (.r 72)], .none⟩, true), (⟨(.some 74), .build [(.i (.ofNat (nat_lit 0))), (.i (.ofNat (nat_lit 0)))] [(0, 1, (.r 61)), (1, 1, (.r 73))], .none⟩, false), (⟨(.some 75), .build [(.i (.ofNat (nat_lit 0))), (.i (.ofNat (nat_lit 0))), .nils, (.i (.ofNat (nat_lit 0))), (.i (.ofNat (nat_lit 0))), (.b false)] [(0, 2, (.r 59)), (2, 1, (.r 60)), (3, 2, (.r 74))], .none⟩, false), (⟨(.some 76), .bslice 126 6 1 [(.i (.ofNat (nat_lit 0))), (.i (.ofNat (nat_lit 0))), .nils, (.i (.ofNat (nat_lit 0))), (.i (.ofNat (nat_lit 0))), (.b false)] [(0, 6, (.r 75))], .none⟩, true), (⟨(.some 77), .app 126 6 (.r 58) (.r 76), .none⟩, true), (⟨(.some 7), .mv (.r 77), .none⟩, false)] [(⟨(.some 59), .lda 2 (.r 5), .none⟩, 0, 2)])))))))))))
 (.reg [⟨(.some 97), .bin .add (.r 25) (.c (.i (.ofNat (nat_lit 1)))), .none⟩, ⟨(.some 25), .mv (.r 97), .none⟩])))))))
 (.seq (.reg [⟨(.some 98), .mv (.r 7), .none⟩, ⟨(.some 6), .mv (.r 98), .none⟩])
 .ret)))), 99, [.tmp 6]⟩
theorem AxZok95 : cfOf AxZ 95 = some AxZc95 := by kernel_rfl
/- slices.Compare[[]int,int] -/
noncomputable def AxZc96 : CF := ⟨(.seq (.reg [⟨(.some 4), .mv (.c (.i (.ofNat (nat_lit 0)))), .none⟩])
 (.seq (.seq (.reg [⟨(.some 9), .mv (.r 0), .none⟩, ⟨(.some 10), .lenSl (.r 9), .none⟩, ⟨(.some 11), .mv (.c (.i (.ofNat (nat_lit 0)))), .none⟩])
 (.block 0 (.loop (.seq (.reg [⟨(.some 12), .bin .lss (.r 11) (.r 10), .none⟩])
 (.seq (.cond (.r 12) .skip (.exit 0))
 (.seq (.block 1 (.seq (.reg [⟨(.some 13), .mv (.r 11), .none⟩, ⟨(.some 14), .ixSl 1 (.r 9) (.r 11), .none⟩, ⟨(.some 15), .ld (.r 14), .none⟩, ⟨(.some 5), .mv (.r 13), .none⟩, ⟨(.some 6), .mv (.r 15), .none⟩])
 (.seq (.seq (.reg [⟨(.some 16), .mv (.r 5), .none⟩, ⟨(.some 17), .mv (.r 1), .none⟩, ⟨(.some 18), .lenSl (.r 17), .none⟩, ⟨(.some 19), .bin .geq (.r 16) (.r 18), .none⟩])
 (.cond (.r 19) (.seq (.reg [⟨(.some 4), .mv (.c (.i (.ofNat (nat_lit 1)))), .none⟩])
 .ret) .skip))
 (.seq (.reg [⟨(.some 20), .mv (.r 1), .none⟩, ⟨(.some 21), .mv (.r 5), .none⟩, ⟨(.some 22), .ixSl 1 (.r 20) (.r 21), .none⟩, ⟨(.some 23), .ld (.r 22), .none⟩, ⟨(.some 7), .mv (.r 23), .none⟩])
 (.seq (.reg [⟨(.some 24), .mv (.r 6), .none⟩, ⟨(.some 25), .mv (.r 7), .none⟩, ⟨(.some 26), .call 154 [(.r 24), (.r 25)], .none⟩, ⟨(.some 8), .mv (.r 26), .none⟩])
 (.seq (.reg [⟨(.some 27), .mv (.r 8), .none⟩, ⟨(.some 28), .bin .neq (.r 27) (.c (.i (.ofNat (nat_lit 0)))), .none⟩])
 (.cond (.r 28) (.seq (.reg [⟨(.some 29), .mv (.r 8), .none⟩, ⟨(.some 4), .mv (.r 29), .none⟩])
 .ret) .skip)))))))
 (.reg [⟨(.some 30), .bin .add (.r 11) (.c (.i (.ofNat (nat_lit 1)))), .none⟩, ⟨(.some 11), .mv (.r 30), .none⟩])))))))
 (.seq (.seq (.reg [⟨(.some 31), .mv (.r 0), .none⟩, ⟨(.some 32), .lenSl (.r 31), .none⟩, ⟨(.some 33), .mv (.r 1), .none⟩, ⟨(.some 34), .lenSl (.r 33), .none⟩, ⟨(.some 35), .bin .lss (.r 32) (.r 34), .none⟩])
 (.cond (.r 35) (.seq (.reg [⟨(.some 4), .mv (.c (.i (.negSucc (nat_lit 0)))), .none⟩])
 .ret) .skip))
 (.seq (.reg [⟨(.some 4), .mv (.c (.i (.ofNat (nat_lit 0)))), .none⟩])
 .ret)))), 36, [.tmp 4]⟩
theorem AxZok96 : cfOf AxZ 96 = some AxZc96 := by kernel_rfl
/- slices.Backward[[]conch/finish.step,conch/finish.step]$1 -/
noncomputable def AxZc97 : CF := ⟨(.seq (.reg [⟨(.some 4), .ld (.r 1), .none⟩, ⟨(.some 5), .lenSl (.r 4), .none⟩, ⟨(.some 6), .bin .sub (.r 5) (.c (.i (.ofNat (nat_lit 1)))), .none⟩, ⟨(.some 3), .mv (.r 6), .none⟩])
 (.block 0 (.loop (.seq (.seq (.reg [⟨(.some 7), .mv (.r 3), .none⟩, ⟨(.some 8), .bin .geq (.r 7) (.c (.i (.ofNat (nat_lit 0)))), .none⟩])
 (.cond (.r 8) .skip (.exit 0)))
 (.seq (.block 1 (.seq (.reg [⟨(.some 11), .mv (.r 0), .none⟩, ⟨(.some 12), .mv (.r 3), .none⟩, ⟨(.some 13), .ld (.r 1), .none⟩, ⟨(.some 14), .mv (.r 3), .none⟩, ⟨(.some 15), .ixSl 6 (.r 13) (.r 14), .none⟩, ⟨(.some 16), .lda 6 (.r 15), .none⟩, ⟨(.some 17), .callv (.r 11) [(.r 12), (.r 16)], .none⟩, ⟨(.some 18), .un .not (.r 17), .none⟩])
 (.cond (.r 18) .ret .skip)))
 (.reg [⟨(.some 9), .mv (.r 3), .none⟩, ⟨(.some 10), .bin .sub (.r 9) (.c (.i (.ofNat (nat_lit 1)))), .none⟩, ⟨(.some 3), .mv (.r 10), .none⟩])))))), 19, []⟩
theorem AxZok97 : cfOf AxZ 97 = some AxZc97 := by kernel_rfl
/- slices.Grow[[]int,int] -/
noncomputable def AxZc98 : CF := ⟨(.seq (.reg [⟨(.some 4), .mv (.c .nils), .none⟩])
 (.seq (.seq (.reg [⟨(.some 5), .mv (.r 1), .none⟩, ⟨(.some 6), .bin .lss (.r 5) (.c (.i (.ofNat (nat_lit 0)))), .none⟩])
 (.cond (.r 6) (.reg [⟨(.some 7), .mkIf 9 (.c (.s 18 (nat_lit 8838634371626034279618351153450530198413667))), .none⟩, ⟨.none, .bad, .none⟩]) .skip))
 (.seq (.seq (.reg [⟨(.some 8), .mv (.r 1), .none⟩, ⟨(.some 9), .mv (.r 0), .none⟩, ⟨(.some 10), .cap (.r 9), .none⟩, ⟨(.some 11), .mv (.r 0), .none⟩, ⟨(.some 12), .lenSl (.r 11), .none⟩, ⟨(.some 13), .bin .sub (.r 10) (.r 12), .none⟩, ⟨(.some 14), .bin .sub (.r 8) (.r 13), .none⟩, ⟨(.some 1), .mv (.r 14), .none⟩])
 (.seq (.reg [⟨(.some 15), .mv (.r 1), .none⟩, ⟨(.some 16), .bin .gtr (.r 15) (.c (.i (.ofNat (nat_lit 0)))), .none⟩])
 (.cond (.r 16) (.reg [⟨(.some 17), .mv (.r 0), .none⟩, ⟨(.some 18), .mv (.r 0), .none⟩, ⟨(.some 19), .cap (.r 18), .none⟩, ⟨(.some 20), .slSl 1 (.r 17) .none (.some (.r 19)) .none, .none⟩, ⟨(.some 21), .mv (.r 1), .none⟩, ⟨(.some 22), .appZ 3 1 [(.i (.ofNat (nat_lit 0)))] (.r 20) (.r 21), .none⟩, ⟨(.some 23), .mv (.r 0), .none⟩, ⟨(.some 24), .lenSl (.r 23), .none⟩, ⟨(.some 25), .slSl 1 (.r 22) .none (.some (.r 24)) .none, .none⟩, ⟨(.some 0), .mv (.r 25), .none⟩]) .skip)))
 (.seq (.reg [⟨(.some 26), .mv (.r 0), .none⟩, ⟨(.some 4), .mv (.r 26), .none⟩])
 .ret)))), 27, [.tmp 4]⟩
theorem AxZok98 : cfOf AxZ 98 = some AxZc98 := by kernel_rfl
/- math/bits.Mul32 -/
noncomputable def AxZc99 : CF := ⟨(.seq (.reg [⟨(.some 4), .mv (.c (.u .u32 (.ofNat (nat_lit 0)))), .none⟩, ⟨(.some 5), .mv (.c (.u .u32 (.ofNat (nat_lit 0)))), .none⟩])
 (.seq (.reg [⟨(.some 7), .mv (.r 0), .none⟩, ⟨(.some 8), .cvInt .u64 (.r 7), .none⟩, ⟨(.some 9), .mv (.r 1), .none⟩, ⟨(.some 10), .cvInt .u64 (.r 9), .none⟩, ⟨(.some 11), .bin .mul (.r 8) (.r 10), .none⟩, ⟨(.some 6), .mv (.r 11), .none⟩])
 (.seq (.reg [⟨(.some 12), .mv (.r 6), .none⟩, ⟨(.some 13), .bin .shr (.r 12) (.c (.u .u64 (.ofNat (nat_lit 32)))), .none⟩, ⟨(.some 14), .cvInt .u32 (.r 13), .none⟩, ⟨(.some 15), .mv (.r 6), .none⟩, ⟨(.some 16), .cvInt .u32 (.r 15), .none⟩, ⟨(.some 4), .mv (.r 14), .none⟩, ⟨(.some 5), .mv (.r 16), .none⟩])
 .ret))), 17, [.tmp 4, .tmp 5]⟩
theorem AxZok99 : cfOf AxZ 99 = some AxZc99 := by kernel_rfl
/- math/bits.Mul64 -/
noncomputable def AxZc100 : CF := ⟨(.seq (.reg [⟨(.some 4), .mv (.c (.u .u64 (.ofNat (nat_lit 0)))), .none⟩, ⟨(.some 5), .mv (.c (.u .u64 (.ofNat (nat_lit 0)))), .none⟩])
 (.seq (.reg [⟨(.some 14), .mv (.r 0), .none⟩, ⟨(.some 15), .bin .and (.r 14) (.c (.u .u64 (.ofNat (nat_lit 4294967295)))), .none⟩, ⟨(.some 6), .mv (.r 15), .none⟩])
 (.seq (.reg [⟨(.some 16), .mv (.r 0), .none⟩, ⟨(.some 17), .bin .shr (.r 16) (.c (.u .u64 (.ofNat (nat_lit 32)))), .none⟩, ⟨(.some 7), .mv (.r 17), .none⟩])
 (.seq (.reg [⟨(.some 18), .mv (.r 1), .none⟩, ⟨(.some 19), .bin .and (.r 18) (.c (.u .u64 (.ofNat (nat_lit 4294967295)))), .none⟩, ⟨(.some 8), .mv (.r 19), .none⟩])
 (.seq (.reg [⟨(.some 20), .mv (.r 1), .none⟩, ⟨(.some 21), .bin .shr (.r 20) (.c (.u .u64 (.ofNat (nat_lit 32)))), .none⟩, ⟨(.some 9), .mv (.r 21), .none⟩])
 (.seq (.reg [⟨(.some 22), .mv (.r 6), .none⟩, ⟨(.some 23), .mv (.r 8), .none⟩, ⟨(.some 24), .bin .mul (.r 22) (.r 23), .none⟩, ⟨(.some 10), .mv (.r 24), .none⟩])
 (.seq (.reg [⟨(.some 25), .mv (.r 7), .none⟩, ⟨(.some 26), .mv (.r 8), .none⟩, ⟨(.some 27), .bin .mul (.r 25) (.r 26), .none⟩, ⟨(.some 28), .mv (.r 10), .none⟩, ⟨(.some 29), .bin .shr (.r 28) (.c (.u .u64 (.ofNat (nat_lit 32)))), .none⟩, ⟨(.some 30), .bin .add (.r 27) (.r 29), .none⟩, ⟨(.some 11), .mv (.r 30), .none⟩])
 (.seq (.reg [⟨(.some 31), .mv (.r 11), .none⟩, ⟨(.some 32), .bin .and (.r 31) (.c (.u .u64 (.ofNat (nat_lit 4294967295)))), .none⟩, ⟨(.some 12), .mv (.r 32), .none⟩])
 (.seq (.reg [⟨(.some 33), .mv (.r 11), .none⟩, ⟨(.some 34), .bin .shr (.r 33) (.c (.u .u64 (.ofNat (nat_lit 32)))), .none⟩, ⟨(.some 13), .mv (.r 34), .none⟩])
 (.seq (.reg [⟨(.some 35), .mv (.r 12), .none⟩, ⟨(.some 36), .mv (.r 6), .none⟩, ⟨(.some 37), .mv (.r 9), .none⟩, ⟨(.some 38), .bin .mul (.r 36) (.r 37), .none⟩, ⟨(.some 39), .bin .add (.r 35) (.r 38), .none⟩, ⟨(.some 12), .mv (.r 39), .none⟩])
 (.seq (.reg [⟨(.some 40), .mv (.r 7), .none⟩, ⟨(.some 41), .mv (.r 9), .none⟩, ⟨(.some 42), .bin .mul (.r 40) (.r 41), .none⟩, ⟨(.some 43), .mv (.r 13), .none⟩, ⟨(.some 44), .bin .add (.r 42) (.r 43), .none⟩, ⟨(.some 45), .mv (.r 12), .none⟩, ⟨(.some 46), .bin .shr (.r 45) (.c (.u .u64 (.ofNat (nat_lit 32)))), .none⟩, ⟨(.some 47), .bin .add (.r 44) (.r 46), .none⟩, ⟨(.some 4), .mv (.r 47), .none⟩])
 (.seq (.reg [⟨(.some 48), .mv (.r 0), .none⟩, ⟨(.some 49), .mv (.r 1), .none⟩, ⟨(.some 50), .bin .mul (.r 48) (.r 49), .none⟩, ⟨(.some 5), .mv (.r 50), .none⟩])
 .ret)))))))))))), 51, [.tmp 4, .tmp 5]⟩
theorem AxZok100 : cfOf AxZ 100 = some AxZc100 := by kernel_rfl
/- (*conch/arena.Tree).Len -/
noncomputable def AxZc101 : CF := ⟨(.seq (.reg [⟨(.some 2), .mv (.c (.i (.ofNat (nat_lit 0)))), .none⟩])
 (.seq (.seq (.reg [⟨(.some 3), .mv (.r 0), .none⟩, ⟨(.some 4), .eq .ptr false (.r 3) (.c .nilp), .none⟩])
 (.cond (.r 4) (.seq (.reg [⟨(.some 2), .mv (.c (.i (.ofNat (nat_lit 0)))), .none⟩])
 .ret) .skip))
 (.seq (.reg [⟨(.some 5), .mv (.r 0), .none⟩, ⟨(.some 6), .nilck (.r 5), .none⟩, ⟨(.some 7), .fadr 0 (.r 6), .none⟩, ⟨(.some 8), .ld (.r 7), .none⟩, ⟨(.some 9), .lenSl (.r 8), .none⟩, ⟨(.some 2), .mv (.r 9), .none⟩])
 .ret))), 10, [.tmp 2]⟩
theorem AxZok101 : cfOf AxZ 101 = some AxZc101 := by kernel_rfl
/- (*strings.Builder).copyCheck -/
noncomputable def AxZc102 : CF := ⟨(.seq (.reg [⟨(.some 2), .mv (.r 0), .none⟩, ⟨(.some 3), .nilck (.r 2), .none⟩, ⟨(.some 4), .fadr 0 (.r 3), .none⟩, ⟨(.some 5), .ld (.r 4), .none⟩, ⟨(.some 6), .eq .ptr false (.r 5) (.c .nilp), .none⟩])
 (.cond (.r 6) (.reg [⟨(.some 7), .mv (.r 0), .none⟩, ⟨(.some 8), .mv (.r 0), .none⟩, ⟨(.some 9), .cvUp 134 (.r 8), .none⟩, ⟨(.some 10), .noesc (.r 9), .none⟩, ⟨(.some 11), .cvDn 134 [(133, 2), (134, 2)] (.r 10), .none⟩, ⟨(.some 12), .nilck (.r 7), .none⟩, ⟨(.some 13), .fadr 0 (.r 12), .none⟩, ⟨.none, .st 1 (.r 13) (.r 11), .none⟩]) (.seq (.reg [⟨(.some 14), .mv (.r 0), .none⟩, ⟨(.some 15), .nilck (.r 14), .none⟩, ⟨(.some 16), .fadr 0 (.r 15), .none⟩, ⟨(.some 17), .ld (.r 16), .none⟩, ⟨(.some 18), .mv (.r 0), .none⟩, ⟨(.some 19), .eq .ptr true (.r 17) (.r 18), .none⟩])
 (.cond (.r 19) .bad .skip)))), 20, []⟩
theorem AxZok102 : cfOf AxZ 102 = some AxZc102 := by kernel_rfl
/- conch/gram.Non -/
noncomputable def AxZc103 : CF := ⟨(.seq (.reg [⟨(.some 2), .box 53 (.r 0), .none⟩, ⟨(.some 4), .mv (.c (.b false)), .none⟩])
 (.seq (.reg [⟨(.some 5), .mv (.r 1), .none⟩, ⟨(.some 6), .fadr 0 (.r 2), .none⟩, ⟨(.some 7), .ld (.r 6), .none⟩, ⟨(.some 8), .lenSl (.r 7), .none⟩, ⟨(.some 9), .bin .gtr (.r 5) (.r 8), .none⟩, ⟨(.some 10), .mv (.r 9), .none⟩, ⟨(.some 11), .mv (.r 1), (.some (10, true))⟩, ⟨(.some 12), .lda 4 (.r 2), (.some (10, true))⟩, ⟨(.some 13), .call 88 [(.r 12)], (.some (10, true))⟩, ⟨(.some 14), .bin .leq (.r 11) (.r 13), (.some (10, true))⟩, ⟨(.some 15), .pick (.r 10) (.r 14) (.c (.b false)), .none⟩, ⟨(.some 4), .mv (.r 15), .none⟩])
 .ret)), 16, [.tmp 4]⟩
theorem AxZok103 : cfOf AxZ 103 = some AxZc103 := by kernel_rfl
/- slices.Contains[[]int,int] -/
noncomputable def AxZc104 : CF := ⟨(.seq (.reg [⟨(.some 4), .mv (.c (.b false)), .none⟩])
 (.seq (.reg [⟨(.some 5), .mv (.r 0), .none⟩, ⟨(.some 6), .mv (.r 1), .none⟩, ⟨(.some 7), .call 156 [(.r 5), (.r 6)], .none⟩, ⟨(.some 8), .bin .geq (.r 7) (.c (.i (.ofNat (nat_lit 0)))), .none⟩, ⟨(.some 4), .mv (.r 8), .none⟩])
 .ret)), 9, [.tmp 4]⟩
theorem AxZok104 : cfOf AxZ 104 = some AxZc104 := by kernel_rfl
/- conch/gram.Check$1 -/
noncomputable def AxZc105 : CF := ⟨(.seq (.reg [⟨(.some 1), .box 149 (.r 0), .none⟩, ⟨(.some 2), .mv (.c (.b false)), .none⟩])
 (.seq (.reg [⟨(.some 3), .fadr 1 (.r 1), .none⟩, ⟨(.some 4), .ld (.r 3), .none⟩, ⟨(.some 5), .lenSl (.r 4), .none⟩, ⟨(.some 6), .bin .leq (.r 5) (.c (.i (.ofNat (nat_lit 8)))), .none⟩, ⟨(.some 2), .mv (.r 6), .none⟩])
 .ret)), 7, [.tmp 2]⟩
theorem AxZok105 : cfOf AxZ 105 = some AxZc105 := by kernel_rfl
/- conch/gram.all[conch/api.Rule] -/
noncomputable def AxZc106 : CF := ⟨(.seq (.reg [⟨(.some 3), .box 227 (.r 1), .none⟩, ⟨(.some 4), .mv (.c (.b false)), .none⟩])
 (.seq (.reg [⟨(.some 5), .mv (.r 0), .none⟩, ⟨(.some 6), .mkFn 158 [(.r 3)], .none⟩, ⟨(.some 7), .call 157 [(.r 5), (.r 6)], .none⟩, ⟨(.some 8), .un .not (.r 7), .none⟩, ⟨(.some 4), .mv (.r 8), .none⟩])
 .ret)), 9, [.tmp 4]⟩
theorem AxZok106 : cfOf AxZ 106 = some AxZc106 := by kernel_rfl
/- conch/gram.all[string] -/
noncomputable def AxZc107 : CF := ⟨(.seq (.reg [⟨(.some 3), .box 230 (.r 1), .none⟩, ⟨(.some 4), .mv (.c (.b false)), .none⟩])
 (.seq (.reg [⟨(.some 5), .mv (.r 0), .none⟩, ⟨(.some 6), .mkFn 160 [(.r 3)], .none⟩, ⟨(.some 7), .call 159 [(.r 5), (.r 6)], .none⟩, ⟨(.some 8), .un .not (.r 7), .none⟩, ⟨(.some 4), .mv (.r 8), .none⟩])
 .ret)), 9, [.tmp 4]⟩
theorem AxZok107 : cfOf AxZ 107 = some AxZc107 := by kernel_rfl
/- conch/gram.Check$2 -/
noncomputable def AxZc108 : CF := ⟨(.seq (.reg [⟨(.some 2), .mv (.c (.b false)), .none⟩])
 (.seq (.reg [⟨(.some 3), .mv (.r 0), .none⟩, ⟨(.some 4), .call 109 [(.r 3)], .none⟩, ⟨(.some 5), .mv (.r 4), .none⟩, ⟨(.some 6), .mv (.r 0), (.some (5, false))⟩, ⟨(.some 7), .call 110 [(.r 6)], (.some (5, false))⟩, ⟨(.some 8), .pick (.r 5) (.c (.b true)) (.r 7), .none⟩, ⟨(.some 2), .mv (.r 8), .none⟩])
 .ret)), 9, [.tmp 2]⟩
theorem AxZok108 : cfOf AxZ 108 = some AxZc108 := by kernel_rfl
/- conch/gram.plain -/
noncomputable def AxZc109 : CF := ⟨(.seq (.reg [⟨(.some 2), .mv (.c (.b false)), .none⟩])
 (.seq (.reg [⟨(.some 3), .mv (.r 0), .none⟩, ⟨(.some 4), .lenStr (.r 3), .none⟩, ⟨(.some 5), .bin .leq (.r 4) (.c (.i (.ofNat (nat_lit 24)))), .none⟩, ⟨(.some 6), .mv (.r 5), .none⟩, ⟨(.some 7), .mv (.r 0), (.some (6, true))⟩, ⟨(.some 8), .call 161 [(.r 7)], (.some (6, true))⟩, ⟨(.some 9), .pick (.r 6) (.r 8) (.c (.b false)), .none⟩, ⟨(.some 2), .mv (.r 9), .none⟩])
 .ret)), 10, [.tmp 2]⟩
theorem AxZok109 : cfOf AxZ 109 = some AxZc109 := by kernel_rfl
/- conch/gtok.Quoted -/
noncomputable def AxZc110 : CF := ⟨(.seq (.reg [⟨(.some 2), .mv (.c (.b false)), .none⟩])
 (.seq (.seq (.reg [⟨(.some 5), .mv (.r 0), .none⟩, ⟨(.some 6), .bin .eql (.r 5) (.c (.s 0 (nat_lit 0))), .none⟩, ⟨(.some 7), .mv (.r 6), .none⟩, ⟨(.some 8), .mv (.r 0), (.some (7, false))⟩, ⟨(.some 9), .idxStr (.r 8) (.c (.i (.ofNat (nat_lit 0)))), (.some (7, false))⟩, ⟨(.some 10), .bin .neq (.r 9) (.c (.u .u8 (.ofNat (nat_lit 39)))), (.some (7, false))⟩, ⟨(.some 11), .pick (.r 7) (.c (.b true)) (.r 10), .none⟩])
 (.cond (.r 11) (.seq (.reg [⟨(.some 2), .mv (.c (.b false)), .none⟩])
 .ret) .skip))
 (.seq (.reg [⟨(.some 13), .mv (.r 0), .none⟩, ⟨(.some 14), .call 124 [(.r 13), (.c (.i (.ofNat (nat_lit 0))))], .none⟩, ⟨(.some 12), .mv (.r 14), .none⟩, ⟨(.some 15), .ext (.r 12) 0, .none⟩, ⟨(.some 16), .ext (.r 12) 1, .none⟩, ⟨(.some 3), .mv (.r 15), .none⟩, ⟨(.some 4), .mv (.r 16), .none⟩])
 (.seq (.reg [⟨(.some 17), .mv (.r 4), .none⟩, ⟨(.some 18), .eq .iface false (.r 17) (.c .nili), .none⟩, ⟨(.some 19), .mv (.r 18), .none⟩, ⟨(.some 20), .mv (.r 3), (.some (19, true))⟩, ⟨(.some 21), .mv (.r 0), (.some (19, true))⟩, ⟨(.some 22), .lenStr (.r 21), (.some (19, true))⟩, ⟨(.some 23), .bin .eql (.r 20) (.r 22), (.some (19, true))⟩, ⟨(.some 24), .pick (.r 19) (.r 23) (.c (.b false)), .none⟩, ⟨(.some 2), .mv (.r 24), .none⟩])
 .ret)))), 25, [.tmp 2]⟩
theorem AxZok110 : cfOf AxZ 110 = some AxZc110 := by kernel_rfl
/- conch/gram.once -/
noncomputable def AxZc111 : CF := ⟨(.seq (.reg [⟨(.some 1), .box 53 (.r 0), .none⟩, ⟨(.some 2), .mv (.c (.b false)), .none⟩])
 (.seq (.reg [⟨(.some 6), .mkMap, .none⟩, ⟨(.some 3), .mv (.r 6), .none⟩])
 (.seq (.seq (.reg [⟨(.some 7), .fadr 0 (.r 1), .none⟩, ⟨(.some 8), .ld (.r 7), .none⟩, ⟨(.some 9), .fadr 1 (.r 1), .none⟩, ⟨(.some 10), .ld (.r 9), .none⟩, ⟨(.some 11), .bslice 50 1 2 [.nils] [(0, 1, (.r 8)), (1, 1, (.r 10))], .none⟩, ⟨(.some 12), .call 162 [(.r 11)], .none⟩, ⟨(.some 13), .lenSl (.r 12), .none⟩, ⟨(.some 14), .mv (.c (.i (.ofNat (nat_lit 0)))), .none⟩])
 (.block 0 (.loop (.seq (.reg [⟨(.some 15), .bin .lss (.r 14) (.r 13), .none⟩])
 (.seq (.cond (.r 15) .skip (.exit 0))
 (.seq (.block 1 (.seq (.reg [⟨(.some 16), .ixSl 1 (.r 12) (.r 14), .none⟩, ⟨(.some 17), .ld (.r 16), .none⟩, ⟨(.some 5), .mv (.r 17), .none⟩])
 (.reg [⟨(.some 18), .mv (.r 3), .none⟩, ⟨(.some 19), .mv (.r 5), .none⟩, ⟨(.some 20), .lookup (.leaf .str) (.i (.ofNat (nat_lit 0))) false (.r 18) (.r 19), .none⟩, ⟨(.some 21), .bin .add (.r 20) (.c (.i (.ofNat (nat_lit 1)))), .none⟩, ⟨.none, .mupd (.leaf .str) (.r 18) (.r 19) (.r 21), .none⟩])))
 (.reg [⟨(.some 22), .bin .add (.r 14) (.c (.i (.ofNat (nat_lit 1)))), .none⟩, ⟨(.some 14), .mv (.r 22), .none⟩])))))))
 (.seq (.reg [⟨(.some 23), .mv (.r 3), .none⟩, ⟨(.some 24), .lenMap (.r 23), .none⟩, ⟨(.some 25), .lda 4 (.r 1), .none⟩, ⟨(.some 26), .call 88 [(.r 25)], .none⟩, ⟨(.some 27), .bin .eql (.r 24) (.r 26), .none⟩, ⟨(.some 2), .mv (.r 27), .none⟩])
 .ret)))), 28, [.tmp 2]⟩
theorem AxZok111 : cfOf AxZ 111 = some AxZc111 := by kernel_rfl
/- conch/gram.Check$3 -/
noncomputable def AxZc112 : CF := ⟨(.seq (.reg [⟨(.some 2), .box 149 (.r 0), .none⟩, ⟨(.some 3), .mv (.c (.b false)), .none⟩])
 (.seq (.reg [⟨(.some 4), .lda 4 (.r 1), .none⟩, ⟨(.some 5), .lda 2 (.r 2), .none⟩, ⟨(.some 6), .call 113 [(.r 4), (.r 5)], .none⟩, ⟨(.some 3), .mv (.r 6), .none⟩])
 .ret)), 7, [.tmp 3]⟩
theorem AxZok112 : cfOf AxZ 112 = some AxZc112 := by kernel_rfl
/- conch/gram.known -/
noncomputable def AxZc113 : CF := ⟨(.seq (.reg [⟨(.some 2), .box 53 (.r 0), .none⟩, ⟨(.some 3), .box 149 (.r 1), .none⟩, ⟨(.some 4), .mv (.c (.b false)), .none⟩])
 (.seq (.reg [⟨(.some 5), .lda 4 (.r 2), .none⟩, ⟨(.some 6), .fadr 0 (.r 3), .none⟩, ⟨(.some 7), .ld (.r 6), .none⟩, ⟨(.some 8), .call 103 [(.r 5), (.r 7)], .none⟩, ⟨(.some 9), .mv (.r 8), .none⟩, ⟨(.some 10), .fadr 1 (.r 3), (.some (9, true))⟩, ⟨(.some 11), .ld (.r 10), (.some (9, true))⟩, ⟨(.some 12), .mkFn 164 [(.r 2)], (.some (9, true))⟩, ⟨(.some 13), .call 163 [(.r 11), (.r 12)], (.some (9, true))⟩, ⟨(.some 14), .pick (.r 9) (.r 13) (.c (.b false)), .none⟩, ⟨(.some 4), .mv (.r 14), .none⟩])
 .ret)), 15, [.tmp 4]⟩
theorem AxZok113 : cfOf AxZ 113 = some AxZc113 := by kernel_rfl
/- conch/gram.unlike[conch/api.Rule] -/
noncomputable def AxZc114 : CF := ⟨(.seq (.reg [⟨(.some 2), .box 51 (.r 0), .none⟩, ⟨(.some 3), .box 233 (.r 1), .none⟩, ⟨(.some 4), .mv (.c (.b false)), .none⟩])
 (.seq (.seq (.reg [⟨(.some 6), .ld (.r 2), .none⟩, ⟨(.some 7), .lenSl (.r 6), .none⟩, ⟨(.some 8), .mv (.c (.i (.ofNat (nat_lit 0)))), .none⟩])
 (.block 0 (.loop (.seq (.reg [⟨(.some 9), .bin .lss (.r 8) (.r 7), .none⟩])
 (.seq (.cond (.r 9) .skip (.exit 0))
 (.seq (.block 1 (.seq (.reg [⟨(.some 10), .mv (.r 8), .none⟩, ⟨(.some 5), .alloc 3 [(.i (.ofNat (nat_lit 0)))], .none⟩, ⟨.none, .st 1 (.r 5) (.r 10), .none⟩])
 (.seq (.reg [⟨(.some 11), .ld (.r 2), .none⟩, ⟨(.some 12), .ld (.r 5), .none⟩, ⟨(.some 13), .slSl 2 (.r 11) .none (.some (.r 12)) .none, .none⟩, ⟨(.some 14), .mkFn 165 [(.r 3), (.r 2), (.r 5)], .none⟩, ⟨(.some 15), .call 157 [(.r 13), (.r 14)], .none⟩])
 (.cond (.r 15) (.seq (.reg [⟨(.some 4), .mv (.c (.b false)), .none⟩])
 .ret) .skip))))
 (.reg [⟨(.some 16), .bin .add (.r 8) (.c (.i (.ofNat (nat_lit 1)))), .none⟩, ⟨(.some 8), .mv (.r 16), .none⟩])))))))
 (.seq (.reg [⟨(.some 4), .mv (.c (.b true)), .none⟩])
 .ret))), 17, [.tmp 4]⟩
theorem AxZok114 : cfOf AxZ 114 = some AxZc114 := by kernel_rfl
/- conch/gram.sameRule -/
noncomputable def AxZc115 : CF := ⟨(.seq (.reg [⟨(.some 2), .box 149 (.r 0), .none⟩, ⟨(.some 3), .box 149 (.r 1), .none⟩, ⟨(.some 4), .mv (.c (.b false)), .none⟩])
 (.seq (.reg [⟨(.some 5), .fadr 0 (.r 2), .none⟩, ⟨(.some 6), .ld (.r 5), .none⟩, ⟨(.some 7), .fadr 0 (.r 3), .none⟩, ⟨(.some 8), .ld (.r 7), .none⟩, ⟨(.some 9), .bin .eql (.r 6) (.r 8), .none⟩, ⟨(.some 10), .mv (.r 9), .none⟩, ⟨(.some 11), .fadr 1 (.r 2), (.some (10, true))⟩, ⟨(.some 12), .ld (.r 11), (.some (10, true))⟩, ⟨(.some 13), .fadr 1 (.r 3), (.some (10, true))⟩, ⟨(.some 14), .ld (.r 13), (.some (10, true))⟩, ⟨(.some 15), .call 16 [(.r 12), (.r 14)], (.some (10, true))⟩, ⟨(.some 16), .pick (.r 10) (.r 15) (.c (.b false)), .none⟩, ⟨(.some 4), .mv (.r 16), .none⟩])
 .ret)), 17, [.tmp 4]⟩
theorem AxZok115 : cfOf AxZ 115 = some AxZc115 := by kernel_rfl
/- conch/gram.Of -/
noncomputable def AxZc116 : CF := ⟨(.seq (.reg [⟨(.some 2), .box 53 (.r 0), .none⟩, ⟨(.some 4), .mv (.c .nils), .none⟩])
 (.seq (.reg [⟨(.some 5), .mv (.c .nils), .none⟩])
 (.seq (.seq (.reg [⟨(.some 8), .fadr 2 (.r 2), .none⟩, ⟨(.some 9), .ld (.r 8), .none⟩, ⟨(.some 10), .lenSl (.r 9), .none⟩, ⟨(.some 11), .mv (.c (.i (.ofNat (nat_lit 0)))), .none⟩])
 (.block 0 (.loop (.seq (.reg [⟨(.some 12), .bin .lss (.r 11) (.r 10), .none⟩])
 (.seq (.cond (.r 12) .skip (.exit 0))
 (.seq (.block 1 (.seq (.reg [⟨(.some 13), .mv (.r 11), .none⟩, ⟨(.some 14), .ixSl 2 (.r 9) (.r 11), .none⟩, ⟨(.some 15), .lda 2 (.r 14), .none⟩, ⟨(.some 7), .alloc 149 [(.i (.ofNat (nat_lit 0))), .nils], .none⟩, ⟨(.some 6), .mv (.r 13), .none⟩, ⟨.none, .st 2 (.r 7) (.r 15), .none⟩])
 (.seq (.reg [⟨(.some 16), .fadr 0 (.r 7), .none⟩, ⟨(.some 17), .ld (.r 16), .none⟩, ⟨(.some 18), .mv (.r 1), .none⟩, ⟨(.some 19), .bin .eql (.r 17) (.r 18), .none⟩])
 (.cond (.r 19) (.reg [⟨(.some 20), .mv (.r 5), .none⟩, ⟨(.some 21), .mv (.r 6), .none⟩, ⟨(.some 22), .bslice 3 1 1 [(.i (.ofNat (nat_lit 0)))] [(0, 1, (.r 21))], .none⟩, ⟨(.some 23), .app 3 1 (.r 20) (.r 22), .none⟩, ⟨(.some 5), .mv (.r 23), .none⟩]) .skip))))
 (.reg [⟨(.some 24), .bin .add (.r 11) (.c (.i (.ofNat (nat_lit 1)))), .none⟩, ⟨(.some 11), .mv (.r 24), .none⟩])))))))
 (.seq (.reg [⟨(.some 25), .mv (.r 5), .none⟩, ⟨(.some 4), .mv (.r 25), .none⟩])
 .ret)))), 26, [.tmp 4]⟩
theorem AxZok116 : cfOf AxZ 116 = some AxZc116 := by kernel_rfl
/- slices.IndexFunc[[]conch/api.Rule,conch/api.Rule] -/
noncomputable def AxZc117 : CF := ⟨(.seq (.reg [⟨(.some 4), .mv (.c (.i (.ofNat (nat_lit 0)))), .none⟩])
 (.seq (.seq (.reg [⟨(.some 6), .mv (.r 0), .none⟩, ⟨(.some 7), .lenSl (.r 6), .none⟩, ⟨(.some 8), .mv (.c (.i (.ofNat (nat_lit 0)))), .none⟩])
 (.block 0 (.loop (.seq (.reg [⟨(.some 9), .bin .lss (.r 8) (.r 7), .none⟩])
 (.seq (.cond (.r 9) .skip (.exit 0))
 (.seq (.block 1 (.seq (.reg [⟨(.some 10), .mv (.r 8), .none⟩, ⟨(.some 5), .mv (.r 10), .none⟩])
 (.seq (.reg [⟨(.some 11), .mv (.r 1), .none⟩, ⟨(.some 12), .mv (.r 0), .none⟩, ⟨(.some 13), .mv (.r 5), .none⟩, ⟨(.some 14), .ixSl 2 (.r 12) (.r 13), .none⟩, ⟨(.some 15), .lda 2 (.r 14), .none⟩, ⟨(.some 16), .callv (.r 11) [(.r 15)], .none⟩])
 (.cond (.r 16) (.seq (.reg [⟨(.some 17), .mv (.r 5), .none⟩, ⟨(.some 4), .mv (.r 17), .none⟩])
 .ret) .skip))))
 (.reg [⟨(.some 18), .bin .add (.r 8) (.c (.i (.ofNat (nat_lit 1)))), .none⟩, ⟨(.some 8), .mv (.r 18), .none⟩])))))))
 (.seq (.reg [⟨(.some 4), .mv (.c (.i (.negSucc (nat_lit 0)))), .none⟩])
 .ret))), 19, [.tmp 4]⟩
theorem AxZok117 : cfOf AxZ 117 = some AxZc117 := by kernel_rfl
/- conch/gram.Ordered$1 -/
noncomputable def AxZc118 : CF := ⟨(.seq (.reg [⟨(.some 2), .box 149 (.r 0), .none⟩, ⟨(.some 3), .mv (.c (.b false)), .none⟩])
 (.seq (.reg [⟨(.some 4), .fadr 0 (.r 2), .none⟩, ⟨(.some 5), .ld (.r 4), .none⟩, ⟨(.some 6), .ld (.r 1), .none⟩, ⟨(.some 7), .bin .eql (.r 5) (.r 6), .none⟩, ⟨(.some 3), .mv (.r 7), .none⟩])
 .ret)), 8, [.tmp 3]⟩
theorem AxZok118 : cfOf AxZ 118 = some AxZc118 := by kernel_rfl
/- slices.IsSorted[[]int,int] -/
noncomputable def AxZc119 : CF := ⟨(.seq (.reg [⟨(.some 2), .mv (.c (.b false)), .none⟩])
 (.seq (.seq (.reg [⟨(.some 4), .mv (.r 0), .none⟩, ⟨(.some 5), .lenSl (.r 4), .none⟩, ⟨(.some 6), .bin .sub (.r 5) (.c (.i (.ofNat (nat_lit 1)))), .none⟩, ⟨(.some 3), .mv (.r 6), .none⟩])
 (.block 0 (.loop (.seq (.seq (.reg [⟨(.some 7), .mv (.r 3), .none⟩, ⟨(.some 8), .bin .gtr (.r 7) (.c (.i (.ofNat (nat_lit 0)))), .none⟩])
 (.cond (.r 8) .skip (.exit 0)))
 (.seq (.block 1 (.seq (.dreg [(⟨(.some 11), .mv (.r 0), .none⟩, false), (⟨(.some 12), .mv (.r 3), .none⟩, false), (⟨(.some 13), .ixSl 1 (.r 11) (.r 12), .none⟩, false), (⟨(.some 14), .ld (.r 13), .none⟩, false), (⟨(.some 15), .mv (.r 0), .none⟩, false), (⟨(.some 16), .mv (.r 3), .none⟩, false), (⟨(.some 17), .bin .sub (.r 16) (.c (.i (.ofNat (nat_lit 1)))), .none⟩, false), (⟨(.some 18), .ixSl 1 (.r 15) (.r 17), .none⟩, false), (⟨(.some 19), .ld (.r 18), .none⟩, false), (⟨(.some 20), .call 166 [(.r 14), (.r 19)], .none⟩, true)] [])
 (.cond (.r 20) (.seq (.reg [⟨(.some 2), .mv (.c (.b false)), .none⟩])
 .ret) .skip)))
 (.reg [⟨(.some 9), .mv (.r 3), .none⟩, ⟨(.some 10), .bin .sub (.r 9) (.c (.i (.ofNat (nat_lit 1)))), .none⟩, ⟨(.some 3), .mv (.r 10), .none⟩]))))))
 (.seq (.reg [⟨(.some 2), .mv (.c (.b true)), .none⟩])
 .ret))), 21, [.tmp 2]⟩
theorem AxZok119 : cfOf AxZ 119 = some AxZc119 := by kernel_rfl
/- conch/gshow.blanks -/
noncomputable def AxZc120 : CF := ⟨(.seq (.reg [⟨(.some 2), .mv (.c (.s 0 (nat_lit 0))), .none⟩])
 (.seq (.reg [⟨(.some 3), .alloc 134 [.nilp, .nils], .none⟩])
 (.seq (.seq (.reg [⟨(.some 6), .mv (.r 0), .none⟩, ⟨(.some 7), .lenSl (.r 6), .none⟩, ⟨(.some 8), .mv (.c (.i (.ofNat (nat_lit 0)))), .none⟩])
 (.block 0 (.loop (.seq (.reg [⟨(.some 9), .bin .lss (.r 8) (.r 7), .none⟩])
 (.seq (.cond (.r 9) .skip (.exit 0))
 (.seq (.block 1 (.seq (.reg [⟨(.some 10), .ixSl 1 (.r 6) (.r 8), .none⟩, ⟨(.some 11), .ld (.r 10), .none⟩, ⟨(.some 5), .mv (.r 11), .none⟩])
 (.seq (.reg [⟨(.some 12), .call 58 [(.r 3), (.c (.u .u8 (.ofNat (nat_lit 32))))], .none⟩])
 (.reg [⟨(.some 13), .mv (.r 5), .none⟩, ⟨(.some 14), .call 56 [(.r 3), (.r 13)], .none⟩]))))
 (.reg [⟨(.some 15), .bin .add (.r 8) (.c (.i (.ofNat (nat_lit 1)))), .none⟩, ⟨(.some 8), .mv (.r 15), .none⟩])))))))
 (.seq (.reg [⟨(.some 16), .call 59 [(.r 3)], .none⟩, ⟨(.some 2), .mv (.r 16), .none⟩])
 .ret)))), 17, [.tmp 2]⟩
theorem AxZok120 : cfOf AxZ 120 = some AxZc120 := by kernel_rfl
end Ax
