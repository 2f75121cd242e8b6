/- The functions do what is told of them. -/
import Derived.Test.YtcihahfmdencfaaFif
import Derived.Test.YtcihahfmdencfaaCln
import Derived.Test.YtcihahfmdencfaaCmp
import Derived.Test.YtcihahfmdencfaaProg
import Derived.KernelRfl
set_option linter.unusedVariables false
set_option maxRecDepth 100000
namespace Go.Proofs.Ytcihahfmdencfaa.Eng
def noH : Hint := ⟨[], [], [], false⟩
def bd (f : Func) : Code := match f.body with
  | some c => c
  | none => .skip
def H3 : Nat → Hint
  | 126 => ⟨[], [], [2, 3, 9, 10, 11, 12], true⟩
  | 62 => ⟨[], [], [0, 1, 2, 3, 9, 10], true⟩
  | 30 => ⟨[], [], [0, 1, 2, 3], true⟩
  | 116 => ⟨[], [], [], true⟩
  | 28 => ⟨[], [], [0, 1, 2, 3], true⟩
  | 52 => ⟨[], [], [], true⟩
  | 12 => ⟨[], [], [0, 1, 2, 3], true⟩
  | 2 => ⟨[], [], [0, 1, 2, 3], true⟩
  | _ => noH
def H4 : Nat → Hint
  | 506 => ⟨[(9, none)], [], [0, 1, 2, 7], false⟩
  | 2046 => ⟨[], [], [7, 8, 11], true⟩
  | 1022 => ⟨[], [], [0, 1, 7, 10], true⟩
  | 510 => ⟨[], [], [0, 1, 2, 7], true⟩
  | 2036 => ⟨[], [], [], true⟩
  | 508 => ⟨[], [], [0, 1, 2, 7], true⟩
  | 4051 => ⟨[], [], [0, 1, 2, 7, 9], true⟩
  | 64804 => ⟨[], [], [], true⟩
  | 16200 => ⟨[], [], [0, 1, 2, 7, 9], true⟩
  | 4048 => ⟨[], [], [0, 1, 2, 7, 9], true⟩
  | 252 => ⟨[], [], [0, 1, 2, 7], true⟩
  | 500 => ⟨[], [], [1, 8], true⟩
  | 124 => ⟨[], [], [0, 1, 2, 7, 8], true⟩
  | 30 => ⟨[], [], [0, 1, 2], true⟩
  | 116 => ⟨[], [], [], true⟩
  | 28 => ⟨[], [], [0, 1, 2], true⟩
  | 52 => ⟨[], [], [], true⟩
  | 12 => ⟨[], [], [0, 1, 2], true⟩
  | 2 => ⟨[], [], [0, 1, 2], true⟩
  | _ => noH
def H5 : Nat → Hint
  | 62 => ⟨[], [], [3, 4, 5, 6], true⟩
  | 30 => ⟨[], [], [3, 4], true⟩
  | 14 => ⟨[], [], [1], true⟩
  | 6 => ⟨[], [], [], true⟩
  | 2 => ⟨[], [], [], true⟩
  | _ => noH
def H6 : Nat → Hint
  | 58 => ⟨[(3, none), (4, none)], [], [0], false⟩
  | 30 => ⟨[], [], [0, 3], true⟩
  | 467 => ⟨[], [], [0, 3, 4], true⟩
  | 932 => ⟨[], [], [0, 3, 4], true⟩
  | 464 => ⟨[], [], [0, 3, 4], true⟩
  | 28 => ⟨[], [], [0, 3], true⟩
  | 6 => ⟨[], [], [0], true⟩
  | 2 => ⟨[], [], [0], true⟩
  | _ => noH
def H7 : Nat → Hint
  | 506 => ⟨[(36, none)], [], [6, 7, 8, 34, 35], false⟩
  | 254 => ⟨[], [], [6, 7], true⟩
  | 8103 => ⟨[], [], [6, 7, 8, 34, 35, 36], true⟩
  | 32409 => ⟨[], [], [6, 7, 8, 10, 34, 35, 36], true⟩
  | 32408 => ⟨[], [], [6, 7, 8, 34, 35, 36], true⟩
  | 2024 => ⟨[], [], [6, 7, 8, 34, 35, 36], true⟩
  | 252 => ⟨[], [], [0, 6, 7, 8], true⟩
  | 62 => ⟨[], [], [0, 6, 7], true⟩
  | 30 => ⟨[], [], [0, 1, 6], true⟩
  | 14 => ⟨[], [], [0, 1], true⟩
  | 52 => ⟨[], [], [], true⟩
  | 12 => ⟨[], [], [0, 1], true⟩
  | 2 => ⟨[], [], [0, 1], true⟩
  | _ => noH
def H8 : Nat → Hint
  | 64806 => ⟨[(11, none)], [], [0, 6, 8, 9, 10], false⟩
  | 506 => ⟨[(9, none)], [], [0, 6, 8], false⟩
  | 254 => ⟨[], [], [6, 8], true⟩
  | 4051 => ⟨[], [], [0, 6, 8, 9], true⟩
  | 518451 => ⟨[], [], [0, 6, 8, 9, 10, 11], true⟩
  | 1036900 => ⟨[], [], [0, 6, 8, 9, 10, 11], true⟩
  | 518448 => ⟨[], [], [0, 6, 8, 9, 10, 11], true⟩
  | 32402 => ⟨[], [], [0, 6, 8, 9, 10], true⟩
  | 16200 => ⟨[], [], [0, 6, 8, 9], true⟩
  | 4048 => ⟨[], [], [0, 6, 8, 9], true⟩
  | 252 => ⟨[], [], [0, 6, 8], true⟩
  | 62 => ⟨[], [], [0, 6, 7], true⟩
  | 30 => ⟨[], [], [0, 1, 6], true⟩
  | 14 => ⟨[], [], [0, 1], true⟩
  | 52 => ⟨[], [], [], true⟩
  | 12 => ⟨[], [], [0, 1], true⟩
  | 2 => ⟨[], [], [0, 1], true⟩
  | _ => noH
def H9 : Nat → Hint
  | 6 => ⟨[], [], [0, 1], true⟩
  | 2 => ⟨[], [], [0, 1], true⟩
  | _ => noH
def H10 : Nat → Hint
  | 126 => ⟨[], [], [6], true⟩
  | 62 => ⟨[], [], [1, 2, 5, 6], true⟩
  | 30 => ⟨[], [], [1, 2, 5], true⟩
  | 116 => ⟨[], [], [], true⟩
  | 28 => ⟨[], [], [1, 2, 5], true⟩
  | 6 => ⟨[], [], [1, 2], true⟩
  | 2 => ⟨[], [], [0, 1], true⟩
  | _ => noH
def H11 : Nat → Hint
  | 250 => ⟨[(7, none)], [], [0, 6], false⟩
  | 126 => ⟨[], [], [], true⟩
  | 2003 => ⟨[], [], [0, 6, 7], true⟩
  | 32036 => ⟨[], [], [], true⟩
  | 8008 => ⟨[], [], [0, 6, 7], true⟩
  | 2000 => ⟨[], [], [0, 6, 7], true⟩
  | 124 => ⟨[], [], [0, 6], true⟩
  | 30 => ⟨[], [], [0, 1, 5], true⟩
  | 116 => ⟨[], [], [], true⟩
  | 28 => ⟨[], [], [0, 1, 5], true⟩
  | 6 => ⟨[], [], [0, 1], true⟩
  | 2 => ⟨[], [], [0, 1], true⟩
  | _ => noH
def H12 : Nat → Hint
  | 14 => ⟨[], [], [0, 1, 2], true⟩
  | 52 => ⟨[], [], [], true⟩
  | 12 => ⟨[], [], [0, 1, 2], true⟩
  | 2 => ⟨[], [], [0, 1, 2], true⟩
  | _ => noH
def H13 : Nat → Hint
  | 14 => ⟨[], [], [0, 1], true⟩
  | 100 => ⟨[], [], [], true⟩
  | 412 => ⟨[], [], [], true⟩
  | 102 => ⟨[], [], [0, 1], true⟩
  | 24 => ⟨[], [], [0, 1], true⟩
  | 2 => ⟨[], [], [0, 1], true⟩
  | _ => noH
def H14 : Nat → Hint
  | 8188 => ⟨[(8, none), (10, none), (11, some (.sl (.int .u8) none false))], [(10, 38, (.pair (.sl (.int .u8)) (.sl (.int .u8))))], [0, 5, 7, 9], false⟩
  | 4095 => ⟨[(8, some (.int .i64))], [], [0, 10], true⟩
  | 65506 => ⟨[(8, some (.int .i64))], [], [0, 5, 7, 9, 10, 11], true⟩
  | 255 => ⟨[(9, some (.int .u32))], [], [0, 5, 7, 8], true⟩
  | 32766 => ⟨[], [], [10], true⟩
  | 262124 => ⟨[], [], [], true⟩
  | 65530 => ⟨[], [], [0, 10, 13, 14], true⟩
  | 32764 => ⟨[], [], [0, 8, 10], true⟩
  | 32762 => ⟨[], [], [0, 10], true⟩
  | 16380 => ⟨[], [], [0, 5, 8, 10], true⟩
  | 524055 => ⟨[], [], [0, 5, 7, 8, 9, 10, 12], true⟩
  | 4192436 => ⟨[], [], [], true⟩
  | 1048108 => ⟨[], [], [0, 5, 7, 8, 9, 10, 12], true⟩
  | 262026 => ⟨[], [], [0, 5, 7, 8, 9, 10, 11], true⟩
  | 524050 => ⟨[], [], [0, 5, 7, 9, 10, 11], true⟩
  | 262024 => ⟨[], [], [0, 5, 7, 8, 9, 10, 11], true⟩
  | 65504 => ⟨[], [], [0, 5, 7, 8, 9, 10, 11], true⟩
  | 2046 => ⟨[], [], [0, 5, 7, 8, 9, 10], true⟩
  | 1022 => ⟨[], [], [0, 5, 7, 8, 9], true⟩
  | 2042 => ⟨[], [], [0, 5, 7, 8], true⟩
  | 1020 => ⟨[], [], [0, 5, 7, 8, 9], true⟩
  | 254 => ⟨[], [], [0, 5, 7], true⟩
  | 126 => ⟨[], [], [0, 4, 5], true⟩
  | 500 => ⟨[], [], [], true⟩
  | 124 => ⟨[], [], [0, 4, 5], true⟩
  | 30 => ⟨[], [], [0, 4], true⟩
  | 116 => ⟨[], [], [], true⟩
  | 28 => ⟨[], [], [0, 4], true⟩
  | 6 => ⟨[], [], [0], true⟩
  | 2 => ⟨[], [], [0], true⟩
  | _ => noH
def H15 : Nat → Hint
  | 30 => ⟨[(8, none), (15, none)], [], [2, 3, 9, 14], false⟩
  | 487 => ⟨[], [], [2, 3, 8, 9, 14, 15], true⟩
  | 1945 => ⟨[], [], [2, 3, 8, 9, 14, 15], true⟩
  | 1944 => ⟨[], [], [2, 3, 8, 9, 14, 15], true⟩
  | 120 => ⟨[], [], [2, 3, 8, 9, 14, 15], true⟩
  | 14 => ⟨[], [], [1, 2, 3, 8, 9], true⟩
  | 6 => ⟨[], [], [1, 2, 3, 8], true⟩
  | 2 => ⟨[], [], [0, 1, 2, 3], true⟩
  | _ => noH
def H16 : Nat → Hint
  | 1 => ⟨[], [], [0, 1], true⟩
  | _ => noH
def H17 : Nat → Hint
  | 250 => ⟨[(7, none), (9, none), (10, none)], [(9, 35, (.int .u64))], [1, 2, 8], false⟩
  | 126 => ⟨[], [], [9], true⟩
  | 2003 => ⟨[], [], [1, 2, 7, 8, 9, 10], true⟩
  | 8009 => ⟨[], [], [1, 2, 7, 8, 9, 10], true⟩
  | 8008 => ⟨[], [], [1, 2, 7, 8, 9, 10], true⟩
  | 2000 => ⟨[], [], [1, 2, 7, 8, 9, 10], true⟩
  | 124 => ⟨[], [], [1, 2, 7, 8, 9], true⟩
  | 30 => ⟨[], [], [1, 2, 7, 8], true⟩
  | 14 => ⟨[], [], [1, 2, 7], true⟩
  | 6 => ⟨[], [], [0, 1, 2], true⟩
  | 2 => ⟨[], [], [0, 1, 2], true⟩
  | _ => noH
def H18 : Nat → Hint
  | 1 => ⟨[], [], [0, 1, 2], true⟩
  | _ => noH
def H19 : Nat → Hint
  | 6 => ⟨[], [], [0, 1, 2], true⟩
  | 2 => ⟨[], [], [0, 1, 2], true⟩
  | _ => noH
def H21 : Nat → Hint
  | 6 => ⟨[], [], [0], true⟩
  | 2 => ⟨[], [], [0], true⟩
  | _ => noH
def H22 : Nat → Hint
  | 26 => ⟨[(11, none)], [], [0, 9, 10], false⟩
  | 14 => ⟨[], [], [], true⟩
  | 423 => ⟨[], [], [0, 9, 10, 11], true⟩
  | 27036 => ⟨[], [], [], true⟩
  | 6758 => ⟨[], [], [0, 3, 4, 8, 9, 10, 11], true⟩
  | 3378 => ⟨[], [], [0, 3, 4, 9, 10, 11], true⟩
  | 1688 => ⟨[], [], [0, 9, 10, 11], true⟩
  | 104 => ⟨[], [], [0, 9, 10, 11], true⟩
  | 12 => ⟨[], [], [0], true⟩
  | 2 => ⟨[], [], [0], true⟩
  | _ => noH
def H23 : Nat → Hint
  | 250682 => ⟨[(5, none), (51, none)], [(5, 5, (.int .u8))], [0, 1, 6, 7, 9, 10, 13, 14, 15, 50], false⟩
  | 122 => ⟨[(5, none), (6, none), (7, none), (15, none)], [(5, 5, (.int .u8)), (6, 5, (.int .u8))], [0, 1, 13, 14], false⟩
  | 15667 => ⟨[(6, none), (7, some (.int .i64)), (10, some (.int .i64))], [(6, 5, (.int .u8))], [0, 1, 5, 9, 13, 14, 15], true⟩
  | 62 => ⟨[], [], [5, 6, 7], true⟩
  | 1959 => ⟨[], [], [0, 1, 5, 6, 7, 13, 14, 15], true⟩
  | 62671 => ⟨[], [], [0, 1, 5, 6, 7, 9, 10, 13, 14, 15], true⟩
  | 4010919 => ⟨[], [], [0, 1, 5, 6, 7, 9, 10, 13, 14, 15, 50, 51], true⟩
  | 16043673 => ⟨[], [], [0, 1, 5, 6, 7, 9, 10, 12, 13, 14, 15, 50, 51], true⟩
  | 16043672 => ⟨[], [], [0, 1, 5, 6, 7, 9, 10, 13, 14, 15, 50, 51], true⟩
  | 1002728 => ⟨[], [], [0, 1, 5, 6, 7, 9, 10, 13, 14, 15, 50, 51], true⟩
  | 125340 => ⟨[], [], [0, 1, 5, 6, 7, 9, 10, 13, 14, 15], true⟩
  | 250677 => ⟨[], [], [0, 1, 5, 6, 7, 9, 10, 13, 14, 15], true⟩
  | 250676 => ⟨[], [], [0, 1, 5, 6, 7, 9, 10, 13, 14, 15], true⟩
  | 125339 => ⟨[], [], [0, 1, 5, 6, 7, 8, 9, 13, 14, 15], true⟩
  | 62668 => ⟨[], [], [0, 1, 5, 6, 7, 8, 9, 10, 13, 14, 15], true⟩
  | 15666 => ⟨[], [], [0, 1, 5, 6, 7, 8, 9, 13, 14, 15], true⟩
  | 7832 => ⟨[], [], [0, 1, 5, 6, 7, 13, 14, 15], true⟩
  | 488 => ⟨[], [], [0, 1, 5, 6, 7, 13, 14, 15], true⟩
  | 60 => ⟨[], [], [0, 1, 5, 6, 7], true⟩
  | 14 => ⟨[], [], [0, 1, 5, 6], true⟩
  | 6 => ⟨[], [], [0, 1], true⟩
  | 2 => ⟨[], [], [0, 1], true⟩
  | _ => noH
def H24 : Nat → Hint
  | 14 => ⟨[], [], [4, 5], true⟩
  | 6 => ⟨[], [], [0], true⟩
  | 2 => ⟨[], [], [0], true⟩
  | _ => noH
def H25 : Nat → Hint
  | 31 => ⟨[(10, some (.sl (.int .u8) none false)), (11, some (.sl (.int .u8) none false))], [], [0, 1, 4, 7], true⟩
  | 15 => ⟨[], [], [0, 1, 4, 6, 7, 8, 9], true⟩
  | 7 => ⟨[(7, some (.int .i64)), (8, some (.int .i64)), (9, some (.int .i64))], [], [0, 1, 4, 6], true⟩
  | 0 => ⟨[(0, some (.agg (.app (.sl (.int .u8) none false) (.app (.sl (.int .u8) none false) .fin))))], [], [], true⟩
  | 254 => ⟨[], [], [1, 4, 7, 10, 11], true⟩
  | 1012 => ⟨[], [], [4], true⟩
  | 252 => ⟨[], [], [0, 1, 4, 7, 10, 11], true⟩
  | 62 => ⟨[], [], [0, 1, 4, 6, 7, 8, 9], true⟩
  | 122 => ⟨[], [], [0, 1, 4, 6, 7, 8, 9], true⟩
  | 60 => ⟨[], [], [0, 1, 4, 6, 7, 8, 9], true⟩
  | 14 => ⟨[], [], [0, 1, 4, 5, 6], true⟩
  | 6 => ⟨[], [], [0, 1, 4], true⟩
  | 2 => ⟨[], [], [0, 1], true⟩
  | _ => noH
def H26 : Nat → Hint
  | 6 => ⟨[], [], [0, 1], true⟩
  | 2 => ⟨[], [], [0, 1], true⟩
  | _ => noH
def H27 : Nat → Hint
  | 29902 => ⟨[(3, none), (16, none)], [], [6, 7, 8], false⟩
  | 58 => ⟨[(3, none), (8, none)], [], [6, 7], false⟩
  | 30 => ⟨[], [], [3], true⟩
  | 935 => ⟨[], [], [3, 6, 7, 8], true⟩
  | 478439 => ⟨[], [], [3, 6, 7, 8, 16], true⟩
  | 956876 => ⟨[], [], [3, 6, 7, 8, 16], true⟩
  | 119608 => ⟨[], [], [3, 6, 7, 8, 16], true⟩
  | 14950 => ⟨[], [], [3, 6, 7, 8], true⟩
  | 7474 => ⟨[], [], [3, 5, 6, 7, 8], true⟩
  | 3736 => ⟨[], [], [3, 6, 7, 8], true⟩
  | 232 => ⟨[], [], [3, 6, 7, 8], true⟩
  | 28 => ⟨[], [], [0, 3], true⟩
  | 6 => ⟨[], [], [0], true⟩
  | 2 => ⟨[], [], [0], true⟩
  | _ => noH
def H28 : Nat → Hint
  | 14 => ⟨[], [], [0, 5], true⟩
  | 6 => ⟨[], [], [0, 1], true⟩
  | 2 => ⟨[], [], [0, 1], true⟩
  | _ => noH
def H29 : Nat → Hint
  | 7462 => ⟨[(3, none), (5, none)], [], [0, 4], false⟩
  | 58 => ⟨[(3, none), (4, none)], [], [0], false⟩
  | 30 => ⟨[], [], [3], true⟩
  | 467 => ⟨[], [], [0, 3, 4], true⟩
  | 59699 => ⟨[], [], [0, 3, 4, 5], true⟩
  | 477586 => ⟨[], [], [0, 3, 4, 5], true⟩
  | 477587 => ⟨[], [], [0, 3, 4, 5], true⟩
  | 238792 => ⟨[], [], [0, 3, 4, 5], true⟩
  | 59696 => ⟨[], [], [0, 3, 4, 5], true⟩
  | 3730 => ⟨[], [], [0, 3, 4], true⟩
  | 1864 => ⟨[], [], [0, 3, 4], true⟩
  | 464 => ⟨[], [], [0, 3, 4], true⟩
  | 28 => ⟨[], [], [0, 3], true⟩
  | 6 => ⟨[], [], [0], true⟩
  | 2 => ⟨[], [], [0], true⟩
  | _ => noH
def H30 : Nat → Hint
  | 58 => ⟨[(5, none), (8, none)], [(5, 5, (.int .u8))], [0, 7], false⟩
  | 30 => ⟨[], [], [5], true⟩
  | 935 => ⟨[], [], [0, 5, 7, 8], true⟩
  | 3737 => ⟨[], [], [0, 5, 6, 7, 8], true⟩
  | 3736 => ⟨[], [], [0, 5, 7, 8], true⟩
  | 232 => ⟨[], [], [0, 5, 7, 8], true⟩
  | 28 => ⟨[], [], [0, 1, 5], true⟩
  | 6 => ⟨[], [], [0, 1], true⟩
  | 2 => ⟨[], [], [0, 1], true⟩
  | _ => noH
def H31 : Nat → Hint
  | 126 => ⟨[], [], [0, 6, 7], true⟩
  | 500 => ⟨[], [], [], true⟩
  | 124 => ⟨[], [], [0, 6, 7], true⟩
  | 30 => ⟨[], [], [0, 6], true⟩
  | 116 => ⟨[], [], [], true⟩
  | 28 => ⟨[], [], [0, 6], true⟩
  | 6 => ⟨[], [], [0], true⟩
  | 2 => ⟨[], [], [0], true⟩
  | _ => noH
def H32 : Nat → Hint
  | 14 => ⟨[], [], [5, 6], true⟩
  | 6 => ⟨[], [], [0, 1], true⟩
  | 2 => ⟨[], [], [0, 1], true⟩
  | _ => noH
def H33 : Nat → Hint
  | 6 => ⟨[], [], [0], true⟩
  | 2 => ⟨[], [], [0], true⟩
  | _ => noH
def H34 : Nat → Hint
  | 28 => ⟨[(5, none)], [], [0, 1], false⟩
  | 30 => ⟨[], [], [5], true⟩
  | 226 => ⟨[], [], [0, 1, 5], true⟩
  | 224 => ⟨[], [], [0, 1, 5], true⟩
  | 6 => ⟨[], [], [0, 1], true⟩
  | 2 => ⟨[], [], [0, 1], true⟩
  | _ => noH
def H35 : Nat → Hint
  | 28 => ⟨[(0, none), (3, none)], [(3, 5, (.int .u8))], [], false⟩
  | 30 => ⟨[], [], [0, 3], true⟩
  | 227 => ⟨[], [], [0, 3], true⟩
  | 452 => ⟨[], [], [0, 3], true⟩
  | 224 => ⟨[], [], [0, 3], true⟩
  | 6 => ⟨[], [], [0], true⟩
  | 2 => ⟨[], [], [0], true⟩
  | _ => noH
def H36 : Nat → Hint
  | 122 => ⟨[(6, none), (13, none)], [], [0, 12], false⟩
  | 62 => ⟨[], [], [6], true⟩
  | 1959 => ⟨[], [], [0, 6, 12, 13], true⟩
  | 7833 => ⟨[], [], [0, 6, 7, 12, 13], true⟩
  | 7832 => ⟨[], [], [0, 6, 12, 13], true⟩
  | 488 => ⟨[], [], [0, 6, 12, 13], true⟩
  | 60 => ⟨[], [], [0, 1, 6], true⟩
  | 14 => ⟨[], [], [0, 1], true⟩
  | 52 => ⟨[], [], [], true⟩
  | 12 => ⟨[], [], [0, 1], true⟩
  | 2 => ⟨[], [], [0, 1], true⟩
  | _ => noH
def H37 : Nat → Hint
  | 0 => ⟨[(0, some (.int .i64))], [], [], true⟩
  | 62 => ⟨[], [], [3], true⟩
  | 490 => ⟨[], [], [], true⟩
  | 244 => ⟨[], [], [0], true⟩
  | 60 => ⟨[], [], [0, 3, 5], true⟩
  | 14 => ⟨[], [], [0, 3, 4, 5], true⟩
  | 6 => ⟨[], [], [0], true⟩
  | 2 => ⟨[], [], [0], true⟩
  | _ => noH
def H38 : Nat → Hint
  | 0 => ⟨[(0, some (.sl (.int .u8) none false))], [], [], true⟩
  | 30 => ⟨[], [], [0, 1], true⟩
  | 14 => ⟨[], [], [0, 1], true⟩
  | 106 => ⟨[], [], [], true⟩
  | 52 => ⟨[], [], [0], true⟩
  | 12 => ⟨[], [], [0, 1], true⟩
  | 2 => ⟨[], [], [0, 1], true⟩
  | _ => noH
def H39 : Nat → Hint
  | 6 => ⟨[], [], [0], true⟩
  | 2 => ⟨[], [], [0], true⟩
  | _ => noH
def H40 : Nat → Hint
  | 252 => ⟨[], [], [8, 12], true⟩
  | 1008 => ⟨[], [], [7, 8, 11, 12], true⟩
  | 254 => ⟨[], [], [14], true⟩
  | 1010 => ⟨[], [], [8, 12], true⟩
  | 8070 => ⟨[], [], [8, 12, 14], true⟩
  | 4034 => ⟨[], [], [7, 8, 11, 12], true⟩
  | 32262 => ⟨[], [], [7, 8, 11, 12, 14], true⟩
  | 16130 => ⟨[], [], [6, 7, 8, 10, 11, 12], true⟩
  | 258054 => ⟨[], [], [8, 12, 14], true⟩
  | 258052 => ⟨[], [], [7, 8, 11, 12, 14], true⟩
  | 129024 => ⟨[], [], [6, 7, 8, 10, 11, 12, 14], true⟩
  | 62 => ⟨[], [], [6, 7, 8, 10, 11, 12], true⟩
  | 244 => ⟨[], [], [], true⟩
  | 60 => ⟨[], [], [6, 7, 8, 9, 10, 11, 12, 13], true⟩
  | 14 => ⟨[], [], [1, 6, 7, 8, 9], true⟩
  | 6 => ⟨[], [], [0, 1], true⟩
  | 2 => ⟨[], [], [0, 1], true⟩
  | _ => noH
def H41 : Nat → Hint
  | 58 => ⟨[(5, none), (10, none)], [], [8, 9], false⟩
  | 30 => ⟨[], [], [], true⟩
  | 935 => ⟨[], [], [5, 8, 9, 10], true⟩
  | 119612 => ⟨[], [], [5, 6], true⟩
  | 29902 => ⟨[], [], [5, 6, 7, 8, 9, 10], true⟩
  | 14950 => ⟨[], [], [5, 6, 7, 8, 9, 10], true⟩
  | 59796 => ⟨[], [], [], true⟩
  | 14948 => ⟨[], [], [5, 6, 7, 8, 9, 10], true⟩
  | 3736 => ⟨[], [], [5, 8, 9, 10], true⟩
  | 232 => ⟨[], [], [5, 8, 9, 10], true⟩
  | 28 => ⟨[], [], [0, 5], true⟩
  | 6 => ⟨[], [], [0], true⟩
  | 2 => ⟨[], [], [0], true⟩
  | _ => noH
def H42 : Nat → Hint
  | 6 => ⟨[], [], [0, 1], true⟩
  | 2 => ⟨[], [], [0, 1], true⟩
  | _ => noH
def H43 : Nat → Hint
  | 510 => ⟨[], [], [], true⟩
  | 2036 => ⟨[], [], [], true⟩
  | 508 => ⟨[], [], [0, 1], true⟩
  | 1012 => ⟨[], [], [], true⟩
  | 252 => ⟨[], [], [0, 1], true⟩
  | 500 => ⟨[], [], [], true⟩
  | 124 => ⟨[], [], [0, 1, 6], true⟩
  | 490 => ⟨[], [], [], true⟩
  | 1956 => ⟨[], [], [], true⟩
  | 488 => ⟨[], [], [6], true⟩
  | 60 => ⟨[], [], [0, 1, 5, 6], true⟩
  | 14 => ⟨[], [], [0, 1, 5], true⟩
  | 6 => ⟨[], [], [0, 1], true⟩
  | 2 => ⟨[], [], [0, 1], true⟩
  | _ => noH
def H44 : Nat → Hint
  | 510 => ⟨[], [], [], true⟩
  | 2036 => ⟨[], [], [], true⟩
  | 508 => ⟨[], [], [0, 1], true⟩
  | 1012 => ⟨[], [], [], true⟩
  | 252 => ⟨[], [], [0, 1], true⟩
  | 500 => ⟨[], [], [], true⟩
  | 124 => ⟨[], [], [0, 1, 6], true⟩
  | 490 => ⟨[], [], [], true⟩
  | 1956 => ⟨[], [], [], true⟩
  | 488 => ⟨[], [], [6], true⟩
  | 60 => ⟨[], [], [0, 1, 5, 6], true⟩
  | 14 => ⟨[], [], [0, 1, 5], true⟩
  | 6 => ⟨[], [], [0, 1], true⟩
  | 2 => ⟨[], [], [0, 1], true⟩
  | _ => noH
def H46 : Nat → Hint
  | 6 => ⟨[], [], [0], true⟩
  | 2 => ⟨[], [], [0], true⟩
  | _ => noH
def H47 : Nat → Hint
  | 6 => ⟨[], [], [0], true⟩
  | 2 => ⟨[], [], [0], true⟩
  | _ => noH
def HT : FuncId → Nat → Hint
  | 15 => H15
  | 16 => H16
  | 18 => H18
  | 25 => H25
  | 37 => H37
  | 38 => H38
  | _ => fun _ => noH
noncomputable def FT : FuncId → Option Func
  | 15 => some Go.Proofs.Try.f15
  | 16 => some Go.Proofs.Try.f16
  | 18 => some Go.Proofs.Try.f18
  | 25 => some Go.Proofs.Try.f25
  | 37 => some Go.Proofs.Try.f37
  | 38 => some Go.Proofs.Try.f38
  | _ => none
theorem ft_ok : FOK Go.Proofs.Try.prog FT := by
  intro f fn h
  unfold FT at h
  split at h
  · injection h with h; subst h; exact ⟨Go.Proofs.Try.func15, by kernel_rfl⟩
  · injection h with h; subst h; exact ⟨Go.Proofs.Try.func16, by kernel_rfl⟩
  · injection h with h; subst h; exact ⟨Go.Proofs.Try.func18, by kernel_rfl⟩
  · injection h with h; subst h; exact ⟨Go.Proofs.Try.func25, by kernel_rfl⟩
  · injection h with h; subst h; exact ⟨Go.Proofs.Try.func37, by kernel_rfl⟩
  · injection h with h; subst h; exact ⟨Go.Proofs.Try.func38, by kernel_rfl⟩
  · cases h
theorem mixed_ok : Go.Proofs.Try.prog.follows .mixedOrders = true := by kernel_rfl
def CT19 {R : Type} (_ : Nat) : FuncId → Option (ConF R) := fun _ => none
theorem ct19 {R : Type} (k : Nat) (f : FuncId) (g : ConF R) (h : CT19 k f = some g) : ConOK Go.Proofs.Try.prog f g := by cases h
theorem run19 : (fun (k : Nat) (xs : HS [((.sl (.int .u8)), true), ((.int .u64), true), ((.int .i64), true)]) => arun (tsOf Go.Proofs.Try.prog) (yOf Go.Proofs.Try.prog) [((.sl (.int .u8)), true), ((.int .u64), true), ((.int .i64), true)] [.bool] (acall (tsOf Go.Proofs.Try.prog) (yOf Go.Proofs.Try.prog) FT HT k (CT19 k) 4) (fun f => (CT19 (R := HL [.bool]) k f).isSome) (H19) Go.Proofs.Try.f19 (bd Go.Proofs.Try.f19) k xs) = F19 := by kernel_rfl
theorem ok19 (k : Nat) : FnOK Go.Proofs.Try.prog 19 [((.sl (.int .u8)), true), ((.int .u64), true), ((.int .i64), true)] [.bool] (F19 k) :=
  fnOK_of_run (tsOf_ok _) (yOf_ok _) (acall_sound (tsOf_ok _) (yOf_ok _) ft_ok (ct19 k) mixed_ok 4) mixed_ok Go.Proofs.Try.func19 (by kernel_rfl) (by kernel_rfl) fun xs ys h => ⟨k, by rw [← h, ← run19]⟩
theorem ok20 (k : Nat) : FnOKf Go.Proofs.Try.prog 20 [((.sl (.int .u8)), true)] 5 (.int .u8) [] (F20 k) := clone_ok
def CT30 {R : Type} (_ : Nat) : FuncId → Option (ConF R) := fun _ => none
theorem ct30 {R : Type} (k : Nat) (f : FuncId) (g : ConF R) (h : CT30 k f = some g) : ConOK Go.Proofs.Try.prog f g := by cases h
theorem run30 : (fun (k : Nat) (xs : HS [((.int .u64), true), ((.int .i64), true)]) => arun (tsOf Go.Proofs.Try.prog) (yOf Go.Proofs.Try.prog) [((.int .u64), true), ((.int .i64), true)] [(.sl (.int .u8))] (acall (tsOf Go.Proofs.Try.prog) (yOf Go.Proofs.Try.prog) FT HT k (CT30 k) 4) (fun f => (CT30 (R := HL [(.sl (.int .u8))]) k f).isSome) (H30) Go.Proofs.Try.f30 (bd Go.Proofs.Try.f30) k xs) = F30 := by kernel_rfl
theorem ok30 (k : Nat) : FnOK Go.Proofs.Try.prog 30 [((.int .u64), true), ((.int .i64), true)] [(.sl (.int .u8))] (F30 k) :=
  fnOK_of_run (tsOf_ok _) (yOf_ok _) (acall_sound (tsOf_ok _) (yOf_ok _) ft_ok (ct30 k) mixed_ok 4) mixed_ok Go.Proofs.Try.func30 (by kernel_rfl) (by kernel_rfl) fun xs ys h => ⟨k, by rw [← h, ← run30]⟩
noncomputable def CT21 {R : Type} (k : Nat) : FuncId → Option (ConF R)
  | 30 => some (conOf (sig := [((.int .u64), true), ((.int .i64), true)]) (res := [(.sl (.int .u8))]) (F30 k))
  | _ => none
theorem ct21 {R : Type} (k : Nat) (f : FuncId) (g : ConF R) (h : CT21 k f = some g) : ConOK Go.Proofs.Try.prog f g := by
  unfold CT21 at h
  split at h
  · injection h with h; subst h; exact conOf_sound (ok30 k)
  · cases h
theorem run21 : (fun (k : Nat) (xs : HS [((.int .u64), true)]) => arun (tsOf Go.Proofs.Try.prog) (yOf Go.Proofs.Try.prog) [((.int .u64), true)] [(.sl (.int .u8))] (acall (tsOf Go.Proofs.Try.prog) (yOf Go.Proofs.Try.prog) FT HT k (CT21 k) 4) (fun f => (CT21 (R := HL [(.sl (.int .u8))]) k f).isSome) (H21) Go.Proofs.Try.f21 (bd Go.Proofs.Try.f21) k xs) = F21 := by kernel_rfl
theorem ok21 (k : Nat) : FnOK Go.Proofs.Try.prog 21 [((.int .u64), true)] [(.sl (.int .u8))] (F21 k) :=
  fnOK_of_run (tsOf_ok _) (yOf_ok _) (acall_sound (tsOf_ok _) (yOf_ok _) ft_ok (ct21 k) mixed_ok 4) mixed_ok Go.Proofs.Try.func21 (by kernel_rfl) (by kernel_rfl) fun xs ys h => ⟨k, by rw [← h, ← run21]⟩
noncomputable def CT12 {R : Type} (k : Nat) : FuncId → Option (ConF R)
  | 19 => some (conOf (sig := [((.sl (.int .u8)), true), ((.int .u64), true), ((.int .i64), true)]) (res := [.bool]) (F19 k))
  | 20 => some (conOfF (sig := [((.sl (.int .u8)), true)]) (e := (.int .u8)) (res := []) 5 (F20 k))
  | 21 => some (conOf (sig := [((.int .u64), true)]) (res := [(.sl (.int .u8))]) (F21 k))
  | _ => none
theorem ct12 {R : Type} (k : Nat) (f : FuncId) (g : ConF R) (h : CT12 k f = some g) : ConOK Go.Proofs.Try.prog f g := by
  unfold CT12 at h
  split at h
  · injection h with h; subst h; exact conOf_sound (ok19 k)
  · injection h with h; subst h; exact conOfF_sound (ok20 k)
  · injection h with h; subst h; exact conOf_sound (ok21 k)
  · cases h
theorem run12 : (fun (k : Nat) (xs : HS [((.sl (.int .u8)), false), ((.int .u64), true), ((.int .i64), true)]) => arun (tsOf Go.Proofs.Try.prog) (yOf Go.Proofs.Try.prog) [((.sl (.int .u8)), false), ((.int .u64), true), ((.int .i64), true)] [(.sl (.int .u8)), (.int .i64)] (acall (tsOf Go.Proofs.Try.prog) (yOf Go.Proofs.Try.prog) FT HT k (CT12 k) 4) (fun f => (CT12 (R := HL [(.sl (.int .u8)), (.int .i64)]) k f).isSome) (H12) Go.Proofs.Try.f12 (bd Go.Proofs.Try.f12) k xs) = F12 := by kernel_rfl
theorem ok12 (k : Nat) : FnOK Go.Proofs.Try.prog 12 [((.sl (.int .u8)), false), ((.int .u64), true), ((.int .i64), true)] [(.sl (.int .u8)), (.int .i64)] (F12 k) :=
  fnOK_of_run (tsOf_ok _) (yOf_ok _) (acall_sound (tsOf_ok _) (yOf_ok _) ft_ok (ct12 k) mixed_ok 4) mixed_ok Go.Proofs.Try.func12 (by kernel_rfl) (by kernel_rfl) fun xs ys h => ⟨k, by rw [← h, ← run12]⟩
def CT36 {R : Type} (_ : Nat) : FuncId → Option (ConF R) := fun _ => none
theorem ct36 {R : Type} (k : Nat) (f : FuncId) (g : ConF R) (h : CT36 k f = some g) : ConOK Go.Proofs.Try.prog f g := by cases h
theorem run36 : (fun (k : Nat) (xs : HS [((.sl (.int .u8)), true), ((.int .i64), true)]) => arun (tsOf Go.Proofs.Try.prog) (yOf Go.Proofs.Try.prog) [((.sl (.int .u8)), true), ((.int .i64), true)] [(.int .u64), (.int .i64)] (acall (tsOf Go.Proofs.Try.prog) (yOf Go.Proofs.Try.prog) FT HT k (CT36 k) 4) (fun f => (CT36 (R := HL [(.int .u64), (.int .i64)]) k f).isSome) (H36) Go.Proofs.Try.f36 (bd Go.Proofs.Try.f36) k xs) = F36 := by kernel_rfl
theorem ok36 (k : Nat) : FnOK Go.Proofs.Try.prog 36 [((.sl (.int .u8)), true), ((.int .i64), true)] [(.int .u64), (.int .i64)] (F36 k) :=
  fnOK_of_run (tsOf_ok _) (yOf_ok _) (acall_sound (tsOf_ok _) (yOf_ok _) ft_ok (ct36 k) mixed_ok 4) mixed_ok Go.Proofs.Try.func36 (by kernel_rfl) (by kernel_rfl) fun xs ys h => ⟨k, by rw [← h, ← run36]⟩
noncomputable def CT39 {R : Type} (k : Nat) : FuncId → Option (ConF R)
  | 36 => some (conOf (sig := [((.sl (.int .u8)), true), ((.int .i64), true)]) (res := [(.int .u64), (.int .i64)]) (F36 k))
  | _ => none
theorem ct39 {R : Type} (k : Nat) (f : FuncId) (g : ConF R) (h : CT39 k f = some g) : ConOK Go.Proofs.Try.prog f g := by
  unfold CT39 at h
  split at h
  · injection h with h; subst h; exact conOf_sound (ok36 k)
  · cases h
theorem run39 : (fun (k : Nat) (xs : HS [((.sl (.int .u8)), true)]) => arun (tsOf Go.Proofs.Try.prog) (yOf Go.Proofs.Try.prog) [((.sl (.int .u8)), true)] [(.int .u64), (.int .i64)] (acall (tsOf Go.Proofs.Try.prog) (yOf Go.Proofs.Try.prog) FT HT k (CT39 k) 4) (fun f => (CT39 (R := HL [(.int .u64), (.int .i64)]) k f).isSome) (H39) Go.Proofs.Try.f39 (bd Go.Proofs.Try.f39) k xs) = F39 := by kernel_rfl
theorem ok39 (k : Nat) : FnOK Go.Proofs.Try.prog 39 [((.sl (.int .u8)), true)] [(.int .u64), (.int .i64)] (F39 k) :=
  fnOK_of_run (tsOf_ok _) (yOf_ok _) (acall_sound (tsOf_ok _) (yOf_ok _) ft_ok (ct39 k) mixed_ok 4) mixed_ok Go.Proofs.Try.func39 (by kernel_rfl) (by kernel_rfl) fun xs ys h => ⟨k, by rw [← h, ← run39]⟩
noncomputable def CT31 {R : Type} (k : Nat) : FuncId → Option (ConF R)
  | 19 => some (conOf (sig := [((.sl (.int .u8)), true), ((.int .u64), true), ((.int .i64), true)]) (res := [.bool]) (F19 k))
  | 20 => some (conOfF (sig := [((.sl (.int .u8)), true)]) (e := (.int .u8)) (res := []) 5 (F20 k))
  | 39 => some (conOf (sig := [((.sl (.int .u8)), true)]) (res := [(.int .u64), (.int .i64)]) (F39 k))
  | _ => none
theorem ct31 {R : Type} (k : Nat) (f : FuncId) (g : ConF R) (h : CT31 k f = some g) : ConOK Go.Proofs.Try.prog f g := by
  unfold CT31 at h
  split at h
  · injection h with h; subst h; exact conOf_sound (ok19 k)
  · injection h with h; subst h; exact conOfF_sound (ok20 k)
  · injection h with h; subst h; exact conOf_sound (ok39 k)
  · cases h
theorem run31 : (fun (k : Nat) (xs : HS [((.sl (.int .u8)), false)]) => arun (tsOf Go.Proofs.Try.prog) (yOf Go.Proofs.Try.prog) [((.sl (.int .u8)), false)] [(.sl (.int .u8)), (.int .u64), (.int .i64), (.int .i64)] (acall (tsOf Go.Proofs.Try.prog) (yOf Go.Proofs.Try.prog) FT HT k (CT31 k) 4) (fun f => (CT31 (R := HL [(.sl (.int .u8)), (.int .u64), (.int .i64), (.int .i64)]) k f).isSome) (H31) Go.Proofs.Try.f31 (bd Go.Proofs.Try.f31) k xs) = F31 := by kernel_rfl
theorem ok31 (k : Nat) : FnOK Go.Proofs.Try.prog 31 [((.sl (.int .u8)), false)] [(.sl (.int .u8)), (.int .u64), (.int .i64), (.int .i64)] (F31 k) :=
  fnOK_of_run (tsOf_ok _) (yOf_ok _) (acall_sound (tsOf_ok _) (yOf_ok _) ft_ok (ct31 k) mixed_ok 4) mixed_ok Go.Proofs.Try.func31 (by kernel_rfl) (by kernel_rfl) fun xs ys h => ⟨k, by rw [← h, ← run31]⟩
theorem ok45 (k : Nat) : FnOK Go.Proofs.Try.prog 45 [((.sl (.int .u8)), true), ((.sl (.int .u8)), true)] [(.int .i64)] (F45 k) := cmp_ok
noncomputable def CT42 {R : Type} (k : Nat) : FuncId → Option (ConF R)
  | 45 => some (conOf (sig := [((.sl (.int .u8)), true), ((.sl (.int .u8)), true)]) (res := [(.int .i64)]) (F45 k))
  | _ => none
theorem ct42 {R : Type} (k : Nat) (f : FuncId) (g : ConF R) (h : CT42 k f = some g) : ConOK Go.Proofs.Try.prog f g := by
  unfold CT42 at h
  split at h
  · injection h with h; subst h; exact conOf_sound (ok45 k)
  · cases h
theorem run42 : (fun (k : Nat) (xs : HS [((.sl (.int .u8)), true), ((.sl (.int .u8)), true)]) => arun (tsOf Go.Proofs.Try.prog) (yOf Go.Proofs.Try.prog) [((.sl (.int .u8)), true), ((.sl (.int .u8)), true)] [(.int .i64)] (acall (tsOf Go.Proofs.Try.prog) (yOf Go.Proofs.Try.prog) FT HT k (CT42 k) 4) (fun f => (CT42 (R := HL [(.int .i64)]) k f).isSome) (H42) Go.Proofs.Try.f42 (bd Go.Proofs.Try.f42) k xs) = F42 := by kernel_rfl
theorem ok42 (k : Nat) : FnOK Go.Proofs.Try.prog 42 [((.sl (.int .u8)), true), ((.sl (.int .u8)), true)] [(.int .i64)] (F42 k) :=
  fnOK_of_run (tsOf_ok _) (yOf_ok _) (acall_sound (tsOf_ok _) (yOf_ok _) ft_ok (ct42 k) mixed_ok 4) mixed_ok Go.Proofs.Try.func42 (by kernel_rfl) (by kernel_rfl) fun xs ys h => ⟨k, by rw [← h, ← run42]⟩
def CT46 {R : Type} (_ : Nat) : FuncId → Option (ConF R) := fun _ => none
theorem ct46 {R : Type} (k : Nat) (f : FuncId) (g : ConF R) (h : CT46 k f = some g) : ConOK Go.Proofs.Try.prog f g := by cases h
theorem run46 : (fun (k : Nat) (xs : HS [((.int .u64), true)]) => arun (tsOf Go.Proofs.Try.prog) (yOf Go.Proofs.Try.prog) [((.int .u64), true)] [.bool] (acall (tsOf Go.Proofs.Try.prog) (yOf Go.Proofs.Try.prog) FT HT k (CT46 k) 4) (fun f => (CT46 (R := HL [.bool]) k f).isSome) (H46) Go.Proofs.Try.f46 (bd Go.Proofs.Try.f46) k xs) = F46 := by kernel_rfl
theorem ok46 (k : Nat) : FnOK Go.Proofs.Try.prog 46 [((.int .u64), true)] [.bool] (F46 k) :=
  fnOK_of_run (tsOf_ok _) (yOf_ok _) (acall_sound (tsOf_ok _) (yOf_ok _) ft_ok (ct46 k) mixed_ok 4) mixed_ok Go.Proofs.Try.func46 (by kernel_rfl) (by kernel_rfl) fun xs ys h => ⟨k, by rw [← h, ← run46]⟩
noncomputable def CT43 {R : Type} (k : Nat) : FuncId → Option (ConF R)
  | 46 => some (conOf (sig := [((.int .u64), true)]) (res := [.bool]) (F46 k))
  | _ => none
theorem ct43 {R : Type} (k : Nat) (f : FuncId) (g : ConF R) (h : CT43 k f = some g) : ConOK Go.Proofs.Try.prog f g := by
  unfold CT43 at h
  split at h
  · injection h with h; subst h; exact conOf_sound (ok46 k)
  · cases h
theorem run43 : (fun (k : Nat) (xs : HS [((.int .u64), true), ((.int .u64), true)]) => arun (tsOf Go.Proofs.Try.prog) (yOf Go.Proofs.Try.prog) [((.int .u64), true), ((.int .u64), true)] [(.int .i64)] (acall (tsOf Go.Proofs.Try.prog) (yOf Go.Proofs.Try.prog) FT HT k (CT43 k) 4) (fun f => (CT43 (R := HL [(.int .i64)]) k f).isSome) (H43) Go.Proofs.Try.f43 (bd Go.Proofs.Try.f43) k xs) = F43 := by kernel_rfl
theorem ok43 (k : Nat) : FnOK Go.Proofs.Try.prog 43 [((.int .u64), true), ((.int .u64), true)] [(.int .i64)] (F43 k) :=
  fnOK_of_run (tsOf_ok _) (yOf_ok _) (acall_sound (tsOf_ok _) (yOf_ok _) ft_ok (ct43 k) mixed_ok 4) mixed_ok Go.Proofs.Try.func43 (by kernel_rfl) (by kernel_rfl) fun xs ys h => ⟨k, by rw [← h, ← run43]⟩
def CT47 {R : Type} (_ : Nat) : FuncId → Option (ConF R) := fun _ => none
theorem ct47 {R : Type} (k : Nat) (f : FuncId) (g : ConF R) (h : CT47 k f = some g) : ConOK Go.Proofs.Try.prog f g := by cases h
theorem run47 : (fun (k : Nat) (xs : HS [((.int .i64), true)]) => arun (tsOf Go.Proofs.Try.prog) (yOf Go.Proofs.Try.prog) [((.int .i64), true)] [.bool] (acall (tsOf Go.Proofs.Try.prog) (yOf Go.Proofs.Try.prog) FT HT k (CT47 k) 4) (fun f => (CT47 (R := HL [.bool]) k f).isSome) (H47) Go.Proofs.Try.f47 (bd Go.Proofs.Try.f47) k xs) = F47 := by kernel_rfl
theorem ok47 (k : Nat) : FnOK Go.Proofs.Try.prog 47 [((.int .i64), true)] [.bool] (F47 k) :=
  fnOK_of_run (tsOf_ok _) (yOf_ok _) (acall_sound (tsOf_ok _) (yOf_ok _) ft_ok (ct47 k) mixed_ok 4) mixed_ok Go.Proofs.Try.func47 (by kernel_rfl) (by kernel_rfl) fun xs ys h => ⟨k, by rw [← h, ← run47]⟩
noncomputable def CT44 {R : Type} (k : Nat) : FuncId → Option (ConF R)
  | 47 => some (conOf (sig := [((.int .i64), true)]) (res := [.bool]) (F47 k))
  | _ => none
theorem ct44 {R : Type} (k : Nat) (f : FuncId) (g : ConF R) (h : CT44 k f = some g) : ConOK Go.Proofs.Try.prog f g := by
  unfold CT44 at h
  split at h
  · injection h with h; subst h; exact conOf_sound (ok47 k)
  · cases h
theorem run44 : (fun (k : Nat) (xs : HS [((.int .i64), true), ((.int .i64), true)]) => arun (tsOf Go.Proofs.Try.prog) (yOf Go.Proofs.Try.prog) [((.int .i64), true), ((.int .i64), true)] [(.int .i64)] (acall (tsOf Go.Proofs.Try.prog) (yOf Go.Proofs.Try.prog) FT HT k (CT44 k) 4) (fun f => (CT44 (R := HL [(.int .i64)]) k f).isSome) (H44) Go.Proofs.Try.f44 (bd Go.Proofs.Try.f44) k xs) = F44 := by kernel_rfl
theorem ok44 (k : Nat) : FnOK Go.Proofs.Try.prog 44 [((.int .i64), true), ((.int .i64), true)] [(.int .i64)] (F44 k) :=
  fnOK_of_run (tsOf_ok _) (yOf_ok _) (acall_sound (tsOf_ok _) (yOf_ok _) ft_ok (ct44 k) mixed_ok 4) mixed_ok Go.Proofs.Try.func44 (by kernel_rfl) (by kernel_rfl) fun xs ys h => ⟨k, by rw [← h, ← run44]⟩
noncomputable def CT40 {R : Type} (k : Nat) : FuncId → Option (ConF R)
  | 31 => some (conOf (sig := [((.sl (.int .u8)), false)]) (res := [(.sl (.int .u8)), (.int .u64), (.int .i64), (.int .i64)]) (F31 k))
  | 42 => some (conOf (sig := [((.sl (.int .u8)), true), ((.sl (.int .u8)), true)]) (res := [(.int .i64)]) (F42 k))
  | 43 => some (conOf (sig := [((.int .u64), true), ((.int .u64), true)]) (res := [(.int .i64)]) (F43 k))
  | 44 => some (conOf (sig := [((.int .i64), true), ((.int .i64), true)]) (res := [(.int .i64)]) (F44 k))
  | _ => none
theorem ct40 {R : Type} (k : Nat) (f : FuncId) (g : ConF R) (h : CT40 k f = some g) : ConOK Go.Proofs.Try.prog f g := by
  unfold CT40 at h
  split at h
  · injection h with h; subst h; exact conOf_sound (ok31 k)
  · injection h with h; subst h; exact conOf_sound (ok42 k)
  · injection h with h; subst h; exact conOf_sound (ok43 k)
  · injection h with h; subst h; exact conOf_sound (ok44 k)
  · cases h
theorem run40 : (fun (k : Nat) (xs : HS [((.sl (.int .u8)), false), ((.sl (.int .u8)), false)]) => arun (tsOf Go.Proofs.Try.prog) (yOf Go.Proofs.Try.prog) [((.sl (.int .u8)), false), ((.sl (.int .u8)), false)] [(.int .i64), (.int .i64)] (acall (tsOf Go.Proofs.Try.prog) (yOf Go.Proofs.Try.prog) FT HT k (CT40 k) 4) (fun f => (CT40 (R := HL [(.int .i64), (.int .i64)]) k f).isSome) (H40) Go.Proofs.Try.f40 (bd Go.Proofs.Try.f40) k xs) = F40 := by kernel_rfl
theorem ok40 (k : Nat) : FnOK Go.Proofs.Try.prog 40 [((.sl (.int .u8)), false), ((.sl (.int .u8)), false)] [(.int .i64), (.int .i64)] (F40 k) :=
  fnOK_of_run (tsOf_ok _) (yOf_ok _) (acall_sound (tsOf_ok _) (yOf_ok _) ft_ok (ct40 k) mixed_ok 4) mixed_ok Go.Proofs.Try.func40 (by kernel_rfl) (by kernel_rfl) fun xs ys h => ⟨k, by rw [← h, ← run40]⟩
noncomputable def CT32 {R : Type} (k : Nat) : FuncId → Option (ConF R)
  | 40 => some (conOf (sig := [((.sl (.int .u8)), false), ((.sl (.int .u8)), false)]) (res := [(.int .i64), (.int .i64)]) (F40 k))
  | _ => none
theorem ct32 {R : Type} (k : Nat) (f : FuncId) (g : ConF R) (h : CT32 k f = some g) : ConOK Go.Proofs.Try.prog f g := by
  unfold CT32 at h
  split at h
  · injection h with h; subst h; exact conOf_sound (ok40 k)
  · cases h
theorem run32 : (fun (k : Nat) (xs : HS [((.sl (.int .u8)), false), ((.sl (.int .u8)), false)]) => arun (tsOf Go.Proofs.Try.prog) (yOf Go.Proofs.Try.prog) [((.sl (.int .u8)), false), ((.sl (.int .u8)), false)] [.bool] (acall (tsOf Go.Proofs.Try.prog) (yOf Go.Proofs.Try.prog) FT HT k (CT32 k) 4) (fun f => (CT32 (R := HL [.bool]) k f).isSome) (H32) Go.Proofs.Try.f32 (bd Go.Proofs.Try.f32) k xs) = F32 := by kernel_rfl
theorem ok32 (k : Nat) : FnOK Go.Proofs.Try.prog 32 [((.sl (.int .u8)), false), ((.sl (.int .u8)), false)] [.bool] (F32 k) :=
  fnOK_of_run (tsOf_ok _) (yOf_ok _) (acall_sound (tsOf_ok _) (yOf_ok _) ft_ok (ct32 k) mixed_ok 4) mixed_ok Go.Proofs.Try.func32 (by kernel_rfl) (by kernel_rfl) fun xs ys h => ⟨k, by rw [← h, ← run32]⟩
noncomputable def CT22 {R : Type} (k : Nat) : FuncId → Option (ConF R)
  | 31 => some (conOf (sig := [((.sl (.int .u8)), false)]) (res := [(.sl (.int .u8)), (.int .u64), (.int .i64), (.int .i64)]) (F31 k))
  | 32 => some (conOf (sig := [((.sl (.int .u8)), false), ((.sl (.int .u8)), false)]) (res := [.bool]) (F32 k))
  | _ => none
theorem ct22 {R : Type} (k : Nat) (f : FuncId) (g : ConF R) (h : CT22 k f = some g) : ConOK Go.Proofs.Try.prog f g := by
  unfold CT22 at h
  split at h
  · injection h with h; subst h; exact conOf_sound (ok31 k)
  · injection h with h; subst h; exact conOf_sound (ok32 k)
  · cases h
theorem run22 : (fun (k : Nat) (xs : HS [((.sl (.pair (.sl (.int .u8)) (.sl (.int .u8)))), false)]) => arun (tsOf Go.Proofs.Try.prog) (yOf Go.Proofs.Try.prog) [((.sl (.pair (.sl (.int .u8)) (.sl (.int .u8)))), false)] [.bool] (acall (tsOf Go.Proofs.Try.prog) (yOf Go.Proofs.Try.prog) FT HT k (CT22 k) 4) (fun f => (CT22 (R := HL [.bool]) k f).isSome) (H22) Go.Proofs.Try.f22 (bd Go.Proofs.Try.f22) k xs) = F22 := by kernel_rfl
theorem ok22 (k : Nat) : FnOK Go.Proofs.Try.prog 22 [((.sl (.pair (.sl (.int .u8)) (.sl (.int .u8)))), false)] [.bool] (F22 k) :=
  fnOK_of_run (tsOf_ok _) (yOf_ok _) (acall_sound (tsOf_ok _) (yOf_ok _) ft_ok (ct22 k) mixed_ok 4) mixed_ok Go.Proofs.Try.func22 (by kernel_rfl) (by kernel_rfl) fun xs ys h => ⟨k, by rw [← h, ← run22]⟩
noncomputable def CT33 {R : Type} (k : Nat) : FuncId → Option (ConF R)
  | 30 => some (conOf (sig := [((.int .u64), true), ((.int .i64), true)]) (res := [(.sl (.int .u8))]) (F30 k))
  | _ => none
theorem ct33 {R : Type} (k : Nat) (f : FuncId) (g : ConF R) (h : CT33 k f = some g) : ConOK Go.Proofs.Try.prog f g := by
  unfold CT33 at h
  split at h
  · injection h with h; subst h; exact conOf_sound (ok30 k)
  · cases h
theorem run33 : (fun (k : Nat) (xs : HS [((.int .u32), true)]) => arun (tsOf Go.Proofs.Try.prog) (yOf Go.Proofs.Try.prog) [((.int .u32), true)] [(.sl (.int .u8))] (acall (tsOf Go.Proofs.Try.prog) (yOf Go.Proofs.Try.prog) FT HT k (CT33 k) 4) (fun f => (CT33 (R := HL [(.sl (.int .u8))]) k f).isSome) (H33) Go.Proofs.Try.f33 (bd Go.Proofs.Try.f33) k xs) = F33 := by kernel_rfl
theorem ok33 (k : Nat) : FnOK Go.Proofs.Try.prog 33 [((.int .u32), true)] [(.sl (.int .u8))] (F33 k) :=
  fnOK_of_run (tsOf_ok _) (yOf_ok _) (acall_sound (tsOf_ok _) (yOf_ok _) ft_ok (ct33 k) mixed_ok 4) mixed_ok Go.Proofs.Try.func33 (by kernel_rfl) (by kernel_rfl) fun xs ys h => ⟨k, by rw [← h, ← run33]⟩
def CT34 {R : Type} (_ : Nat) : FuncId → Option (ConF R) := fun _ => none
theorem ct34 {R : Type} (k : Nat) (f : FuncId) (g : ConF R) (h : CT34 k f = some g) : ConOK Go.Proofs.Try.prog f g := by cases h
theorem run34 : (fun (k : Nat) (xs : HS [((.sl (.int .u8)), true), ((.sl (.int .u8)), true)]) => arun (tsOf Go.Proofs.Try.prog) (yOf Go.Proofs.Try.prog) [((.sl (.int .u8)), true), ((.sl (.int .u8)), true)] [(.int .i64)] (acall (tsOf Go.Proofs.Try.prog) (yOf Go.Proofs.Try.prog) FT HT k (CT34 k) 4) (fun f => (CT34 (R := HL [(.int .i64)]) k f).isSome) (H34) Go.Proofs.Try.f34 (bd Go.Proofs.Try.f34) k xs) = F34 := by kernel_rfl
theorem ok34 (k : Nat) : FnOK Go.Proofs.Try.prog 34 [((.sl (.int .u8)), true), ((.sl (.int .u8)), true)] [(.int .i64)] (F34 k) :=
  fnOK_of_run (tsOf_ok _) (yOf_ok _) (acall_sound (tsOf_ok _) (yOf_ok _) ft_ok (ct34 k) mixed_ok 4) mixed_ok Go.Proofs.Try.func34 (by kernel_rfl) (by kernel_rfl) fun xs ys h => ⟨k, by rw [← h, ← run34]⟩
def CT35 {R : Type} (_ : Nat) : FuncId → Option (ConF R) := fun _ => none
theorem ct35 {R : Type} (k : Nat) (f : FuncId) (g : ConF R) (h : CT35 k f = some g) : ConOK Go.Proofs.Try.prog f g := by cases h
theorem run35 : (fun (k : Nat) (xs : HS [((.int .u64), true)]) => arun (tsOf Go.Proofs.Try.prog) (yOf Go.Proofs.Try.prog) [((.int .u64), true)] [(.sl (.int .u8))] (acall (tsOf Go.Proofs.Try.prog) (yOf Go.Proofs.Try.prog) FT HT k (CT35 k) 4) (fun f => (CT35 (R := HL [(.sl (.int .u8))]) k f).isSome) (H35) Go.Proofs.Try.f35 (bd Go.Proofs.Try.f35) k xs) = F35 := by kernel_rfl
theorem ok35 (k : Nat) : FnOK Go.Proofs.Try.prog 35 [((.int .u64), true)] [(.sl (.int .u8))] (F35 k) :=
  fnOK_of_run (tsOf_ok _) (yOf_ok _) (acall_sound (tsOf_ok _) (yOf_ok _) ft_ok (ct35 k) mixed_ok 4) mixed_ok Go.Proofs.Try.func35 (by kernel_rfl) (by kernel_rfl) fun xs ys h => ⟨k, by rw [← h, ← run35]⟩
noncomputable def CT23 {R : Type} (k : Nat) : FuncId → Option (ConF R)
  | 33 => some (conOf (sig := [((.int .u32), true)]) (res := [(.sl (.int .u8))]) (F33 k))
  | 34 => some (conOf (sig := [((.sl (.int .u8)), true), ((.sl (.int .u8)), true)]) (res := [(.int .i64)]) (F34 k))
  | 35 => some (conOf (sig := [((.int .u64), true)]) (res := [(.sl (.int .u8))]) (F35 k))
  | _ => none
theorem ct23 {R : Type} (k : Nat) (f : FuncId) (g : ConF R) (h : CT23 k f = some g) : ConOK Go.Proofs.Try.prog f g := by
  unfold CT23 at h
  split at h
  · injection h with h; subst h; exact conOf_sound (ok33 k)
  · injection h with h; subst h; exact conOf_sound (ok34 k)
  · injection h with h; subst h; exact conOf_sound (ok35 k)
  · cases h
theorem run23 : (fun (k : Nat) (xs : HS [((.sl (.pair (.sl (.int .u8)) (.sl (.int .u8)))), false), ((.int .i64), true)]) => arun (tsOf Go.Proofs.Try.prog) (yOf Go.Proofs.Try.prog) [((.sl (.pair (.sl (.int .u8)) (.sl (.int .u8)))), false), ((.int .i64), true)] [(.sl (.int .u8))] (acall (tsOf Go.Proofs.Try.prog) (yOf Go.Proofs.Try.prog) FT HT k (CT23 k) 4) (fun f => (CT23 (R := HL [(.sl (.int .u8))]) k f).isSome) (H23) Go.Proofs.Try.f23 (bd Go.Proofs.Try.f23) k xs) = F23 := by kernel_rfl
theorem ok23 (k : Nat) : FnOK Go.Proofs.Try.prog 23 [((.sl (.pair (.sl (.int .u8)) (.sl (.int .u8)))), false), ((.int .i64), true)] [(.sl (.int .u8))] (F23 k) :=
  fnOK_of_run (tsOf_ok _) (yOf_ok _) (acall_sound (tsOf_ok _) (yOf_ok _) ft_ok (ct23 k) mixed_ok 4) mixed_ok Go.Proofs.Try.func23 (by kernel_rfl) (by kernel_rfl) fun xs ys h => ⟨k, by rw [← h, ← run23]⟩
noncomputable def CT13 {R : Type} (k : Nat) : FuncId → Option (ConF R)
  | 22 => some (conOf (sig := [((.sl (.pair (.sl (.int .u8)) (.sl (.int .u8)))), false)]) (res := [.bool]) (F22 k))
  | 23 => some (conOf (sig := [((.sl (.pair (.sl (.int .u8)) (.sl (.int .u8)))), false), ((.int .i64), true)]) (res := [(.sl (.int .u8))]) (F23 k))
  | _ => none
theorem ct13 {R : Type} (k : Nat) (f : FuncId) (g : ConF R) (h : CT13 k f = some g) : ConOK Go.Proofs.Try.prog f g := by
  unfold CT13 at h
  split at h
  · injection h with h; subst h; exact conOf_sound (ok22 k)
  · injection h with h; subst h; exact conOf_sound (ok23 k)
  · cases h
theorem run13 : (fun (k : Nat) (xs : HS [((.sl (.pair (.sl (.int .u8)) (.sl (.int .u8)))), false), ((.int .i64), true)]) => arun (tsOf Go.Proofs.Try.prog) (yOf Go.Proofs.Try.prog) [((.sl (.pair (.sl (.int .u8)) (.sl (.int .u8)))), false), ((.int .i64), true)] [(.sl (.int .u8)), (.int .i64)] (acall (tsOf Go.Proofs.Try.prog) (yOf Go.Proofs.Try.prog) FT HT k (CT13 k) 4) (fun f => (CT13 (R := HL [(.sl (.int .u8)), (.int .i64)]) k f).isSome) (H13) Go.Proofs.Try.f13 (bd Go.Proofs.Try.f13) k xs) = F13 := by kernel_rfl
theorem ok13 (k : Nat) : FnOK Go.Proofs.Try.prog 13 [((.sl (.pair (.sl (.int .u8)) (.sl (.int .u8)))), false), ((.int .i64), true)] [(.sl (.int .u8)), (.int .i64)] (F13 k) :=
  fnOK_of_run (tsOf_ok _) (yOf_ok _) (acall_sound (tsOf_ok _) (yOf_ok _) ft_ok (ct13 k) mixed_ok 4) mixed_ok Go.Proofs.Try.func13 (by kernel_rfl) (by kernel_rfl) fun xs ys h => ⟨k, by rw [← h, ← run13]⟩
noncomputable def CT24 {R : Type} (k : Nat) : FuncId → Option (ConF R)
  | 36 => some (conOf (sig := [((.sl (.int .u8)), true), ((.int .i64), true)]) (res := [(.int .u64), (.int .i64)]) (F36 k))
  | _ => none
theorem ct24 {R : Type} (k : Nat) (f : FuncId) (g : ConF R) (h : CT24 k f = some g) : ConOK Go.Proofs.Try.prog f g := by
  unfold CT24 at h
  split at h
  · injection h with h; subst h; exact conOf_sound (ok36 k)
  · cases h
theorem run24 : (fun (k : Nat) (xs : HS [((.sl (.int .u8)), true)]) => arun (tsOf Go.Proofs.Try.prog) (yOf Go.Proofs.Try.prog) [((.sl (.int .u8)), true)] [(.int .u32), (.int .i64)] (acall (tsOf Go.Proofs.Try.prog) (yOf Go.Proofs.Try.prog) FT HT k (CT24 k) 4) (fun f => (CT24 (R := HL [(.int .u32), (.int .i64)]) k f).isSome) (H24) Go.Proofs.Try.f24 (bd Go.Proofs.Try.f24) k xs) = F24 := by kernel_rfl
theorem ok24 (k : Nat) : FnOK Go.Proofs.Try.prog 24 [((.sl (.int .u8)), true)] [(.int .u32), (.int .i64)] (F24 k) :=
  fnOK_of_run (tsOf_ok _) (yOf_ok _) (acall_sound (tsOf_ok _) (yOf_ok _) ft_ok (ct24 k) mixed_ok 4) mixed_ok Go.Proofs.Try.func24 (by kernel_rfl) (by kernel_rfl) fun xs ys h => ⟨k, by rw [← h, ← run24]⟩
def CT26 {R : Type} (_ : Nat) : FuncId → Option (ConF R) := fun _ => none
theorem ct26 {R : Type} (k : Nat) (f : FuncId) (g : ConF R) (h : CT26 k f = some g) : ConOK Go.Proofs.Try.prog f g := by cases h
theorem run26 : (fun (k : Nat) (xs : HS [((.sl (.int .u8)), true), ((.sl (.int .u8)), true)]) => arun (tsOf Go.Proofs.Try.prog) (yOf Go.Proofs.Try.prog) [((.sl (.int .u8)), true), ((.sl (.int .u8)), true)] [.bool] (acall (tsOf Go.Proofs.Try.prog) (yOf Go.Proofs.Try.prog) FT HT k (CT26 k) 4) (fun f => (CT26 (R := HL [.bool]) k f).isSome) (H26) Go.Proofs.Try.f26 (bd Go.Proofs.Try.f26) k xs) = F26 := by kernel_rfl
theorem ok26 (k : Nat) : FnOK Go.Proofs.Try.prog 26 [((.sl (.int .u8)), true), ((.sl (.int .u8)), true)] [.bool] (F26 k) :=
  fnOK_of_run (tsOf_ok _) (yOf_ok _) (acall_sound (tsOf_ok _) (yOf_ok _) ft_ok (ct26 k) mixed_ok 4) mixed_ok Go.Proofs.Try.func26 (by kernel_rfl) (by kernel_rfl) fun xs ys h => ⟨k, by rw [← h, ← run26]⟩
def CT41 {R : Type} (_ : Nat) : FuncId → Option (ConF R) := fun _ => none
theorem ct41 {R : Type} (k : Nat) (f : FuncId) (g : ConF R) (h : CT41 k f = some g) : ConOK Go.Proofs.Try.prog f g := by cases h
theorem run41 : (fun (k : Nat) (xs : HS [((.sl (.int .u8)), true)]) => arun (tsOf Go.Proofs.Try.prog) (yOf Go.Proofs.Try.prog) [((.sl (.int .u8)), true)] [(.int .u64), (.int .i64), (.int .i64)] (acall (tsOf Go.Proofs.Try.prog) (yOf Go.Proofs.Try.prog) FT HT k (CT41 k) 4) (fun f => (CT41 (R := HL [(.int .u64), (.int .i64), (.int .i64)]) k f).isSome) (H41) Go.Proofs.Try.f41 (bd Go.Proofs.Try.f41) k xs) = F41 := by kernel_rfl
theorem ok41 (k : Nat) : FnOK Go.Proofs.Try.prog 41 [((.sl (.int .u8)), true)] [(.int .u64), (.int .i64), (.int .i64)] (F41 k) :=
  fnOK_of_run (tsOf_ok _) (yOf_ok _) (acall_sound (tsOf_ok _) (yOf_ok _) ft_ok (ct41 k) mixed_ok 4) mixed_ok Go.Proofs.Try.func41 (by kernel_rfl) (by kernel_rfl) fun xs ys h => ⟨k, by rw [← h, ← run41]⟩
noncomputable def CT14 {R : Type} (k : Nat) : FuncId → Option (ConF R)
  | 13 => some (conOf (sig := [((.sl (.pair (.sl (.int .u8)) (.sl (.int .u8)))), false), ((.int .i64), true)]) (res := [(.sl (.int .u8)), (.int .i64)]) (F13 k))
  | 20 => some (conOfF (sig := [((.sl (.int .u8)), true)]) (e := (.int .u8)) (res := []) 5 (F20 k))
  | 24 => some (conOf (sig := [((.sl (.int .u8)), true)]) (res := [(.int .u32), (.int .i64)]) (F24 k))
  | 26 => some (conOf (sig := [((.sl (.int .u8)), true), ((.sl (.int .u8)), true)]) (res := [.bool]) (F26 k))
  | 41 => some (conOf (sig := [((.sl (.int .u8)), true)]) (res := [(.int .u64), (.int .i64), (.int .i64)]) (F41 k))
  | _ => none
theorem ct14 {R : Type} (k : Nat) (f : FuncId) (g : ConF R) (h : CT14 k f = some g) : ConOK Go.Proofs.Try.prog f g := by
  unfold CT14 at h
  split at h
  · injection h with h; subst h; exact conOf_sound (ok13 k)
  · injection h with h; subst h; exact conOfF_sound (ok20 k)
  · injection h with h; subst h; exact conOf_sound (ok24 k)
  · injection h with h; subst h; exact conOf_sound (ok26 k)
  · injection h with h; subst h; exact conOf_sound (ok41 k)
  · cases h
theorem run14 : (fun (k : Nat) (xs : HS [((.sl (.int .u8)), false)]) => arun (tsOf Go.Proofs.Try.prog) (yOf Go.Proofs.Try.prog) [((.sl (.int .u8)), false)] [(.sl (.pair (.sl (.int .u8)) (.sl (.int .u8)))), (.int .i64)] (acall (tsOf Go.Proofs.Try.prog) (yOf Go.Proofs.Try.prog) FT HT k (CT14 k) 4) (fun f => (CT14 (R := HL [(.sl (.pair (.sl (.int .u8)) (.sl (.int .u8)))), (.int .i64)]) k f).isSome) (H14) Go.Proofs.Try.f14 (bd Go.Proofs.Try.f14) k xs) = F14 := by kernel_rfl
theorem ok14 (k : Nat) : FnOK Go.Proofs.Try.prog 14 [((.sl (.int .u8)), false)] [(.sl (.pair (.sl (.int .u8)) (.sl (.int .u8)))), (.int .i64)] (F14 k) :=
  fnOK_of_run (tsOf_ok _) (yOf_ok _) (acall_sound (tsOf_ok _) (yOf_ok _) ft_ok (ct14 k) mixed_ok 4) mixed_ok Go.Proofs.Try.func14 (by kernel_rfl) (by kernel_rfl) fun xs ys h => ⟨k, by rw [← h, ← run14]⟩
noncomputable def CT5 {R : Type} (k : Nat) : FuncId → Option (ConF R)
  | 12 => some (conOf (sig := [((.sl (.int .u8)), false), ((.int .u64), true), ((.int .i64), true)]) (res := [(.sl (.int .u8)), (.int .i64)]) (F12 k))
  | 13 => some (conOf (sig := [((.sl (.pair (.sl (.int .u8)) (.sl (.int .u8)))), false), ((.int .i64), true)]) (res := [(.sl (.int .u8)), (.int .i64)]) (F13 k))
  | 14 => some (conOf (sig := [((.sl (.int .u8)), false)]) (res := [(.sl (.pair (.sl (.int .u8)) (.sl (.int .u8)))), (.int .i64)]) (F14 k))
  | _ => none
theorem ct5 {R : Type} (k : Nat) (f : FuncId) (g : ConF R) (h : CT5 k f = some g) : ConOK Go.Proofs.Try.prog f g := by
  unfold CT5 at h
  split at h
  · injection h with h; subst h; exact conOf_sound (ok12 k)
  · injection h with h; subst h; exact conOf_sound (ok13 k)
  · injection h with h; subst h; exact conOf_sound (ok14 k)
  · cases h
theorem run5 : (fun (k : Nat) (xs : HS []) => arun (tsOf Go.Proofs.Try.prog) (yOf Go.Proofs.Try.prog) [] [.bool] (acall (tsOf Go.Proofs.Try.prog) (yOf Go.Proofs.Try.prog) FT HT k (CT5 k) 4) (fun f => (CT5 (R := HL [.bool]) k f).isSome) (H5) Go.Proofs.Try.f5 (bd Go.Proofs.Try.f5) k xs) = F5 := by kernel_rfl
theorem ok5 (k : Nat) : FnOK Go.Proofs.Try.prog 5 [] [.bool] (F5 k) :=
  fnOK_of_run (tsOf_ok _) (yOf_ok _) (acall_sound (tsOf_ok _) (yOf_ok _) ft_ok (ct5 k) mixed_ok 4) mixed_ok Go.Proofs.Try.func5 (by kernel_rfl) (by kernel_rfl) fun xs ys h => ⟨k, by rw [← h, ← run5]⟩
def CT6 {R : Type} (_ : Nat) : FuncId → Option (ConF R) := fun _ => none
theorem ct6 {R : Type} (k : Nat) (f : FuncId) (g : ConF R) (h : CT6 k f = some g) : ConOK Go.Proofs.Try.prog f g := by cases h
theorem run6 : (fun (k : Nat) (xs : HS [((.sl (.sl (.int .u8))), true)]) => arun (tsOf Go.Proofs.Try.prog) (yOf Go.Proofs.Try.prog) [((.sl (.sl (.int .u8))), true)] [.bool] (acall (tsOf Go.Proofs.Try.prog) (yOf Go.Proofs.Try.prog) FT HT k (CT6 k) 4) (fun f => (CT6 (R := HL [.bool]) k f).isSome) (H6) Go.Proofs.Try.f6 (bd Go.Proofs.Try.f6) k xs) = F6 := by kernel_rfl
theorem ok6 (k : Nat) : FnOK Go.Proofs.Try.prog 6 [((.sl (.sl (.int .u8))), true)] [.bool] (F6 k) :=
  fnOK_of_run (tsOf_ok _) (yOf_ok _) (acall_sound (tsOf_ok _) (yOf_ok _) ft_ok (ct6 k) mixed_ok 4) mixed_ok Go.Proofs.Try.func6 (by kernel_rfl) (by kernel_rfl) fun xs ys h => ⟨k, by rw [← h, ← run6]⟩
def CT27 {R : Type} (_ : Nat) : FuncId → Option (ConF R) := fun _ => none
theorem ct27 {R : Type} (k : Nat) (f : FuncId) (g : ConF R) (h : CT27 k f = some g) : ConOK Go.Proofs.Try.prog f g := by cases h
theorem run27 : (fun (k : Nat) (xs : HS [((.sl (.int .u8)), true)]) => arun (tsOf Go.Proofs.Try.prog) (yOf Go.Proofs.Try.prog) [((.sl (.int .u8)), true)] [(.int .u32)] (acall (tsOf Go.Proofs.Try.prog) (yOf Go.Proofs.Try.prog) FT HT k (CT27 k) 4) (fun f => (CT27 (R := HL [(.int .u32)]) k f).isSome) (H27) Go.Proofs.Try.f27 (bd Go.Proofs.Try.f27) k xs) = F27 := by kernel_rfl
theorem ok27 (k : Nat) : FnOK Go.Proofs.Try.prog 27 [((.sl (.int .u8)), true)] [(.int .u32)] (F27 k) :=
  fnOK_of_run (tsOf_ok _) (yOf_ok _) (acall_sound (tsOf_ok _) (yOf_ok _) ft_ok (ct27 k) mixed_ok 4) mixed_ok Go.Proofs.Try.func27 (by kernel_rfl) (by kernel_rfl) fun xs ys h => ⟨k, by rw [← h, ← run27]⟩
def CT28 {R : Type} (_ : Nat) : FuncId → Option (ConF R) := fun _ => none
theorem ct28 {R : Type} (k : Nat) (f : FuncId) (g : ConF R) (h : CT28 k f = some g) : ConOK Go.Proofs.Try.prog f g := by cases h
theorem run28 : (fun (k : Nat) (xs : HS [((.int .u32), true), ((.int .i64), true)]) => arun (tsOf Go.Proofs.Try.prog) (yOf Go.Proofs.Try.prog) [((.int .u32), true), ((.int .i64), true)] [(.int .u32)] (acall (tsOf Go.Proofs.Try.prog) (yOf Go.Proofs.Try.prog) FT HT k (CT28 k) 4) (fun f => (CT28 (R := HL [(.int .u32)]) k f).isSome) (H28) Go.Proofs.Try.f28 (bd Go.Proofs.Try.f28) k xs) = F28 := by kernel_rfl
theorem ok28 (k : Nat) : FnOK Go.Proofs.Try.prog 28 [((.int .u32), true), ((.int .i64), true)] [(.int .u32)] (F28 k) :=
  fnOK_of_run (tsOf_ok _) (yOf_ok _) (acall_sound (tsOf_ok _) (yOf_ok _) ft_ok (ct28 k) mixed_ok 4) mixed_ok Go.Proofs.Try.func28 (by kernel_rfl) (by kernel_rfl) fun xs ys h => ⟨k, by rw [← h, ← run28]⟩
noncomputable def CT7 {R : Type} (k : Nat) : FuncId → Option (ConF R)
  | 27 => some (conOf (sig := [((.sl (.int .u8)), true)]) (res := [(.int .u32)]) (F27 k))
  | 28 => some (conOf (sig := [((.int .u32), true), ((.int .i64), true)]) (res := [(.int .u32)]) (F28 k))
  | _ => none
theorem ct7 {R : Type} (k : Nat) (f : FuncId) (g : ConF R) (h : CT7 k f = some g) : ConOK Go.Proofs.Try.prog f g := by
  unfold CT7 at h
  split at h
  · injection h with h; subst h; exact conOf_sound (ok27 k)
  · injection h with h; subst h; exact conOf_sound (ok28 k)
  · cases h
theorem run7 : (fun (k : Nat) (xs : HS [((.sl (.sl (.int .u8))), false), ((.int .i64), true)]) => arun (tsOf Go.Proofs.Try.prog) (yOf Go.Proofs.Try.prog) [((.sl (.sl (.int .u8))), false), ((.int .i64), true)] [(.sl (.int .u8)), (.int .i64)] (acall (tsOf Go.Proofs.Try.prog) (yOf Go.Proofs.Try.prog) FT HT k (CT7 k) 4) (fun f => (CT7 (R := HL [(.sl (.int .u8)), (.int .i64)]) k f).isSome) (H7) Go.Proofs.Try.f7 (bd Go.Proofs.Try.f7) k xs) = F7 := by kernel_rfl
theorem ok7 (k : Nat) : FnOK Go.Proofs.Try.prog 7 [((.sl (.sl (.int .u8))), false), ((.int .i64), true)] [(.sl (.int .u8)), (.int .i64)] (F7 k) :=
  fnOK_of_run (tsOf_ok _) (yOf_ok _) (acall_sound (tsOf_ok _) (yOf_ok _) ft_ok (ct7 k) mixed_ok 4) mixed_ok Go.Proofs.Try.func7 (by kernel_rfl) (by kernel_rfl) fun xs ys h => ⟨k, by rw [← h, ← run7]⟩
def CT29 {R : Type} (_ : Nat) : FuncId → Option (ConF R) := fun _ => none
theorem ct29 {R : Type} (k : Nat) (f : FuncId) (g : ConF R) (h : CT29 k f = some g) : ConOK Go.Proofs.Try.prog f g := by cases h
theorem run29 : (fun (k : Nat) (xs : HS [((.sl (.int .u8)), true)]) => arun (tsOf Go.Proofs.Try.prog) (yOf Go.Proofs.Try.prog) [((.sl (.int .u8)), true)] [(.int .u32)] (acall (tsOf Go.Proofs.Try.prog) (yOf Go.Proofs.Try.prog) FT HT k (CT29 k) 4) (fun f => (CT29 (R := HL [(.int .u32)]) k f).isSome) (H29) Go.Proofs.Try.f29 (bd Go.Proofs.Try.f29) k xs) = F29 := by kernel_rfl
theorem ok29 (k : Nat) : FnOK Go.Proofs.Try.prog 29 [((.sl (.int .u8)), true)] [(.int .u32)] (F29 k) :=
  fnOK_of_run (tsOf_ok _) (yOf_ok _) (acall_sound (tsOf_ok _) (yOf_ok _) ft_ok (ct29 k) mixed_ok 4) mixed_ok Go.Proofs.Try.func29 (by kernel_rfl) (by kernel_rfl) fun xs ys h => ⟨k, by rw [← h, ← run29]⟩
noncomputable def CT17 {R : Type} (k : Nat) : FuncId → Option (ConF R)
  | 29 => some (conOf (sig := [((.sl (.int .u8)), true)]) (res := [(.int .u32)]) (F29 k))
  | _ => none
theorem ct17 {R : Type} (k : Nat) (f : FuncId) (g : ConF R) (h : CT17 k f = some g) : ConOK Go.Proofs.Try.prog f g := by
  unfold CT17 at h
  split at h
  · injection h with h; subst h; exact conOf_sound (ok29 k)
  · cases h
theorem run17 : (fun (k : Nat) (xs : HS [((.sl (.int .u8)), false), ((.int .u64), true), ((.int .i64), true)]) => arun (tsOf Go.Proofs.Try.prog) (yOf Go.Proofs.Try.prog) [((.sl (.int .u8)), false), ((.int .u64), true), ((.int .i64), true)] [(.sl (.int .u64))] (acall (tsOf Go.Proofs.Try.prog) (yOf Go.Proofs.Try.prog) FT HT k (CT17 k) 4) (fun f => (CT17 (R := HL [(.sl (.int .u64))]) k f).isSome) (H17) Go.Proofs.Try.f17 (bd Go.Proofs.Try.f17) k xs) = F17 := by kernel_rfl
theorem ok17 (k : Nat) : FnOK Go.Proofs.Try.prog 17 [((.sl (.int .u8)), false), ((.int .u64), true), ((.int .i64), true)] [(.sl (.int .u64))] (F17 k) :=
  fnOK_of_run (tsOf_ok _) (yOf_ok _) (acall_sound (tsOf_ok _) (yOf_ok _) ft_ok (ct17 k) mixed_ok 4) mixed_ok Go.Proofs.Try.func17 (by kernel_rfl) (by kernel_rfl) fun xs ys h => ⟨k, by rw [← h, ← run17]⟩
noncomputable def CT8 {R : Type} (k : Nat) : FuncId → Option (ConF R)
  | 17 => some (conOf (sig := [((.sl (.int .u8)), false), ((.int .u64), true), ((.int .i64), true)]) (res := [(.sl (.int .u64))]) (F17 k))
  | _ => none
theorem ct8 {R : Type} (k : Nat) (f : FuncId) (g : ConF R) (h : CT8 k f = some g) : ConOK Go.Proofs.Try.prog f g := by
  unfold CT8 at h
  split at h
  · injection h with h; subst h; exact conOf_sound (ok17 k)
  · cases h
theorem run8 : (fun (k : Nat) (xs : HS [((.sl (.sl (.int .u8))), false), ((.int .i64), true)]) => arun (tsOf Go.Proofs.Try.prog) (yOf Go.Proofs.Try.prog) [((.sl (.sl (.int .u8))), false), ((.int .i64), true)] [(.sl (.int .u8)), (.int .i64)] (acall (tsOf Go.Proofs.Try.prog) (yOf Go.Proofs.Try.prog) FT HT k (CT8 k) 4) (fun f => (CT8 (R := HL [(.sl (.int .u8)), (.int .i64)]) k f).isSome) (H8) Go.Proofs.Try.f8 (bd Go.Proofs.Try.f8) k xs) = F8 := by kernel_rfl
theorem ok8 (k : Nat) : FnOK Go.Proofs.Try.prog 8 [((.sl (.sl (.int .u8))), false), ((.int .i64), true)] [(.sl (.int .u8)), (.int .i64)] (F8 k) :=
  fnOK_of_run (tsOf_ok _) (yOf_ok _) (acall_sound (tsOf_ok _) (yOf_ok _) ft_ok (ct8 k) mixed_ok 4) mixed_ok Go.Proofs.Try.func8 (by kernel_rfl) (by kernel_rfl) fun xs ys h => ⟨k, by rw [← h, ← run8]⟩
def CT9 {R : Type} (_ : Nat) : FuncId → Option (ConF R) := fun _ => none
theorem ct9 {R : Type} (k : Nat) (f : FuncId) (g : ConF R) (h : CT9 k f = some g) : ConOK Go.Proofs.Try.prog f g := by cases h
theorem run9 : (fun (k : Nat) (xs : HS [((.sl (.int .u8)), true), ((.sl (.int .u8)), true)]) => arun (tsOf Go.Proofs.Try.prog) (yOf Go.Proofs.Try.prog) [((.sl (.int .u8)), true), ((.sl (.int .u8)), true)] [.bool] (acall (tsOf Go.Proofs.Try.prog) (yOf Go.Proofs.Try.prog) FT HT k (CT9 k) 4) (fun f => (CT9 (R := HL [.bool]) k f).isSome) (H9) Go.Proofs.Try.f9 (bd Go.Proofs.Try.f9) k xs) = F9 := by kernel_rfl
theorem ok9 (k : Nat) : FnOK Go.Proofs.Try.prog 9 [((.sl (.int .u8)), true), ((.sl (.int .u8)), true)] [.bool] (F9 k) :=
  fnOK_of_run (tsOf_ok _) (yOf_ok _) (acall_sound (tsOf_ok _) (yOf_ok _) ft_ok (ct9 k) mixed_ok 4) mixed_ok Go.Proofs.Try.func9 (by kernel_rfl) (by kernel_rfl) fun xs ys h => ⟨k, by rw [← h, ← run9]⟩
noncomputable def CT10 {R : Type} (k : Nat) : FuncId → Option (ConF R)
  | 27 => some (conOf (sig := [((.sl (.int .u8)), true)]) (res := [(.int .u32)]) (F27 k))
  | 28 => some (conOf (sig := [((.int .u32), true), ((.int .i64), true)]) (res := [(.int .u32)]) (F28 k))
  | _ => none
theorem ct10 {R : Type} (k : Nat) (f : FuncId) (g : ConF R) (h : CT10 k f = some g) : ConOK Go.Proofs.Try.prog f g := by
  unfold CT10 at h
  split at h
  · injection h with h; subst h; exact conOf_sound (ok27 k)
  · injection h with h; subst h; exact conOf_sound (ok28 k)
  · cases h
theorem run10 : (fun (k : Nat) (xs : HS [((.sl (.int .u8)), true), ((.sl (.int .u8)), true)]) => arun (tsOf Go.Proofs.Try.prog) (yOf Go.Proofs.Try.prog) [((.sl (.int .u8)), true), ((.sl (.int .u8)), true)] [.bool] (acall (tsOf Go.Proofs.Try.prog) (yOf Go.Proofs.Try.prog) FT HT k (CT10 k) 4) (fun f => (CT10 (R := HL [.bool]) k f).isSome) (H10) Go.Proofs.Try.f10 (bd Go.Proofs.Try.f10) k xs) = F10 := by kernel_rfl
theorem ok10 (k : Nat) : FnOK Go.Proofs.Try.prog 10 [((.sl (.int .u8)), true), ((.sl (.int .u8)), true)] [.bool] (F10 k) :=
  fnOK_of_run (tsOf_ok _) (yOf_ok _) (acall_sound (tsOf_ok _) (yOf_ok _) ft_ok (ct10 k) mixed_ok 4) mixed_ok Go.Proofs.Try.func10 (by kernel_rfl) (by kernel_rfl) fun xs ys h => ⟨k, by rw [← h, ← run10]⟩
noncomputable def CT11 {R : Type} (k : Nat) : FuncId → Option (ConF R)
  | 17 => some (conOf (sig := [((.sl (.int .u8)), false), ((.int .u64), true), ((.int .i64), true)]) (res := [(.sl (.int .u64))]) (F17 k))
  | _ => none
theorem ct11 {R : Type} (k : Nat) (f : FuncId) (g : ConF R) (h : CT11 k f = some g) : ConOK Go.Proofs.Try.prog f g := by
  unfold CT11 at h
  split at h
  · injection h with h; subst h; exact conOf_sound (ok17 k)
  · cases h
theorem run11 : (fun (k : Nat) (xs : HS [((.sl (.int .u8)), false), ((.sl (.int .u8)), false)]) => arun (tsOf Go.Proofs.Try.prog) (yOf Go.Proofs.Try.prog) [((.sl (.int .u8)), false), ((.sl (.int .u8)), false)] [.bool] (acall (tsOf Go.Proofs.Try.prog) (yOf Go.Proofs.Try.prog) FT HT k (CT11 k) 4) (fun f => (CT11 (R := HL [.bool]) k f).isSome) (H11) Go.Proofs.Try.f11 (bd Go.Proofs.Try.f11) k xs) = F11 := by kernel_rfl
theorem ok11 (k : Nat) : FnOK Go.Proofs.Try.prog 11 [((.sl (.int .u8)), false), ((.sl (.int .u8)), false)] [.bool] (F11 k) :=
  fnOK_of_run (tsOf_ok _) (yOf_ok _) (acall_sound (tsOf_ok _) (yOf_ok _) ft_ok (ct11 k) mixed_ok 4) mixed_ok Go.Proofs.Try.func11 (by kernel_rfl) (by kernel_rfl) fun xs ys h => ⟨k, by rw [← h, ← run11]⟩
noncomputable def CT3 {R : Type} (k : Nat) : FuncId → Option (ConF R)
  | 5 => some (conOf (sig := []) (res := [.bool]) (F5 1000))
  | 6 => some (conOf (sig := [((.sl (.sl (.int .u8))), true)]) (res := [.bool]) (F6 k))
  | 7 => some (conOf (sig := [((.sl (.sl (.int .u8))), false), ((.int .i64), true)]) (res := [(.sl (.int .u8)), (.int .i64)]) (F7 k))
  | 8 => some (conOf (sig := [((.sl (.sl (.int .u8))), false), ((.int .i64), true)]) (res := [(.sl (.int .u8)), (.int .i64)]) (F8 k))
  | 9 => some (conOf (sig := [((.sl (.int .u8)), true), ((.sl (.int .u8)), true)]) (res := [.bool]) (F9 k))
  | 10 => some (conOf (sig := [((.sl (.int .u8)), true), ((.sl (.int .u8)), true)]) (res := [.bool]) (F10 k))
  | 11 => some (conOf (sig := [((.sl (.int .u8)), false), ((.sl (.int .u8)), false)]) (res := [.bool]) (F11 k))
  | _ => none
theorem ct3 {R : Type} (k : Nat) (f : FuncId) (g : ConF R) (h : CT3 k f = some g) : ConOK Go.Proofs.Try.prog f g := by
  unfold CT3 at h
  split at h
  · injection h with h; subst h; exact conOf_sound (ok5 1000)
  · injection h with h; subst h; exact conOf_sound (ok6 k)
  · injection h with h; subst h; exact conOf_sound (ok7 k)
  · injection h with h; subst h; exact conOf_sound (ok8 k)
  · injection h with h; subst h; exact conOf_sound (ok9 k)
  · injection h with h; subst h; exact conOf_sound (ok10 k)
  · injection h with h; subst h; exact conOf_sound (ok11 k)
  · cases h
theorem run3 : (fun (k : Nat) (xs : HS [((.sl (.sl (.int .u8))), false), ((.int .i64), true), ((.sl (.int .u8)), false), ((.sl (.int .u8)), false)]) => arun (tsOf Go.Proofs.Try.prog) (yOf Go.Proofs.Try.prog) [((.sl (.sl (.int .u8))), false), ((.int .i64), true), ((.sl (.int .u8)), false), ((.sl (.int .u8)), false)] [.bool] (acall (tsOf Go.Proofs.Try.prog) (yOf Go.Proofs.Try.prog) FT HT k (CT3 k) 4) (fun f => (CT3 (R := HL [.bool]) k f).isSome) (H3) Go.Proofs.Try.f3 (bd Go.Proofs.Try.f3) k xs) = F3 := by kernel_rfl
theorem ok3 (k : Nat) : FnOK Go.Proofs.Try.prog 3 [((.sl (.sl (.int .u8))), false), ((.int .i64), true), ((.sl (.int .u8)), false), ((.sl (.int .u8)), false)] [.bool] (F3 k) :=
  fnOK_of_run (tsOf_ok _) (yOf_ok _) (acall_sound (tsOf_ok _) (yOf_ok _) ft_ok (ct3 k) mixed_ok 4) mixed_ok Go.Proofs.Try.func3 (by kernel_rfl) (by kernel_rfl) fun xs ys h => ⟨k, by rw [← h, ← run3]⟩
noncomputable def CT4 {R : Type} (k : Nat) : FuncId → Option (ConF R)
  | 5 => some (conOf (sig := []) (res := [.bool]) (F5 1000))
  | 6 => some (conOf (sig := [((.sl (.sl (.int .u8))), true)]) (res := [.bool]) (F6 k))
  | 7 => some (conOf (sig := [((.sl (.sl (.int .u8))), false), ((.int .i64), true)]) (res := [(.sl (.int .u8)), (.int .i64)]) (F7 k))
  | 9 => some (conOf (sig := [((.sl (.int .u8)), true), ((.sl (.int .u8)), true)]) (res := [.bool]) (F9 k))
  | 10 => some (conOf (sig := [((.sl (.int .u8)), true), ((.sl (.int .u8)), true)]) (res := [.bool]) (F10 k))
  | _ => none
theorem ct4 {R : Type} (k : Nat) (f : FuncId) (g : ConF R) (h : CT4 k f = some g) : ConOK Go.Proofs.Try.prog f g := by
  unfold CT4 at h
  split at h
  · injection h with h; subst h; exact conOf_sound (ok5 1000)
  · injection h with h; subst h; exact conOf_sound (ok6 k)
  · injection h with h; subst h; exact conOf_sound (ok7 k)
  · injection h with h; subst h; exact conOf_sound (ok9 k)
  · injection h with h; subst h; exact conOf_sound (ok10 k)
  · cases h
theorem run4 : (fun (k : Nat) (xs : HS [((.sl (.sl (.int .u8))), false), ((.int .i64), true), ((.int .i64), true)]) => arun (tsOf Go.Proofs.Try.prog) (yOf Go.Proofs.Try.prog) [((.sl (.sl (.int .u8))), false), ((.int .i64), true), ((.int .i64), true)] [.bool] (acall (tsOf Go.Proofs.Try.prog) (yOf Go.Proofs.Try.prog) FT HT k (CT4 k) 4) (fun f => (CT4 (R := HL [.bool]) k f).isSome) (H4) Go.Proofs.Try.f4 (bd Go.Proofs.Try.f4) k xs) = F4 := by kernel_rfl
theorem ok4 (k : Nat) : FnOK Go.Proofs.Try.prog 4 [((.sl (.sl (.int .u8))), false), ((.int .i64), true), ((.int .i64), true)] [.bool] (F4 k) :=
  fnOK_of_run (tsOf_ok _) (yOf_ok _) (acall_sound (tsOf_ok _) (yOf_ok _) ft_ok (ct4 k) mixed_ok 4) mixed_ok Go.Proofs.Try.func4 (by kernel_rfl) (by kernel_rfl) fun xs ys h => ⟨k, by rw [← h, ← run4]⟩
end Go.Proofs.Ytcihahfmdencfaa.Eng
