/- The functions do what is told of them. -/
import Derived.Test.YtpgmkoaklpkecaaDoorWaf
import Derived.Test.YtpgmkoaklpkecaaDoorProg
import Derived.KernelRfl
set_option linter.unusedVariables false
set_option maxRecDepth 100000
namespace Go.Proofs.YtpgmkoaklpkecaaDoor.Eng
def noH : Hint := ⟨[], [], [], false⟩
def bd (f : Func) : Code := match f.body with
  | some c => c
  | none => .skip
def H3 : Nat → Hint
  | 1022 => ⟨[], [], [4, 6], true⟩
  | 510 => ⟨[], [], [3, 4, 6], true⟩
  | 2036 => ⟨[], [], [], true⟩
  | 508 => ⟨[], [], [0, 3, 4, 5, 6, 7], true⟩
  | 126 => ⟨[], [], [0, 3, 4, 5], true⟩
  | 62 => ⟨[], [], [0, 3], true⟩
  | 30 => ⟨[], [], [0], true⟩
  | 116 => ⟨[], [], [], true⟩
  | 28 => ⟨[], [], [0], true⟩
  | 52 => ⟨[], [], [], true⟩
  | 12 => ⟨[], [], [0], true⟩
  | 2 => ⟨[], [], [0], true⟩
  | _ => noH
def H4 : Nat → Hint
  | 4092 => ⟨[(10, none), (11, none)], [], [0, 1, 5, 6], false⟩
  | 8190 => ⟨[], [], [0, 8, 9, 10, 11], true⟩
  | 4094 => ⟨[], [], [0, 1, 5, 10, 11], true⟩
  | 65477 => ⟨[], [], [0, 1, 5, 6, 10, 11], true⟩
  | 65476 => ⟨[], [], [0, 1, 5, 6, 10], true⟩
  | 32736 => ⟨[], [], [0, 1, 5, 6, 10, 11], true⟩
  | 1022 => ⟨[], [], [0, 1, 5, 6], true⟩
  | 4084 => ⟨[], [], [], true⟩
  | 1020 => ⟨[], [], [0, 1, 5, 6], true⟩
  | 2036 => ⟨[], [], [], true⟩
  | 508 => ⟨[], [], [0, 1, 5, 6, 8, 9], true⟩
  | 126 => ⟨[], [], [0, 1, 5, 6], true⟩
  | 500 => ⟨[], [], [], true⟩
  | 124 => ⟨[], [], [0, 1, 5, 6, 7], true⟩
  | 30 => ⟨[], [], [0, 1], true⟩
  | 116 => ⟨[], [], [], true⟩
  | 28 => ⟨[], [], [0, 1], true⟩
  | 52 => ⟨[], [], [], true⟩
  | 12 => ⟨[], [], [0, 1], true⟩
  | 2 => ⟨[], [], [0, 1], true⟩
  | _ => noH
def H5 : Nat → Hint
  | 1020 => ⟨[(10, none), (11, none)], [], [0, 1, 7, 8], false⟩
  | 2046 => ⟨[], [], [0, 10, 11, 12, 13], true⟩
  | 1022 => ⟨[], [], [0, 7, 10, 11], true⟩
  | 16325 => ⟨[], [], [0, 1, 7, 8, 10, 11], true⟩
  | 16324 => ⟨[], [], [0, 1, 7, 8, 10], true⟩
  | 8160 => ⟨[], [], [0, 1, 7, 8, 10, 11], true⟩
  | 254 => ⟨[], [], [0, 1, 7, 8], true⟩
  | 126 => ⟨[], [], [0, 1, 2, 7, 8], true⟩
  | 500 => ⟨[], [], [9], true⟩
  | 124 => ⟨[], [], [0, 1, 2, 7, 8, 9], true⟩
  | 30 => ⟨[], [], [0, 1, 2], true⟩
  | 116 => ⟨[], [], [], true⟩
  | 28 => ⟨[], [], [0, 1, 2], true⟩
  | 52 => ⟨[], [], [], true⟩
  | 12 => ⟨[], [], [0, 1, 2], true⟩
  | 2 => ⟨[], [], [0, 1, 2], true⟩
  | _ => noH
def H6 : Nat → Hint
  | 2042 => ⟨[(7, none), (12, none)], [(7, 5, (.int .u8))], [2, 10], false⟩
  | 2046 => ⟨[], [], [2, 7, 10, 15, 16], true⟩
  | 1022 => ⟨[], [], [2, 7, 10], true⟩
  | 16339 => ⟨[], [], [2, 7, 10, 12], true⟩
  | 130707 => ⟨[], [], [2, 7, 10, 12, 13], true⟩
  | 1045652 => ⟨[], [], [], true⟩
  | 261412 => ⟨[], [], [2, 7, 10, 12, 13, 14], true⟩
  | 65352 => ⟨[], [], [2, 7, 10, 12], true⟩
  | 16336 => ⟨[], [], [2, 7, 10, 12], true⟩
  | 1020 => ⟨[], [], [2, 7, 10], true⟩
  | 254 => ⟨[], [], [2, 7, 10, 11], true⟩
  | 126 => ⟨[], [], [1, 2, 7], true⟩
  | 500 => ⟨[], [], [9], true⟩
  | 124 => ⟨[], [], [1, 2, 7, 9], true⟩
  | 30 => ⟨[], [], [0, 1, 2], true⟩
  | 116 => ⟨[], [], [], true⟩
  | 28 => ⟨[], [], [0, 1, 2], true⟩
  | 52 => ⟨[], [], [], true⟩
  | 12 => ⟨[], [], [0, 1, 2], true⟩
  | 2 => ⟨[], [], [0, 1, 2], true⟩
  | _ => noH
def H7 : Nat → Hint
  | 510 => ⟨[], [], [0, 1, 2, 9], true⟩
  | 2036 => ⟨[], [], [0, 1, 9], true⟩
  | 508 => ⟨[], [], [0, 1, 2, 9], true⟩
  | 1012 => ⟨[], [], [], true⟩
  | 252 => ⟨[], [], [0, 1, 2, 7, 8, 9, 10], true⟩
  | 62 => ⟨[], [], [0, 1, 2, 7, 8], true⟩
  | 30 => ⟨[], [], [0, 1, 2], true⟩
  | 116 => ⟨[], [], [], true⟩
  | 28 => ⟨[], [], [0, 1, 2], true⟩
  | 52 => ⟨[], [], [], true⟩
  | 12 => ⟨[], [], [0, 1, 2], true⟩
  | 2 => ⟨[], [], [0, 1, 2], true⟩
  | _ => noH
def H8 : Nat → Hint
  | 126 => ⟨[], [], [1, 5, 6], true⟩
  | 62 => ⟨[], [], [0, 1, 5], true⟩
  | 30 => ⟨[], [], [0, 1], true⟩
  | 116 => ⟨[], [], [], true⟩
  | 28 => ⟨[], [], [0, 1], true⟩
  | 52 => ⟨[], [], [], true⟩
  | 12 => ⟨[], [], [0, 1], true⟩
  | 2 => ⟨[], [], [0, 1], true⟩
  | _ => noH
def H9 : Nat → Hint
  | 260682 => ⟨[(10, none)], [], [0, 1, 5, 6, 7, 8, 9], false⟩
  | 1018 => ⟨[(5, none), (6, none), (7, none), (8, none)], [(5, 5, (.int .u8)), (6, 22, (.sl (.int .u8)))], [0, 1], false⟩
  | 1022 => ⟨[], [], [5, 6, 13, 14], true⟩
  | 510 => ⟨[], [], [5, 6], true⟩
  | 8147 => ⟨[], [], [0, 1, 5, 6, 7, 8], true⟩
  | 8342012 => ⟨[], [], [], true⟩
  | 2085502 => ⟨[], [], [0, 1, 5, 6, 7, 8, 12], true⟩
  | 1042750 => ⟨[], [], [0, 1, 5, 6, 7, 8, 11, 12], true⟩
  | 521374 => ⟨[], [], [0, 1, 5, 6, 7, 8, 11, 12], true⟩
  | 260686 => ⟨[], [], [0, 1, 5, 6, 7, 8, 9], true⟩
  | 130342 => ⟨[], [], [0, 1, 5, 6, 7, 8, 9], true⟩
  | 2085459 => ⟨[], [], [0, 1, 5, 6, 7, 8, 9, 10], true⟩
  | 4170916 => ⟨[], [], [0, 1, 5, 6, 7, 8, 9, 10], true⟩
  | 2085456 => ⟨[], [], [0, 1, 5, 6, 7, 8, 9, 10], true⟩
  | 130340 => ⟨[], [], [0, 1, 5, 6, 7, 8, 9], true⟩
  | 32584 => ⟨[], [], [0, 1, 5, 6, 7, 8], true⟩
  | 8144 => ⟨[], [], [0, 1, 5, 6, 7, 8], true⟩
  | 508 => ⟨[], [], [0, 1, 5, 6, 7], true⟩
  | 126 => ⟨[], [], [0, 1, 5, 6], true⟩
  | 62 => ⟨[], [], [0, 1, 5], true⟩
  | 30 => ⟨[], [], [0, 1], true⟩
  | 116 => ⟨[], [], [], true⟩
  | 28 => ⟨[], [], [0, 1], true⟩
  | 52 => ⟨[], [], [], true⟩
  | 12 => ⟨[], [], [0, 1], true⟩
  | 2 => ⟨[], [], [0, 1], true⟩
  | _ => noH
def H10 : Nat → Hint
  | 30 => ⟨[], [], [1, 2, 3, 4], true⟩
  | 14 => ⟨[], [], [1, 2], true⟩
  | 6 => ⟨[], [], [], true⟩
  | 2 => ⟨[], [], [], true⟩
  | _ => noH
def H11 : Nat → Hint
  | 30 => ⟨[(4, none), (5, none)], [(4, 22, (.sl (.int .u8)))], [0], false⟩
  | 483 => ⟨[], [], [0, 4, 6, 7], true⟩
  | 3860 => ⟨[], [], [4, 5], true⟩
  | 964 => ⟨[], [], [0, 4, 5, 6, 7, 8], true⟩
  | 240 => ⟨[], [], [0, 4, 5], true⟩
  | 14 => ⟨[], [], [0, 4], true⟩
  | 6 => ⟨[], [], [0], true⟩
  | 2 => ⟨[], [], [0], true⟩
  | _ => noH
def H12 : Nat → Hint
  | 60 => ⟨[(4, none), (5, none)], [(4, 22, (.sl (.int .u8)))], [0], false⟩
  | 62 => ⟨[], [], [4, 5], true⟩
  | 3863 => ⟨[], [], [0, 4, 7], true⟩
  | 3862 => ⟨[], [], [0, 4, 6, 7], true⟩
  | 3860 => ⟨[], [], [0, 4, 5, 6, 7, 8], true⟩
  | 964 => ⟨[], [], [0, 4, 5], true⟩
  | 480 => ⟨[], [], [0, 4, 5], true⟩
  | 14 => ⟨[], [], [0, 4], true⟩
  | 6 => ⟨[], [], [0], true⟩
  | 2 => ⟨[], [], [0], true⟩
  | _ => noH
def H13 : Nat → Hint
  | 58 => ⟨[(5, none)], [], [0, 1], false⟩
  | 30 => ⟨[], [], [], true⟩
  | 467 => ⟨[], [], [0, 1, 5], true⟩
  | 7460 => ⟨[], [], [], true⟩
  | 1864 => ⟨[], [], [0, 1, 5], true⟩
  | 464 => ⟨[], [], [0, 1, 5], true⟩
  | 28 => ⟨[], [], [0, 1], true⟩
  | 52 => ⟨[], [], [], true⟩
  | 12 => ⟨[], [], [0, 1], true⟩
  | 2 => ⟨[], [], [0, 1], true⟩
  | _ => noH
def H14 : Nat → Hint
  | 6 => ⟨[], [], [0, 1], true⟩
  | 2 => ⟨[], [], [0, 1], true⟩
  | _ => noH
def H15 : Nat → Hint
  | 6 => ⟨[(2, none)], [], [0], false⟩
  | 51 => ⟨[], [], [0, 2], true⟩
  | 100 => ⟨[], [], [0, 2], true⟩
  | 48 => ⟨[], [], [0, 2], true⟩
  | 2 => ⟨[], [], [0], true⟩
  | _ => noH
def H16 : Nat → Hint
  | 58 => ⟨[(3, none), (4, none)], [], [0], false⟩
  | 30 => ⟨[], [], [0, 3], true⟩
  | 467 => ⟨[], [], [0, 3, 4], true⟩
  | 932 => ⟨[], [], [0, 3, 4], true⟩
  | 464 => ⟨[], [], [0, 3, 4], true⟩
  | 28 => ⟨[], [], [0, 3], true⟩
  | 6 => ⟨[], [], [0], true⟩
  | 2 => ⟨[], [], [0], true⟩
  | _ => noH
def H17 : Nat → Hint
  | 122 => ⟨[(5, none), (6, none), (7, none)], [(5, 5, (.int .u8)), (6, 3, (.int .i64))], [0], false⟩
  | 62 => ⟨[], [], [5, 6], true⟩
  | 979 => ⟨[], [], [0, 5, 6, 7], true⟩
  | 15655 => ⟨[], [], [0, 5, 6, 7], true⟩
  | 15654 => ⟨[], [], [0, 5, 6, 7, 8], true⟩
  | 62612 => ⟨[], [], [], true⟩
  | 15652 => ⟨[], [], [0, 5, 6, 7, 8, 9], true⟩
  | 3912 => ⟨[], [], [0, 5, 6, 7], true⟩
  | 976 => ⟨[], [], [0, 5, 6, 7], true⟩
  | 60 => ⟨[], [], [0, 5, 6], true⟩
  | 14 => ⟨[], [], [0, 5], true⟩
  | 6 => ⟨[], [], [0], true⟩
  | 2 => ⟨[], [], [0], true⟩
  | _ => noH
def H18 : Nat → Hint
  | 58 => ⟨[(4, none)], [], [0, 3], false⟩
  | 30 => ⟨[], [], [3], true⟩
  | 7471 => ⟨[], [], [0, 3, 4], true⟩
  | 7470 => ⟨[], [], [0, 3, 4], true⟩
  | 3734 => ⟨[], [], [0, 3, 4], true⟩
  | 14932 => ⟨[], [], [0, 3, 4, 5], true⟩
  | 3732 => ⟨[], [], [0, 3, 4, 5], true⟩
  | 932 => ⟨[], [], [0, 3, 4], true⟩
  | 464 => ⟨[], [], [0, 3, 4], true⟩
  | 28 => ⟨[], [], [0, 3], true⟩
  | 6 => ⟨[], [], [0], true⟩
  | 2 => ⟨[], [], [0], true⟩
  | _ => noH
def H19 : Nat → Hint
  | 250 => ⟨[(1, some (.sl (.int .u8) none false)), (6, none), (7, none), (8, none)], [(6, 5, (.int .u8))], [0], false⟩
  | 126 => ⟨[], [], [6], true⟩
  | 64095 => ⟨[], [], [0, 1, 6, 8, 10], true⟩
  | 64094 => ⟨[], [], [0, 1, 6, 7, 8, 10], true⟩
  | 32046 => ⟨[], [], [0, 1, 6, 7, 10], true⟩
  | 16022 => ⟨[], [], [0, 1, 6, 7, 9], true⟩
  | 64084 => ⟨[], [], [0, 1, 6, 7, 8, 9], true⟩
  | 16020 => ⟨[], [], [0, 1, 6, 7, 8, 9], true⟩
  | 4004 => ⟨[], [], [0, 1, 6, 7, 8], true⟩
  | 2000 => ⟨[], [], [0, 1, 6, 7, 8], true⟩
  | 124 => ⟨[], [], [0, 1, 6], true⟩
  | 30 => ⟨[], [], [0, 1], true⟩
  | 14 => ⟨[], [], [0, 1], true⟩
  | 52 => ⟨[], [], [], true⟩
  | 12 => ⟨[], [], [0, 1], true⟩
  | 2 => ⟨[], [], [0, 1], true⟩
  | _ => noH
def H20 : Nat → Hint
  | 58 => ⟨[(3, none), (4, none)], [(3, 22, (.sl (.int .u8)))], [0], false⟩
  | 30 => ⟨[], [], [3], true⟩
  | 467 => ⟨[], [], [0, 3, 4], true⟩
  | 932 => ⟨[], [], [0, 3, 4], true⟩
  | 464 => ⟨[], [], [0, 3, 4], true⟩
  | 28 => ⟨[], [], [0, 3], true⟩
  | 6 => ⟨[], [], [0], true⟩
  | 2 => ⟨[], [], [0], true⟩
  | _ => noH
def H21 : Nat → Hint
  | 126 => ⟨[(0, none), (1, some (.sl (.int .u8) none false)), (6, none), (7, none)], [(6, 5, (.int .u8))], [], false⟩
  | 16159 => ⟨[(11, some (.int .i64))], [], [0, 1, 6, 9, 10], true⟩
  | 4136956 => ⟨[], [], [6], true⟩
  | 1034238 => ⟨[], [], [0, 1, 6, 7, 10], true⟩
  | 517118 => ⟨[], [], [0, 1, 6, 7, 9, 10], true⟩
  | 258558 => ⟨[], [], [0, 1, 6, 9, 10], true⟩
  | 129278 => ⟨[], [], [0, 1, 6, 9, 10], true⟩
  | 64638 => ⟨[], [], [0, 1, 6, 9, 10, 11], true⟩
  | 258546 => ⟨[], [], [0, 1, 6, 9, 10], true⟩
  | 1034190 => ⟨[], [], [0, 1, 6, 9, 10], true⟩
  | 4136766 => ⟨[], [], [0, 1, 6, 9, 10], true⟩
  | 2068382 => ⟨[], [], [0, 1, 6, 9, 10, 11], true⟩
  | 517094 => ⟨[], [], [0, 1, 6, 7, 9, 10, 11], true⟩
  | 129272 => ⟨[], [], [0, 1, 6, 7, 9, 10, 11], true⟩
  | 16158 => ⟨[], [], [0, 1, 6, 7, 9, 10], true⟩
  | 8078 => ⟨[], [], [0, 1, 6, 7, 9], true⟩
  | 4038 => ⟨[], [], [0, 1, 6, 7, 8], true⟩
  | 32298 => ⟨[], [], [1, 6, 7], true⟩
  | 16148 => ⟨[], [], [1, 6, 7, 8], true⟩
  | 4036 => ⟨[], [], [0, 1, 6, 7, 8], true⟩
  | 1008 => ⟨[], [], [0, 1, 6, 7], true⟩
  | 62 => ⟨[], [], [0, 1, 6], true⟩
  | 30 => ⟨[], [], [0, 1], true⟩
  | 14 => ⟨[], [], [0, 1], true⟩
  | 52 => ⟨[], [], [], true⟩
  | 12 => ⟨[], [], [0, 1], true⟩
  | 2 => ⟨[], [], [0, 1], true⟩
  | _ => noH
def H22 : Nat → Hint
  | 30 => ⟨[], [], [5], true⟩
  | 14 => ⟨[], [], [0, 1], true⟩
  | 52 => ⟨[], [], [], true⟩
  | 12 => ⟨[], [], [0, 1], true⟩
  | 2 => ⟨[], [], [0, 1], true⟩
  | _ => noH
def H23 : Nat → Hint
  | 30 => ⟨[], [], [5], true⟩
  | 14 => ⟨[], [], [0, 1], true⟩
  | 52 => ⟨[], [], [], true⟩
  | 12 => ⟨[], [], [0, 1], true⟩
  | 2 => ⟨[], [], [0, 1], true⟩
  | _ => noH
def H24 : Nat → Hint
  | 222 => ⟨[(1, none), (9, none)], [(7, 5, (.int .u8))], [0, 7, 8], false⟩
  | 1777 => ⟨[], [], [0, 7, 8, 9, 10, 11], true⟩
  | 14222 => ⟨[], [], [], true⟩
  | 227540 => ⟨[], [], [7, 9, 11], true⟩
  | 227537 => ⟨[], [], [7, 9, 11], true⟩
  | 7281162 => ⟨[], [], [0, 7, 8, 9, 11], true⟩
  | 29124644 => ⟨[], [], [], true⟩
  | 7281160 => ⟨[], [], [0, 7, 8, 9, 10, 11], true⟩
  | 29124618 => ⟨[], [], [0, 7, 8, 11], true⟩
  | 116498468 => ⟨[], [], [], true⟩
  | 29124616 => ⟨[], [], [0, 7, 8, 9, 10, 11], true⟩
  | 232996878 => ⟨[], [], [7, 9, 11, 31], true⟩
  | 232996876 => ⟨[], [], [7, 9, 11, 31], true⟩
  | 116498436 => ⟨[], [], [0, 7, 8, 9, 10, 11, 31], true⟩
  | 58249216 => ⟨[], [], [0, 7, 8, 9, 10, 11, 31], true⟩
  | 14220 => ⟨[], [], [0, 7, 8, 9, 10, 11], true⟩
  | 28436 => ⟨[], [], [], true⟩
  | 7108 => ⟨[], [], [0, 7, 8, 9, 10, 11, 12], true⟩
  | 1776 => ⟨[], [], [0, 1, 7, 8, 9], true⟩
  | 54 => ⟨[], [], [0, 1, 7, 8], true⟩
  | 26 => ⟨[], [], [0, 1, 7], true⟩
  | 12 => ⟨[], [], [0, 1], true⟩
  | 2 => ⟨[], [], [0, 1], true⟩
  | _ => noH
def H25 : Nat → Hint
  | 30890 => ⟨[(10, none)], [], [0, 1, 7, 8, 9], false⟩
  | 30 => ⟨[(1, none), (7, none), (8, none)], [(7, 5, (.int .u8))], [0], false⟩
  | 7929852 => ⟨[], [], [1, 7], true⟩
  | 1982462 => ⟨[], [], [0, 1, 7, 8, 13], true⟩
  | 991230 => ⟨[], [], [0, 1, 7, 8, 11, 13], true⟩
  | 495614 => ⟨[], [], [0, 1, 7, 11, 13], true⟩
  | 1982452 => ⟨[], [], [], true⟩
  | 495612 => ⟨[], [], [0, 1, 7, 11, 13], true⟩
  | 123902 => ⟨[], [], [0, 1, 7, 11, 13], true⟩
  | 495604 => ⟨[], [], [], true⟩
  | 123900 => ⟨[], [], [0, 1, 7, 9, 11, 13], true⟩
  | 30974 => ⟨[], [], [0, 1, 7, 9, 11, 12], true⟩
  | 123892 => ⟨[], [], [], true⟩
  | 30972 => ⟨[], [], [0, 1, 7, 8, 9, 11, 12], true⟩
  | 61940 => ⟨[], [], [], true⟩
  | 15484 => ⟨[], [], [0, 1, 7, 8, 9, 11, 12], true⟩
  | 3870 => ⟨[], [], [0, 1, 7, 8, 9, 11], true⟩
  | 1934 => ⟨[], [], [0, 1, 7, 8, 9], true⟩
  | 7732 => ⟨[], [], [], true⟩
  | 1932 => ⟨[], [], [0, 1, 7, 8, 9], true⟩
  | 15446 => ⟨[], [], [0, 1, 7, 8, 9], true⟩
  | 247123 => ⟨[], [], [0, 1, 7, 8, 9, 10], true⟩
  | 3953956 => ⟨[], [], [], true⟩
  | 988488 => ⟨[], [], [0, 1, 7, 8, 9, 10], true⟩
  | 247120 => ⟨[], [], [0, 1, 7, 8, 9, 10], true⟩
  | 15444 => ⟨[], [], [0, 1, 7, 8, 9], true⟩
  | 30884 => ⟨[], [], [], true⟩
  | 7720 => ⟨[], [], [0, 1, 7, 8, 9], true⟩
  | 964 => ⟨[], [], [0, 1, 7, 8, 9], true⟩
  | 240 => ⟨[], [], [0, 1, 7, 8], true⟩
  | 14 => ⟨[], [], [0, 1, 7], true⟩
  | 6 => ⟨[], [], [0, 1], true⟩
  | 2 => ⟨[], [], [0, 1], true⟩
  | _ => noH
def H26 : Nat → Hint
  | 6 => ⟨[], [], [0], true⟩
  | 2 => ⟨[], [], [0], true⟩
  | _ => noH
def H27 : Nat → Hint
  | 14 => ⟨[], [], [0, 1, 5], true⟩
  | 6 => ⟨[], [], [0, 1], true⟩
  | 2 => ⟨[], [], [0, 1], true⟩
  | _ => noH
def H28 : Nat → Hint
  | 14 => ⟨[], [], [], true⟩
  | 100 => ⟨[], [], [], true⟩
  | 412 => ⟨[], [], [], true⟩
  | 1660 => ⟨[], [], [], true⟩
  | 414 => ⟨[], [], [1], true⟩
  | 102 => ⟨[], [], [0, 1], true⟩
  | 24 => ⟨[], [], [0, 1], true⟩
  | 2 => ⟨[], [], [0, 1], true⟩
  | _ => noH
def H29 : Nat → Hint
  | 30 => ⟨[], [], [1, 5], true⟩
  | 14 => ⟨[], [], [0, 1, 5], true⟩
  | 6 => ⟨[], [], [0, 1], true⟩
  | 2 => ⟨[], [], [0, 1], true⟩
  | _ => noH
def H30 : Nat → Hint
  | 14 => ⟨[], [], [1], true⟩
  | 6 => ⟨[], [], [0, 1], true⟩
  | 2 => ⟨[], [], [0, 1], true⟩
  | _ => noH
def H31 : Nat → Hint
  | 3 => ⟨[(1, some (.int .i64))], [], [0, 4], true⟩
  | 1022 => ⟨[], [], [0, 1, 4, 12], true⟩
  | 4084 => ⟨[], [], [4], true⟩
  | 1020 => ⟨[], [], [0, 1, 4, 9, 12], true⟩
  | 254 => ⟨[], [], [0, 1, 4, 9, 11], true⟩
  | 1012 => ⟨[], [], [4], true⟩
  | 252 => ⟨[], [], [0, 1, 4, 9, 11], true⟩
  | 62 => ⟨[], [], [0, 1, 4, 9], true⟩
  | 30 => ⟨[], [], [0, 1, 4], true⟩
  | 116 => ⟨[], [], [4], true⟩
  | 28 => ⟨[], [], [0, 1, 4], true⟩
  | 219 => ⟨[], [], [0, 1, 4, 7], true⟩
  | 1748 => ⟨[], [], [4], true⟩
  | 436 => ⟨[], [], [0, 1, 4, 7, 8], true⟩
  | 108 => ⟨[], [], [0, 1, 4, 7], true⟩
  | 26 => ⟨[], [], [0, 1, 4, 7], true⟩
  | 12 => ⟨[], [], [0, 1, 4], true⟩
  | 2 => ⟨[], [], [0, 1], true⟩
  | _ => noH
def H32 : Nat → Hint
  | 58 => ⟨[(7, none), (8, none)], [], [0, 1], false⟩
  | 30 => ⟨[], [], [7], true⟩
  | 467 => ⟨[], [], [0, 1, 7, 8], true⟩
  | 932 => ⟨[], [], [0, 1, 7, 8], true⟩
  | 464 => ⟨[], [], [0, 1, 7, 8], true⟩
  | 28 => ⟨[], [], [0, 1, 2, 7], true⟩
  | 6 => ⟨[], [], [0, 1, 2], true⟩
  | 2 => ⟨[], [], [0, 1, 2], true⟩
  | _ => noH
def H33 : Nat → Hint
  | 7462 => ⟨[(3, none), (5, none)], [], [0, 4], false⟩
  | 58 => ⟨[(3, none), (4, none)], [], [0], false⟩
  | 30 => ⟨[], [], [3], true⟩
  | 467 => ⟨[], [], [0, 3, 4], true⟩
  | 59699 => ⟨[], [], [0, 3, 4, 5], true⟩
  | 477586 => ⟨[], [], [0, 3, 4, 5], true⟩
  | 477587 => ⟨[], [], [0, 3, 4, 5], true⟩
  | 238792 => ⟨[], [], [0, 3, 4, 5], true⟩
  | 59696 => ⟨[], [], [0, 3, 4, 5], true⟩
  | 3730 => ⟨[], [], [0, 3, 4], true⟩
  | 1864 => ⟨[], [], [0, 3, 4], true⟩
  | 464 => ⟨[], [], [0, 3, 4], true⟩
  | 28 => ⟨[], [], [0, 3], true⟩
  | 6 => ⟨[], [], [0], true⟩
  | 2 => ⟨[], [], [0], true⟩
  | _ => noH
def H34 : Nat → Hint
  | 6 => ⟨[], [], [0], true⟩
  | 2 => ⟨[], [], [0], true⟩
  | _ => noH
def H35 : Nat → Hint
  | 29902 => ⟨[(3, none), (16, none)], [], [6, 7, 8], false⟩
  | 58 => ⟨[(3, none), (8, none)], [], [6, 7], false⟩
  | 30 => ⟨[], [], [3], true⟩
  | 935 => ⟨[], [], [3, 6, 7, 8], true⟩
  | 478439 => ⟨[], [], [3, 6, 7, 8, 16], true⟩
  | 956876 => ⟨[], [], [3, 6, 7, 8, 16], true⟩
  | 119608 => ⟨[], [], [3, 6, 7, 8, 16], true⟩
  | 14950 => ⟨[], [], [3, 6, 7, 8], true⟩
  | 7474 => ⟨[], [], [3, 5, 6, 7, 8], true⟩
  | 3736 => ⟨[], [], [3, 6, 7, 8], true⟩
  | 232 => ⟨[], [], [3, 6, 7, 8], true⟩
  | 28 => ⟨[], [], [0, 3], true⟩
  | 6 => ⟨[], [], [0], true⟩
  | 2 => ⟨[], [], [0], true⟩
  | _ => noH
def H36 : Nat → Hint
  | 6 => ⟨[], [], [0], true⟩
  | 2 => ⟨[], [], [0], true⟩
  | _ => noH
def H37 : Nat → Hint
  | 126 => ⟨[], [], [0, 1], true⟩
  | 1004 => ⟨[], [], [0, 5], true⟩
  | 250 => ⟨[], [], [0, 1, 5, 6], true⟩
  | 124 => ⟨[], [], [0, 1], true⟩
  | 244 => ⟨[], [], [0, 1], true⟩
  | 60 => ⟨[], [], [0, 1], true⟩
  | 116 => ⟨[], [], [0], true⟩
  | 28 => ⟨[], [], [0, 1], true⟩
  | 52 => ⟨[], [], [], true⟩
  | 12 => ⟨[], [], [0, 1], true⟩
  | 2 => ⟨[], [], [0, 1], true⟩
  | _ => noH
def H38 : Nat → Hint
  | 14 => ⟨[], [], [4, 5], true⟩
  | 6 => ⟨[], [], [0], true⟩
  | 2 => ⟨[], [], [0], true⟩
  | _ => noH
def H39 : Nat → Hint
  | 58 => ⟨[(5, none), (8, none)], [(5, 5, (.int .u8))], [0, 7], false⟩
  | 30 => ⟨[], [], [5], true⟩
  | 935 => ⟨[], [], [0, 5, 7, 8], true⟩
  | 3737 => ⟨[], [], [0, 5, 6, 7, 8], true⟩
  | 3736 => ⟨[], [], [0, 5, 7, 8], true⟩
  | 232 => ⟨[], [], [0, 5, 7, 8], true⟩
  | 28 => ⟨[], [], [0, 1, 5], true⟩
  | 6 => ⟨[], [], [0, 1], true⟩
  | 2 => ⟨[], [], [0, 1], true⟩
  | _ => noH
def H40 : Nat → Hint
  | 58 => ⟨[(5, none), (6, none)], [(5, 5, (.int .u8))], [0, 1], false⟩
  | 30 => ⟨[], [], [5], true⟩
  | 467 => ⟨[], [], [0, 1, 5, 6], true⟩
  | 932 => ⟨[], [], [0, 1, 5, 6], true⟩
  | 464 => ⟨[], [], [0, 1, 5, 6], true⟩
  | 28 => ⟨[], [], [0, 1, 5], true⟩
  | 6 => ⟨[], [], [0, 1], true⟩
  | 2 => ⟨[], [], [0, 1], true⟩
  | _ => noH
def H41 : Nat → Hint
  | 12 => ⟨[(0, some (.sl (.int .u8) none false))], [], [1], false⟩
  | 30 => ⟨[], [], [0], true⟩
  | 116 => ⟨[], [], [], true⟩
  | 28 => ⟨[], [], [0], true⟩
  | 98 => ⟨[], [], [0, 1], true⟩
  | 96 => ⟨[], [], [0, 1], true⟩
  | 2 => ⟨[], [], [0, 1], true⟩
  | _ => noH
def H42 : Nat → Hint
  | 12 => ⟨[(0, some (.sl (.int .u8) none false))], [], [1], false⟩
  | 14 => ⟨[], [], [0], true⟩
  | 98 => ⟨[], [], [0, 1], true⟩
  | 96 => ⟨[], [], [0, 1], true⟩
  | 2 => ⟨[], [], [0, 1], true⟩
  | _ => noH
def H48 : Nat → Hint
  | 122 => ⟨[(6, none), (13, none)], [], [0, 12], false⟩
  | 62 => ⟨[], [], [6], true⟩
  | 1959 => ⟨[], [], [0, 6, 12, 13], true⟩
  | 7833 => ⟨[], [], [0, 6, 7, 12, 13], true⟩
  | 7832 => ⟨[], [], [0, 6, 12, 13], true⟩
  | 488 => ⟨[], [], [0, 6, 12, 13], true⟩
  | 60 => ⟨[], [], [0, 1, 6], true⟩
  | 14 => ⟨[], [], [0, 1], true⟩
  | 52 => ⟨[], [], [], true⟩
  | 12 => ⟨[], [], [0, 1], true⟩
  | 2 => ⟨[], [], [0, 1], true⟩
  | _ => noH
def HT : FuncId → Nat → Hint
  | 15 => H15
  | 30 => H30
  | 31 => H31
  | 37 => H37
  | 41 => H41
  | 42 => H42
  | _ => fun _ => noH
noncomputable def FT : FuncId → Option Func
  | 15 => some Go.Proofs.Tryd.f15
  | 30 => some Go.Proofs.Tryd.f30
  | 31 => some Go.Proofs.Tryd.f31
  | 37 => some Go.Proofs.Tryd.f37
  | 41 => some Go.Proofs.Tryd.f41
  | 42 => some Go.Proofs.Tryd.f42
  | _ => none
theorem ft_ok : FOK Go.Proofs.Tryd.prog FT := by
  intro f fn h
  unfold FT at h
  split at h
  · injection h with h; subst h; exact ⟨Go.Proofs.Tryd.func15, by kernel_rfl⟩
  · injection h with h; subst h; exact ⟨Go.Proofs.Tryd.func30, by kernel_rfl⟩
  · injection h with h; subst h; exact ⟨Go.Proofs.Tryd.func31, by kernel_rfl⟩
  · injection h with h; subst h; exact ⟨Go.Proofs.Tryd.func37, by kernel_rfl⟩
  · injection h with h; subst h; exact ⟨Go.Proofs.Tryd.func41, by kernel_rfl⟩
  · injection h with h; subst h; exact ⟨Go.Proofs.Tryd.func42, by kernel_rfl⟩
  · cases h
theorem mixed_ok : Go.Proofs.Tryd.prog.follows .mixedOrders = true := by kernel_rfl
def CT26 {R : Type} (_ : Nat) : FuncId → Option (ConF R) := fun _ => none
theorem ct26 {R : Type} (k : Nat) (f : FuncId) (g : ConF R) (h : CT26 k f = some g) : ConOK Go.Proofs.Tryd.prog f g := by cases h
theorem run26 : (fun (k : Nat) (xs : HS [((.int .i64), true)]) => arun (tsOf Go.Proofs.Tryd.prog) (yOf Go.Proofs.Tryd.prog) [((.int .i64), true)] [(.int .i64)] (acall (tsOf Go.Proofs.Tryd.prog) (yOf Go.Proofs.Tryd.prog) FT HT k (CT26 k) 4) (fun f => (CT26 (R := HL [(.int .i64)]) k f).isSome) (H26) Go.Proofs.Tryd.f26 (bd Go.Proofs.Tryd.f26) k xs) = F26 := by kernel_rfl
theorem ok26 (k : Nat) : FnOK Go.Proofs.Tryd.prog 26 [((.int .i64), true)] [(.int .i64)] (F26 k) :=
  fnOK_of_run (tsOf_ok _) (yOf_ok _) (acall_sound (tsOf_ok _) (yOf_ok _) ft_ok (ct26 k) mixed_ok 4) mixed_ok Go.Proofs.Tryd.func26 (by kernel_rfl) (by kernel_rfl) fun xs ys h => ⟨k, by rw [← h, ← run26]⟩
def CT35 {R : Type} (_ : Nat) : FuncId → Option (ConF R) := fun _ => none
theorem ct35 {R : Type} (k : Nat) (f : FuncId) (g : ConF R) (h : CT35 k f = some g) : ConOK Go.Proofs.Tryd.prog f g := by cases h
theorem run35 : (fun (k : Nat) (xs : HS [((.sl (.int .u8)), true)]) => arun (tsOf Go.Proofs.Tryd.prog) (yOf Go.Proofs.Tryd.prog) [((.sl (.int .u8)), true)] [(.int .u32)] (acall (tsOf Go.Proofs.Tryd.prog) (yOf Go.Proofs.Tryd.prog) FT HT k (CT35 k) 4) (fun f => (CT35 (R := HL [(.int .u32)]) k f).isSome) (H35) Go.Proofs.Tryd.f35 (bd Go.Proofs.Tryd.f35) k xs) = F35 := by kernel_rfl
theorem ok35 (k : Nat) : FnOK Go.Proofs.Tryd.prog 35 [((.sl (.int .u8)), true)] [(.int .u32)] (F35 k) :=
  fnOK_of_run (tsOf_ok _) (yOf_ok _) (acall_sound (tsOf_ok _) (yOf_ok _) ft_ok (ct35 k) mixed_ok 4) mixed_ok Go.Proofs.Tryd.func35 (by kernel_rfl) (by kernel_rfl) fun xs ys h => ⟨k, by rw [← h, ← run35]⟩
def CT48 {R : Type} (_ : Nat) : FuncId → Option (ConF R) := fun _ => none
theorem ct48 {R : Type} (k : Nat) (f : FuncId) (g : ConF R) (h : CT48 k f = some g) : ConOK Go.Proofs.Tryd.prog f g := by cases h
theorem run48 : (fun (k : Nat) (xs : HS [((.sl (.int .u8)), true), ((.int .i64), true)]) => arun (tsOf Go.Proofs.Tryd.prog) (yOf Go.Proofs.Tryd.prog) [((.sl (.int .u8)), true), ((.int .i64), true)] [(.int .u64), (.int .i64)] (acall (tsOf Go.Proofs.Tryd.prog) (yOf Go.Proofs.Tryd.prog) FT HT k (CT48 k) 4) (fun f => (CT48 (R := HL [(.int .u64), (.int .i64)]) k f).isSome) (H48) Go.Proofs.Tryd.f48 (bd Go.Proofs.Tryd.f48) k xs) = F48 := by kernel_rfl
theorem ok48 (k : Nat) : FnOK Go.Proofs.Tryd.prog 48 [((.sl (.int .u8)), true), ((.int .i64), true)] [(.int .u64), (.int .i64)] (F48 k) :=
  fnOK_of_run (tsOf_ok _) (yOf_ok _) (acall_sound (tsOf_ok _) (yOf_ok _) ft_ok (ct48 k) mixed_ok 4) mixed_ok Go.Proofs.Tryd.func48 (by kernel_rfl) (by kernel_rfl) fun xs ys h => ⟨k, by rw [← h, ← run48]⟩
noncomputable def CT38 {R : Type} (k : Nat) : FuncId → Option (ConF R)
  | 48 => some (conOf (sig := [((.sl (.int .u8)), true), ((.int .i64), true)]) (res := [(.int .u64), (.int .i64)]) (F48 k))
  | _ => none
theorem ct38 {R : Type} (k : Nat) (f : FuncId) (g : ConF R) (h : CT38 k f = some g) : ConOK Go.Proofs.Tryd.prog f g := by
  unfold CT38 at h
  split at h
  · injection h with h; subst h; exact conOf_sound (ok48 k)
  · cases h
theorem run38 : (fun (k : Nat) (xs : HS [((.sl (.int .u8)), true)]) => arun (tsOf Go.Proofs.Tryd.prog) (yOf Go.Proofs.Tryd.prog) [((.sl (.int .u8)), true)] [(.int .u32), (.int .i64)] (acall (tsOf Go.Proofs.Tryd.prog) (yOf Go.Proofs.Tryd.prog) FT HT k (CT38 k) 4) (fun f => (CT38 (R := HL [(.int .u32), (.int .i64)]) k f).isSome) (H38) Go.Proofs.Tryd.f38 (bd Go.Proofs.Tryd.f38) k xs) = F38 := by kernel_rfl
theorem ok38 (k : Nat) : FnOK Go.Proofs.Tryd.prog 38 [((.sl (.int .u8)), true)] [(.int .u32), (.int .i64)] (F38 k) :=
  fnOK_of_run (tsOf_ok _) (yOf_ok _) (acall_sound (tsOf_ok _) (yOf_ok _) ft_ok (ct38 k) mixed_ok 4) mixed_ok Go.Proofs.Tryd.func38 (by kernel_rfl) (by kernel_rfl) fun xs ys h => ⟨k, by rw [← h, ← run38]⟩
noncomputable def CT24 {R : Type} (k : Nat) : FuncId → Option (ConF R)
  | 26 => some (conOf (sig := [((.int .i64), true)]) (res := [(.int .i64)]) (F26 k))
  | 35 => some (conOf (sig := [((.sl (.int .u8)), true)]) (res := [(.int .u32)]) (F35 k))
  | 38 => some (conOf (sig := [((.sl (.int .u8)), true)]) (res := [(.int .u32), (.int .i64)]) (F38 k))
  | _ => none
theorem ct24 {R : Type} (k : Nat) (f : FuncId) (g : ConF R) (h : CT24 k f = some g) : ConOK Go.Proofs.Tryd.prog f g := by
  unfold CT24 at h
  split at h
  · injection h with h; subst h; exact conOf_sound (ok26 k)
  · injection h with h; subst h; exact conOf_sound (ok35 k)
  · injection h with h; subst h; exact conOf_sound (ok38 k)
  · cases h
theorem run24 : (fun (k : Nat) (xs : HS [((.sl (.int .u8)), true), ((.int .i64), true)]) => arun (tsOf Go.Proofs.Tryd.prog) (yOf Go.Proofs.Tryd.prog) [((.sl (.int .u8)), true), ((.int .i64), true)] [(.sl (.int .u8)), (.int .i64), .bool] (acall (tsOf Go.Proofs.Tryd.prog) (yOf Go.Proofs.Tryd.prog) FT HT k (CT24 k) 4) (fun f => (CT24 (R := HL [(.sl (.int .u8)), (.int .i64), .bool]) k f).isSome) (H24) Go.Proofs.Tryd.f24 (bd Go.Proofs.Tryd.f24) k xs) = F24 := by kernel_rfl
theorem ok24 (k : Nat) : FnOK Go.Proofs.Tryd.prog 24 [((.sl (.int .u8)), true), ((.int .i64), true)] [(.sl (.int .u8)), (.int .i64), .bool] (F24 k) :=
  fnOK_of_run (tsOf_ok _) (yOf_ok _) (acall_sound (tsOf_ok _) (yOf_ok _) ft_ok (ct24 k) mixed_ok 4) mixed_ok Go.Proofs.Tryd.func24 (by kernel_rfl) (by kernel_rfl) fun xs ys h => ⟨k, by rw [← h, ← run24]⟩
noncomputable def CT11 {R : Type} (k : Nat) : FuncId → Option (ConF R)
  | 24 => some (conOf (sig := [((.sl (.int .u8)), true), ((.int .i64), true)]) (res := [(.sl (.int .u8)), (.int .i64), .bool]) (F24 k))
  | _ => none
theorem ct11 {R : Type} (k : Nat) (f : FuncId) (g : ConF R) (h : CT11 k f = some g) : ConOK Go.Proofs.Tryd.prog f g := by
  unfold CT11 at h
  split at h
  · injection h with h; subst h; exact conOf_sound (ok24 k)
  · cases h
theorem run11 : (fun (k : Nat) (xs : HS [((.sl (.int .u8)), true)]) => arun (tsOf Go.Proofs.Tryd.prog) (yOf Go.Proofs.Tryd.prog) [((.sl (.int .u8)), true)] [(.sl (.sl (.int .u8))), (.int .i64)] (acall (tsOf Go.Proofs.Tryd.prog) (yOf Go.Proofs.Tryd.prog) FT HT k (CT11 k) 4) (fun f => (CT11 (R := HL [(.sl (.sl (.int .u8))), (.int .i64)]) k f).isSome) (H11) Go.Proofs.Tryd.f11 (bd Go.Proofs.Tryd.f11) k xs) = F11 := by kernel_rfl
theorem ok11 (k : Nat) : FnOK Go.Proofs.Tryd.prog 11 [((.sl (.int .u8)), true)] [(.sl (.sl (.int .u8))), (.int .i64)] (F11 k) :=
  fnOK_of_run (tsOf_ok _) (yOf_ok _) (acall_sound (tsOf_ok _) (yOf_ok _) ft_ok (ct11 k) mixed_ok 4) mixed_ok Go.Proofs.Tryd.func11 (by kernel_rfl) (by kernel_rfl) fun xs ys h => ⟨k, by rw [← h, ← run11]⟩
def CT39 {R : Type} (_ : Nat) : FuncId → Option (ConF R) := fun _ => none
theorem ct39 {R : Type} (k : Nat) (f : FuncId) (g : ConF R) (h : CT39 k f = some g) : ConOK Go.Proofs.Tryd.prog f g := by cases h
theorem run39 : (fun (k : Nat) (xs : HS [((.int .u64), true), ((.int .i64), true)]) => arunF (tsOf Go.Proofs.Tryd.prog) (yOf Go.Proofs.Tryd.prog) [((.int .u64), true), ((.int .i64), true)] 5 (.int .u8) [] (acall (tsOf Go.Proofs.Tryd.prog) (yOf Go.Proofs.Tryd.prog) FT HT k (CT39 k) 4) (fun f => (CT39 (R := HL [(.sl (.int .u8))]) k f).isSome) (H39) Go.Proofs.Tryd.f39 (bd Go.Proofs.Tryd.f39) k xs) = F39 := by kernel_rfl
theorem ok39 (k : Nat) : FnOKf Go.Proofs.Tryd.prog 39 [((.int .u64), true), ((.int .i64), true)] 5 (.int .u8) [] (F39 k) :=
  fnOKf_of_run (tsOf_ok _) (yOf_ok _) (acall_sound (tsOf_ok _) (yOf_ok _) ft_ok (ct39 k) mixed_ok 4) mixed_ok Go.Proofs.Tryd.func39 (by kernel_rfl) (by kernel_rfl) fun xs ys h => ⟨k, by rw [← h, ← run39]⟩
noncomputable def CT34 {R : Type} (k : Nat) : FuncId → Option (ConF R)
  | 39 => some (conOfF (sig := [((.int .u64), true), ((.int .i64), true)]) (e := (.int .u8)) (res := []) 5 (F39 k))
  | _ => none
theorem ct34 {R : Type} (k : Nat) (f : FuncId) (g : ConF R) (h : CT34 k f = some g) : ConOK Go.Proofs.Tryd.prog f g := by
  unfold CT34 at h
  split at h
  · injection h with h; subst h; exact conOfF_sound (ok39 k)
  · cases h
theorem run34 : (fun (k : Nat) (xs : HS [((.int .u32), true)]) => arunF (tsOf Go.Proofs.Tryd.prog) (yOf Go.Proofs.Tryd.prog) [((.int .u32), true)] 5 (.int .u8) [] (acall (tsOf Go.Proofs.Tryd.prog) (yOf Go.Proofs.Tryd.prog) FT HT k (CT34 k) 4) (fun f => (CT34 (R := HL [(.sl (.int .u8))]) k f).isSome) (H34) Go.Proofs.Tryd.f34 (bd Go.Proofs.Tryd.f34) k xs) = F34 := by kernel_rfl
theorem ok34 (k : Nat) : FnOKf Go.Proofs.Tryd.prog 34 [((.int .u32), true)] 5 (.int .u8) [] (F34 k) :=
  fnOKf_of_run (tsOf_ok _) (yOf_ok _) (acall_sound (tsOf_ok _) (yOf_ok _) ft_ok (ct34 k) mixed_ok 4) mixed_ok Go.Proofs.Tryd.func34 (by kernel_rfl) (by kernel_rfl) fun xs ys h => ⟨k, by rw [← h, ← run34]⟩
noncomputable def CT27 {R : Type} (k : Nat) : FuncId → Option (ConF R)
  | 34 => some (conOfF (sig := [((.int .u32), true)]) (e := (.int .u8)) (res := []) 5 (F34 k))
  | 35 => some (conOf (sig := [((.sl (.int .u8)), true)]) (res := [(.int .u32)]) (F35 k))
  | _ => none
theorem ct27 {R : Type} (k : Nat) (f : FuncId) (g : ConF R) (h : CT27 k f = some g) : ConOK Go.Proofs.Tryd.prog f g := by
  unfold CT27 at h
  split at h
  · injection h with h; subst h; exact conOfF_sound (ok34 k)
  · injection h with h; subst h; exact conOf_sound (ok35 k)
  · cases h
theorem run27 : (fun (k : Nat) (xs : HS [((.int .u8), true), ((.sl (.int .u8)), true)]) => arun (tsOf Go.Proofs.Tryd.prog) (yOf Go.Proofs.Tryd.prog) [((.int .u8), true), ((.sl (.int .u8)), true)] [(.sl (.int .u8))] (acall (tsOf Go.Proofs.Tryd.prog) (yOf Go.Proofs.Tryd.prog) FT HT k (CT27 k) 4) (fun f => (CT27 (R := HL [(.sl (.int .u8))]) k f).isSome) (H27) Go.Proofs.Tryd.f27 (bd Go.Proofs.Tryd.f27) k xs) = F27 := by kernel_rfl
theorem ok27 (k : Nat) : FnOK Go.Proofs.Tryd.prog 27 [((.int .u8), true), ((.sl (.int .u8)), true)] [(.sl (.int .u8))] (F27 k) :=
  fnOK_of_run (tsOf_ok _) (yOf_ok _) (acall_sound (tsOf_ok _) (yOf_ok _) ft_ok (ct27 k) mixed_ok 4) mixed_ok Go.Proofs.Tryd.func27 (by kernel_rfl) (by kernel_rfl) fun xs ys h => ⟨k, by rw [← h, ← run27]⟩
def CT28 {R : Type} (_ : Nat) : FuncId → Option (ConF R) := fun _ => none
theorem ct28 {R : Type} (k : Nat) (f : FuncId) (g : ConF R) (h : CT28 k f = some g) : ConOK Go.Proofs.Tryd.prog f g := by cases h
theorem run28 : (fun (k : Nat) (xs : HS [(.bool, true), (.bool, true)]) => arun (tsOf Go.Proofs.Tryd.prog) (yOf Go.Proofs.Tryd.prog) [(.bool, true), (.bool, true)] [(.int .u8)] (acall (tsOf Go.Proofs.Tryd.prog) (yOf Go.Proofs.Tryd.prog) FT HT k (CT28 k) 4) (fun f => (CT28 (R := HL [(.int .u8)]) k f).isSome) (H28) Go.Proofs.Tryd.f28 (bd Go.Proofs.Tryd.f28) k xs) = F28 := by kernel_rfl
theorem ok28 (k : Nat) : FnOK Go.Proofs.Tryd.prog 28 [(.bool, true), (.bool, true)] [(.int .u8)] (F28 k) :=
  fnOK_of_run (tsOf_ok _) (yOf_ok _) (acall_sound (tsOf_ok _) (yOf_ok _) ft_ok (ct28 k) mixed_ok 4) mixed_ok Go.Proofs.Tryd.func28 (by kernel_rfl) (by kernel_rfl) fun xs ys h => ⟨k, by rw [← h, ← run28]⟩
noncomputable def CT19 {R : Type} (k : Nat) : FuncId → Option (ConF R)
  | 26 => some (conOf (sig := [((.int .i64), true)]) (res := [(.int .i64)]) (F26 k))
  | 27 => some (conOf (sig := [((.int .u8), true), ((.sl (.int .u8)), true)]) (res := [(.sl (.int .u8))]) (F27 k))
  | 28 => some (conOf (sig := [(.bool, true), (.bool, true)]) (res := [(.int .u8)]) (F28 k))
  | _ => none
theorem ct19 {R : Type} (k : Nat) (f : FuncId) (g : ConF R) (h : CT19 k f = some g) : ConOK Go.Proofs.Tryd.prog f g := by
  unfold CT19 at h
  split at h
  · injection h with h; subst h; exact conOf_sound (ok26 k)
  · injection h with h; subst h; exact conOf_sound (ok27 k)
  · injection h with h; subst h; exact conOf_sound (ok28 k)
  · cases h
theorem run19 : (fun (k : Nat) (xs : HS [((.int .i64), true), ((.sl (.int .u8)), true)]) => arun (tsOf Go.Proofs.Tryd.prog) (yOf Go.Proofs.Tryd.prog) [((.int .i64), true), ((.sl (.int .u8)), true)] [(.sl (.int .u8)), (.int .i64)] (acall (tsOf Go.Proofs.Tryd.prog) (yOf Go.Proofs.Tryd.prog) FT HT k (CT19 k) 4) (fun f => (CT19 (R := HL [(.sl (.int .u8)), (.int .i64)]) k f).isSome) (H19) Go.Proofs.Tryd.f19 (bd Go.Proofs.Tryd.f19) k xs) = F19 := by kernel_rfl
theorem ok19 (k : Nat) : FnOK Go.Proofs.Tryd.prog 19 [((.int .i64), true), ((.sl (.int .u8)), true)] [(.sl (.int .u8)), (.int .i64)] (F19 k) :=
  fnOK_of_run (tsOf_ok _) (yOf_ok _) (acall_sound (tsOf_ok _) (yOf_ok _) ft_ok (ct19 k) mixed_ok 4) mixed_ok Go.Proofs.Tryd.func19 (by kernel_rfl) (by kernel_rfl) fun xs ys h => ⟨k, by rw [← h, ← run19]⟩
noncomputable def CT10 {R : Type} (k : Nat) : FuncId → Option (ConF R)
  | 11 => some (conOf (sig := [((.sl (.int .u8)), true)]) (res := [(.sl (.sl (.int .u8))), (.int .i64)]) (F11 k))
  | 19 => some (conOf (sig := [((.int .i64), true), ((.sl (.int .u8)), true)]) (res := [(.sl (.int .u8)), (.int .i64)]) (F19 k))
  | _ => none
theorem ct10 {R : Type} (k : Nat) (f : FuncId) (g : ConF R) (h : CT10 k f = some g) : ConOK Go.Proofs.Tryd.prog f g := by
  unfold CT10 at h
  split at h
  · injection h with h; subst h; exact conOf_sound (ok11 k)
  · injection h with h; subst h; exact conOf_sound (ok19 k)
  · cases h
theorem run10 : (fun (k : Nat) (xs : HS []) => arun (tsOf Go.Proofs.Tryd.prog) (yOf Go.Proofs.Tryd.prog) [] [.bool] (acall (tsOf Go.Proofs.Tryd.prog) (yOf Go.Proofs.Tryd.prog) FT HT k (CT10 k) 4) (fun f => (CT10 (R := HL [.bool]) k f).isSome) (H10) Go.Proofs.Tryd.f10 (bd Go.Proofs.Tryd.f10) k xs) = F10 := by kernel_rfl
theorem ok10 (k : Nat) : FnOK Go.Proofs.Tryd.prog 10 [] [.bool] (F10 k) :=
  fnOK_of_run (tsOf_ok _) (yOf_ok _) (acall_sound (tsOf_ok _) (yOf_ok _) ft_ok (ct10 k) mixed_ok 4) mixed_ok Go.Proofs.Tryd.func10 (by kernel_rfl) (by kernel_rfl) fun xs ys h => ⟨k, by rw [← h, ← run10]⟩
def CT32 {R : Type} (_ : Nat) : FuncId → Option (ConF R) := fun _ => none
theorem ct32 {R : Type} (k : Nat) (f : FuncId) (g : ConF R) (h : CT32 k f = some g) : ConOK Go.Proofs.Tryd.prog f g := by cases h
theorem run32 : (fun (k : Nat) (xs : HS [((.sl (.int .u8)), true), ((.int .i64), true), ((.int .i64), true)]) => arun (tsOf Go.Proofs.Tryd.prog) (yOf Go.Proofs.Tryd.prog) [((.sl (.int .u8)), true), ((.int .i64), true), ((.int .i64), true)] [(.int .u64)] (acall (tsOf Go.Proofs.Tryd.prog) (yOf Go.Proofs.Tryd.prog) FT HT k (CT32 k) 4) (fun f => (CT32 (R := HL [(.int .u64)]) k f).isSome) (H32) Go.Proofs.Tryd.f32 (bd Go.Proofs.Tryd.f32) k xs) = F32 := by kernel_rfl
theorem ok32 (k : Nat) : FnOK Go.Proofs.Tryd.prog 32 [((.sl (.int .u8)), true), ((.int .i64), true), ((.int .i64), true)] [(.int .u64)] (F32 k) :=
  fnOK_of_run (tsOf_ok _) (yOf_ok _) (acall_sound (tsOf_ok _) (yOf_ok _) ft_ok (ct32 k) mixed_ok 4) mixed_ok Go.Proofs.Tryd.func32 (by kernel_rfl) (by kernel_rfl) fun xs ys h => ⟨k, by rw [← h, ← run32]⟩
def CT33 {R : Type} (_ : Nat) : FuncId → Option (ConF R) := fun _ => none
theorem ct33 {R : Type} (k : Nat) (f : FuncId) (g : ConF R) (h : CT33 k f = some g) : ConOK Go.Proofs.Tryd.prog f g := by cases h
theorem run33 : (fun (k : Nat) (xs : HS [((.sl (.int .u8)), true)]) => arun (tsOf Go.Proofs.Tryd.prog) (yOf Go.Proofs.Tryd.prog) [((.sl (.int .u8)), true)] [(.int .u32)] (acall (tsOf Go.Proofs.Tryd.prog) (yOf Go.Proofs.Tryd.prog) FT HT k (CT33 k) 4) (fun f => (CT33 (R := HL [(.int .u32)]) k f).isSome) (H33) Go.Proofs.Tryd.f33 (bd Go.Proofs.Tryd.f33) k xs) = F33 := by kernel_rfl
theorem ok33 (k : Nat) : FnOK Go.Proofs.Tryd.prog 33 [((.sl (.int .u8)), true)] [(.int .u32)] (F33 k) :=
  fnOK_of_run (tsOf_ok _) (yOf_ok _) (acall_sound (tsOf_ok _) (yOf_ok _) ft_ok (ct33 k) mixed_ok 4) mixed_ok Go.Proofs.Tryd.func33 (by kernel_rfl) (by kernel_rfl) fun xs ys h => ⟨k, by rw [← h, ← run33]⟩
noncomputable def CT25 {R : Type} (k : Nat) : FuncId → Option (ConF R)
  | 32 => some (conOf (sig := [((.sl (.int .u8)), true), ((.int .i64), true), ((.int .i64), true)]) (res := [(.int .u64)]) (F32 k))
  | 33 => some (conOf (sig := [((.sl (.int .u8)), true)]) (res := [(.int .u32)]) (F33 k))
  | _ => none
theorem ct25 {R : Type} (k : Nat) (f : FuncId) (g : ConF R) (h : CT25 k f = some g) : ConOK Go.Proofs.Tryd.prog f g := by
  unfold CT25 at h
  split at h
  · injection h with h; subst h; exact conOf_sound (ok32 k)
  · injection h with h; subst h; exact conOf_sound (ok33 k)
  · cases h
theorem run25 : (fun (k : Nat) (xs : HS [((.sl (.int .u8)), true), ((.int .i64), true)]) => arun (tsOf Go.Proofs.Tryd.prog) (yOf Go.Proofs.Tryd.prog) [((.sl (.int .u8)), true), ((.int .i64), true)] [(.sl (.int .u8)), (.int .i64), .bool] (acall (tsOf Go.Proofs.Tryd.prog) (yOf Go.Proofs.Tryd.prog) FT HT k (CT25 k) 4) (fun f => (CT25 (R := HL [(.sl (.int .u8)), (.int .i64), .bool]) k f).isSome) (H25) Go.Proofs.Tryd.f25 (bd Go.Proofs.Tryd.f25) k xs) = F25 := by kernel_rfl
theorem ok25 (k : Nat) : FnOK Go.Proofs.Tryd.prog 25 [((.sl (.int .u8)), true), ((.int .i64), true)] [(.sl (.int .u8)), (.int .i64), .bool] (F25 k) :=
  fnOK_of_run (tsOf_ok _) (yOf_ok _) (acall_sound (tsOf_ok _) (yOf_ok _) ft_ok (ct25 k) mixed_ok 4) mixed_ok Go.Proofs.Tryd.func25 (by kernel_rfl) (by kernel_rfl) fun xs ys h => ⟨k, by rw [← h, ← run25]⟩
noncomputable def CT12 {R : Type} (k : Nat) : FuncId → Option (ConF R)
  | 25 => some (conOf (sig := [((.sl (.int .u8)), true), ((.int .i64), true)]) (res := [(.sl (.int .u8)), (.int .i64), .bool]) (F25 k))
  | _ => none
theorem ct12 {R : Type} (k : Nat) (f : FuncId) (g : ConF R) (h : CT12 k f = some g) : ConOK Go.Proofs.Tryd.prog f g := by
  unfold CT12 at h
  split at h
  · injection h with h; subst h; exact conOf_sound (ok25 k)
  · cases h
theorem run12 : (fun (k : Nat) (xs : HS [((.sl (.int .u8)), true)]) => arun (tsOf Go.Proofs.Tryd.prog) (yOf Go.Proofs.Tryd.prog) [((.sl (.int .u8)), true)] [(.sl (.sl (.int .u8))), (.int .i64)] (acall (tsOf Go.Proofs.Tryd.prog) (yOf Go.Proofs.Tryd.prog) FT HT k (CT12 k) 4) (fun f => (CT12 (R := HL [(.sl (.sl (.int .u8))), (.int .i64)]) k f).isSome) (H12) Go.Proofs.Tryd.f12 (bd Go.Proofs.Tryd.f12) k xs) = F12 := by kernel_rfl
theorem ok12 (k : Nat) : FnOK Go.Proofs.Tryd.prog 12 [((.sl (.int .u8)), true)] [(.sl (.sl (.int .u8))), (.int .i64)] (F12 k) :=
  fnOK_of_run (tsOf_ok _) (yOf_ok _) (acall_sound (tsOf_ok _) (yOf_ok _) ft_ok (ct12 k) mixed_ok 4) mixed_ok Go.Proofs.Tryd.func12 (by kernel_rfl) (by kernel_rfl) fun xs ys h => ⟨k, by rw [← h, ← run12]⟩
def CT13 {R : Type} (_ : Nat) : FuncId → Option (ConF R) := fun _ => none
theorem ct13 {R : Type} (k : Nat) (f : FuncId) (g : ConF R) (h : CT13 k f = some g) : ConOK Go.Proofs.Tryd.prog f g := by cases h
theorem run13 : (fun (k : Nat) (xs : HS [((.sl (.sl (.int .u8))), true), ((.sl (.sl (.int .u8))), true)]) => arun (tsOf Go.Proofs.Tryd.prog) (yOf Go.Proofs.Tryd.prog) [((.sl (.sl (.int .u8))), true), ((.sl (.sl (.int .u8))), true)] [.bool] (acall (tsOf Go.Proofs.Tryd.prog) (yOf Go.Proofs.Tryd.prog) FT HT k (CT13 k) 4) (fun f => (CT13 (R := HL [.bool]) k f).isSome) (H13) Go.Proofs.Tryd.f13 (bd Go.Proofs.Tryd.f13) k xs) = F13 := by kernel_rfl
theorem ok13 (k : Nat) : FnOK Go.Proofs.Tryd.prog 13 [((.sl (.sl (.int .u8))), true), ((.sl (.sl (.int .u8))), true)] [.bool] (F13 k) :=
  fnOK_of_run (tsOf_ok _) (yOf_ok _) (acall_sound (tsOf_ok _) (yOf_ok _) ft_ok (ct13 k) mixed_ok 4) mixed_ok Go.Proofs.Tryd.func13 (by kernel_rfl) (by kernel_rfl) fun xs ys h => ⟨k, by rw [← h, ← run13]⟩
def CT14 {R : Type} (_ : Nat) : FuncId → Option (ConF R) := fun _ => none
theorem ct14 {R : Type} (k : Nat) (f : FuncId) (g : ConF R) (h : CT14 k f = some g) : ConOK Go.Proofs.Tryd.prog f g := by cases h
theorem run14 : (fun (k : Nat) (xs : HS [((.sl (.int .u8)), true), ((.sl (.int .u8)), true)]) => arun (tsOf Go.Proofs.Tryd.prog) (yOf Go.Proofs.Tryd.prog) [((.sl (.int .u8)), true), ((.sl (.int .u8)), true)] [.bool] (acall (tsOf Go.Proofs.Tryd.prog) (yOf Go.Proofs.Tryd.prog) FT HT k (CT14 k) 4) (fun f => (CT14 (R := HL [.bool]) k f).isSome) (H14) Go.Proofs.Tryd.f14 (bd Go.Proofs.Tryd.f14) k xs) = F14 := by kernel_rfl
theorem ok14 (k : Nat) : FnOK Go.Proofs.Tryd.prog 14 [((.sl (.int .u8)), true), ((.sl (.int .u8)), true)] [.bool] (F14 k) :=
  fnOK_of_run (tsOf_ok _) (yOf_ok _) (acall_sound (tsOf_ok _) (yOf_ok _) ft_ok (ct14 k) mixed_ok 4) mixed_ok Go.Proofs.Tryd.func14 (by kernel_rfl) (by kernel_rfl) fun xs ys h => ⟨k, by rw [← h, ← run14]⟩
noncomputable def CT3 {R : Type} (k : Nat) : FuncId → Option (ConF R)
  | 10 => some (conOf (sig := []) (res := [.bool]) (F10 1000))
  | 11 => some (conOf (sig := [((.sl (.int .u8)), true)]) (res := [(.sl (.sl (.int .u8))), (.int .i64)]) (F11 k))
  | 12 => some (conOf (sig := [((.sl (.int .u8)), true)]) (res := [(.sl (.sl (.int .u8))), (.int .i64)]) (F12 k))
  | 13 => some (conOf (sig := [((.sl (.sl (.int .u8))), true), ((.sl (.sl (.int .u8))), true)]) (res := [.bool]) (F13 k))
  | 14 => some (conOf (sig := [((.sl (.int .u8)), true), ((.sl (.int .u8)), true)]) (res := [.bool]) (F14 k))
  | _ => none
theorem ct3 {R : Type} (k : Nat) (f : FuncId) (g : ConF R) (h : CT3 k f = some g) : ConOK Go.Proofs.Tryd.prog f g := by
  unfold CT3 at h
  split at h
  · injection h with h; subst h; exact conOf_sound (ok10 1000)
  · injection h with h; subst h; exact conOf_sound (ok11 k)
  · injection h with h; subst h; exact conOf_sound (ok12 k)
  · injection h with h; subst h; exact conOf_sound (ok13 k)
  · injection h with h; subst h; exact conOf_sound (ok14 k)
  · cases h
theorem run3 : (fun (k : Nat) (xs : HS [((.sl (.int .u8)), false)]) => arun (tsOf Go.Proofs.Tryd.prog) (yOf Go.Proofs.Tryd.prog) [((.sl (.int .u8)), false)] [.bool] (acall (tsOf Go.Proofs.Tryd.prog) (yOf Go.Proofs.Tryd.prog) FT HT k (CT3 k) 4) (fun f => (CT3 (R := HL [.bool]) k f).isSome) (H3) Go.Proofs.Tryd.f3 (bd Go.Proofs.Tryd.f3) k xs) = F3 := by kernel_rfl
theorem ok3 (k : Nat) : FnOK Go.Proofs.Tryd.prog 3 [((.sl (.int .u8)), false)] [.bool] (F3 k) :=
  fnOK_of_run (tsOf_ok _) (yOf_ok _) (acall_sound (tsOf_ok _) (yOf_ok _) ft_ok (ct3 k) mixed_ok 4) mixed_ok Go.Proofs.Tryd.func3 (by kernel_rfl) (by kernel_rfl) fun xs ys h => ⟨k, by rw [← h, ← run3]⟩
def CT16 {R : Type} (_ : Nat) : FuncId → Option (ConF R) := fun _ => none
theorem ct16 {R : Type} (k : Nat) (f : FuncId) (g : ConF R) (h : CT16 k f = some g) : ConOK Go.Proofs.Tryd.prog f g := by cases h
theorem run16 : (fun (k : Nat) (xs : HS [((.sl (.sl (.int .u8))), true)]) => arun (tsOf Go.Proofs.Tryd.prog) (yOf Go.Proofs.Tryd.prog) [((.sl (.sl (.int .u8))), true)] [.bool] (acall (tsOf Go.Proofs.Tryd.prog) (yOf Go.Proofs.Tryd.prog) FT HT k (CT16 k) 4) (fun f => (CT16 (R := HL [.bool]) k f).isSome) (H16) Go.Proofs.Tryd.f16 (bd Go.Proofs.Tryd.f16) k xs) = F16 := by kernel_rfl
theorem ok16 (k : Nat) : FnOK Go.Proofs.Tryd.prog 16 [((.sl (.sl (.int .u8))), true)] [.bool] (F16 k) :=
  fnOK_of_run (tsOf_ok _) (yOf_ok _) (acall_sound (tsOf_ok _) (yOf_ok _) ft_ok (ct16 k) mixed_ok 4) mixed_ok Go.Proofs.Tryd.func16 (by kernel_rfl) (by kernel_rfl) fun xs ys h => ⟨k, by rw [← h, ← run16]⟩
noncomputable def CT17 {R : Type} (k : Nat) : FuncId → Option (ConF R)
  | 19 => some (conOf (sig := [((.int .i64), true), ((.sl (.int .u8)), true)]) (res := [(.sl (.int .u8)), (.int .i64)]) (F19 k))
  | _ => none
theorem ct17 {R : Type} (k : Nat) (f : FuncId) (g : ConF R) (h : CT17 k f = some g) : ConOK Go.Proofs.Tryd.prog f g := by
  unfold CT17 at h
  split at h
  · injection h with h; subst h; exact conOf_sound (ok19 k)
  · cases h
theorem run17 : (fun (k : Nat) (xs : HS [((.sl (.sl (.int .u8))), true)]) => arunF (tsOf Go.Proofs.Tryd.prog) (yOf Go.Proofs.Tryd.prog) [((.sl (.sl (.int .u8))), true)] 5 (.int .u8) [(.sl (.int .i64)), .bool] (acall (tsOf Go.Proofs.Tryd.prog) (yOf Go.Proofs.Tryd.prog) FT HT k (CT17 k) 4) (fun f => (CT17 (R := HL [(.sl (.int .u8)), (.sl (.int .i64)), .bool]) k f).isSome) (H17) Go.Proofs.Tryd.f17 (bd Go.Proofs.Tryd.f17) k xs) = F17 := by kernel_rfl
theorem ok17 (k : Nat) : FnOKf Go.Proofs.Tryd.prog 17 [((.sl (.sl (.int .u8))), true)] 5 (.int .u8) [(.sl (.int .i64)), .bool] (F17 k) :=
  fnOKf_of_run (tsOf_ok _) (yOf_ok _) (acall_sound (tsOf_ok _) (yOf_ok _) ft_ok (ct17 k) mixed_ok 4) mixed_ok Go.Proofs.Tryd.func17 (by kernel_rfl) (by kernel_rfl) fun xs ys h => ⟨k, by rw [← h, ← run17]⟩
noncomputable def CT4 {R : Type} (k : Nat) : FuncId → Option (ConF R)
  | 10 => some (conOf (sig := []) (res := [.bool]) (F10 1000))
  | 11 => some (conOf (sig := [((.sl (.int .u8)), true)]) (res := [(.sl (.sl (.int .u8))), (.int .i64)]) (F11 k))
  | 13 => some (conOf (sig := [((.sl (.sl (.int .u8))), true), ((.sl (.sl (.int .u8))), true)]) (res := [.bool]) (F13 k))
  | 16 => some (conOf (sig := [((.sl (.sl (.int .u8))), true)]) (res := [.bool]) (F16 k))
  | 17 => some (conOfF (sig := [((.sl (.sl (.int .u8))), true)]) (e := (.int .u8)) (res := [(.sl (.int .i64)), .bool]) 5 (F17 k))
  | _ => none
theorem ct4 {R : Type} (k : Nat) (f : FuncId) (g : ConF R) (h : CT4 k f = some g) : ConOK Go.Proofs.Tryd.prog f g := by
  unfold CT4 at h
  split at h
  · injection h with h; subst h; exact conOf_sound (ok10 1000)
  · injection h with h; subst h; exact conOf_sound (ok11 k)
  · injection h with h; subst h; exact conOf_sound (ok13 k)
  · injection h with h; subst h; exact conOf_sound (ok16 k)
  · injection h with h; subst h; exact conOfF_sound (ok17 k)
  · cases h
theorem run4 : (fun (k : Nat) (xs : HS [((.sl (.sl (.int .u8))), false), ((.int .i64), true)]) => arun (tsOf Go.Proofs.Tryd.prog) (yOf Go.Proofs.Tryd.prog) [((.sl (.sl (.int .u8))), false), ((.int .i64), true)] [.bool] (acall (tsOf Go.Proofs.Tryd.prog) (yOf Go.Proofs.Tryd.prog) FT HT k (CT4 k) 4) (fun f => (CT4 (R := HL [.bool]) k f).isSome) (H4) Go.Proofs.Tryd.f4 (bd Go.Proofs.Tryd.f4) k xs) = F4 := by kernel_rfl
theorem ok4 (k : Nat) : FnOK Go.Proofs.Tryd.prog 4 [((.sl (.sl (.int .u8))), false), ((.int .i64), true)] [.bool] (F4 k) :=
  fnOK_of_run (tsOf_ok _) (yOf_ok _) (acall_sound (tsOf_ok _) (yOf_ok _) ft_ok (ct4 k) mixed_ok 4) mixed_ok Go.Proofs.Tryd.func4 (by kernel_rfl) (by kernel_rfl) fun xs ys h => ⟨k, by rw [← h, ← run4]⟩
def CT18 {R : Type} (_ : Nat) : FuncId → Option (ConF R) := fun _ => none
theorem ct18 {R : Type} (k : Nat) (f : FuncId) (g : ConF R) (h : CT18 k f = some g) : ConOK Go.Proofs.Tryd.prog f g := by cases h
theorem run18 : (fun (k : Nat) (xs : HS [((.sl (.int .u8)), true)]) => arun (tsOf Go.Proofs.Tryd.prog) (yOf Go.Proofs.Tryd.prog) [((.sl (.int .u8)), true)] [(.sl .bool)] (acall (tsOf Go.Proofs.Tryd.prog) (yOf Go.Proofs.Tryd.prog) FT HT k (CT18 k) 4) (fun f => (CT18 (R := HL [(.sl .bool)]) k f).isSome) (H18) Go.Proofs.Tryd.f18 (bd Go.Proofs.Tryd.f18) k xs) = F18 := by kernel_rfl
theorem ok18 (k : Nat) : FnOK Go.Proofs.Tryd.prog 18 [((.sl (.int .u8)), true)] [(.sl .bool)] (F18 k) :=
  fnOK_of_run (tsOf_ok _) (yOf_ok _) (acall_sound (tsOf_ok _) (yOf_ok _) ft_ok (ct18 k) mixed_ok 4) mixed_ok Go.Proofs.Tryd.func18 (by kernel_rfl) (by kernel_rfl) fun xs ys h => ⟨k, by rw [← h, ← run18]⟩
noncomputable def CT5 {R : Type} (k : Nat) : FuncId → Option (ConF R)
  | 10 => some (conOf (sig := []) (res := [.bool]) (F10 1000))
  | 11 => some (conOf (sig := [((.sl (.int .u8)), true)]) (res := [(.sl (.sl (.int .u8))), (.int .i64)]) (F11 k))
  | 13 => some (conOf (sig := [((.sl (.sl (.int .u8))), true), ((.sl (.sl (.int .u8))), true)]) (res := [.bool]) (F13 k))
  | 16 => some (conOf (sig := [((.sl (.sl (.int .u8))), true)]) (res := [.bool]) (F16 k))
  | 17 => some (conOfF (sig := [((.sl (.sl (.int .u8))), true)]) (e := (.int .u8)) (res := [(.sl (.int .i64)), .bool]) 5 (F17 k))
  | 18 => some (conOf (sig := [((.sl (.int .u8)), true)]) (res := [(.sl .bool)]) (F18 k))
  | _ => none
theorem ct5 {R : Type} (k : Nat) (f : FuncId) (g : ConF R) (h : CT5 k f = some g) : ConOK Go.Proofs.Tryd.prog f g := by
  unfold CT5 at h
  split at h
  · injection h with h; subst h; exact conOf_sound (ok10 1000)
  · injection h with h; subst h; exact conOf_sound (ok11 k)
  · injection h with h; subst h; exact conOf_sound (ok13 k)
  · injection h with h; subst h; exact conOf_sound (ok16 k)
  · injection h with h; subst h; exact conOfF_sound (ok17 k)
  · injection h with h; subst h; exact conOf_sound (ok18 k)
  · cases h
theorem run5 : (fun (k : Nat) (xs : HS [((.sl (.sl (.int .u8))), false), ((.int .i64), true), ((.int .u8), true)]) => arun (tsOf Go.Proofs.Tryd.prog) (yOf Go.Proofs.Tryd.prog) [((.sl (.sl (.int .u8))), false), ((.int .i64), true), ((.int .u8), true)] [.bool] (acall (tsOf Go.Proofs.Tryd.prog) (yOf Go.Proofs.Tryd.prog) FT HT k (CT5 k) 4) (fun f => (CT5 (R := HL [.bool]) k f).isSome) (H5) Go.Proofs.Tryd.f5 (bd Go.Proofs.Tryd.f5) k xs) = F5 := by kernel_rfl
theorem ok5 (k : Nat) : FnOK Go.Proofs.Tryd.prog 5 [((.sl (.sl (.int .u8))), false), ((.int .i64), true), ((.int .u8), true)] [.bool] (F5 k) :=
  fnOK_of_run (tsOf_ok _) (yOf_ok _) (acall_sound (tsOf_ok _) (yOf_ok _) ft_ok (ct5 k) mixed_ok 4) mixed_ok Go.Proofs.Tryd.func5 (by kernel_rfl) (by kernel_rfl) fun xs ys h => ⟨k, by rw [← h, ← run5]⟩
def CT20 {R : Type} (_ : Nat) : FuncId → Option (ConF R) := fun _ => none
theorem ct20 {R : Type} (k : Nat) (f : FuncId) (g : ConF R) (h : CT20 k f = some g) : ConOK Go.Proofs.Tryd.prog f g := by cases h
theorem run20 : (fun (k : Nat) (xs : HS [((.sl (.sl (.int .u8))), true)]) => arunF (tsOf Go.Proofs.Tryd.prog) (yOf Go.Proofs.Tryd.prog) [((.sl (.sl (.int .u8))), true)] 22 (.sl (.int .u8)) [] (acall (tsOf Go.Proofs.Tryd.prog) (yOf Go.Proofs.Tryd.prog) FT HT k (CT20 k) 4) (fun f => (CT20 (R := HL [(.sl (.sl (.int .u8)))]) k f).isSome) (H20) Go.Proofs.Tryd.f20 (bd Go.Proofs.Tryd.f20) k xs) = F20 := by kernel_rfl
theorem ok20 (k : Nat) : FnOKf Go.Proofs.Tryd.prog 20 [((.sl (.sl (.int .u8))), true)] 22 (.sl (.int .u8)) [] (F20 k) :=
  fnOKf_of_run (tsOf_ok _) (yOf_ok _) (acall_sound (tsOf_ok _) (yOf_ok _) ft_ok (ct20 k) mixed_ok 4) mixed_ok Go.Proofs.Tryd.func20 (by kernel_rfl) (by kernel_rfl) fun xs ys h => ⟨k, by rw [← h, ← run20]⟩
noncomputable def CT6 {R : Type} (k : Nat) : FuncId → Option (ConF R)
  | 10 => some (conOf (sig := []) (res := [.bool]) (F10 1000))
  | 11 => some (conOf (sig := [((.sl (.int .u8)), true)]) (res := [(.sl (.sl (.int .u8))), (.int .i64)]) (F11 k))
  | 13 => some (conOf (sig := [((.sl (.sl (.int .u8))), true), ((.sl (.sl (.int .u8))), true)]) (res := [.bool]) (F13 k))
  | 16 => some (conOf (sig := [((.sl (.sl (.int .u8))), true)]) (res := [.bool]) (F16 k))
  | 17 => some (conOfF (sig := [((.sl (.sl (.int .u8))), true)]) (e := (.int .u8)) (res := [(.sl (.int .i64)), .bool]) 5 (F17 k))
  | 19 => some (conOf (sig := [((.int .i64), true), ((.sl (.int .u8)), true)]) (res := [(.sl (.int .u8)), (.int .i64)]) (F19 k))
  | 20 => some (conOfF (sig := [((.sl (.sl (.int .u8))), true)]) (e := (.sl (.int .u8))) (res := []) 22 (F20 k))
  | _ => none
theorem ct6 {R : Type} (k : Nat) (f : FuncId) (g : ConF R) (h : CT6 k f = some g) : ConOK Go.Proofs.Tryd.prog f g := by
  unfold CT6 at h
  split at h
  · injection h with h; subst h; exact conOf_sound (ok10 1000)
  · injection h with h; subst h; exact conOf_sound (ok11 k)
  · injection h with h; subst h; exact conOf_sound (ok13 k)
  · injection h with h; subst h; exact conOf_sound (ok16 k)
  · injection h with h; subst h; exact conOfF_sound (ok17 k)
  · injection h with h; subst h; exact conOf_sound (ok19 k)
  · injection h with h; subst h; exact conOfF_sound (ok20 k)
  · cases h
theorem run6 : (fun (k : Nat) (xs : HS [((.sl (.sl (.int .u8))), false), ((.int .i64), true), ((.sl (.sl (.int .u8))), false)]) => arun (tsOf Go.Proofs.Tryd.prog) (yOf Go.Proofs.Tryd.prog) [((.sl (.sl (.int .u8))), false), ((.int .i64), true), ((.sl (.sl (.int .u8))), false)] [.bool] (acall (tsOf Go.Proofs.Tryd.prog) (yOf Go.Proofs.Tryd.prog) FT HT k (CT6 k) 4) (fun f => (CT6 (R := HL [.bool]) k f).isSome) (H6) Go.Proofs.Tryd.f6 (bd Go.Proofs.Tryd.f6) k xs) = F6 := by kernel_rfl
theorem ok6 (k : Nat) : FnOK Go.Proofs.Tryd.prog 6 [((.sl (.sl (.int .u8))), false), ((.int .i64), true), ((.sl (.sl (.int .u8))), false)] [.bool] (F6 k) :=
  fnOK_of_run (tsOf_ok _) (yOf_ok _) (acall_sound (tsOf_ok _) (yOf_ok _) ft_ok (ct6 k) mixed_ok 4) mixed_ok Go.Proofs.Tryd.func6 (by kernel_rfl) (by kernel_rfl) fun xs ys h => ⟨k, by rw [← h, ← run6]⟩
def CT40 {R : Type} (_ : Nat) : FuncId → Option (ConF R) := fun _ => none
theorem ct40 {R : Type} (k : Nat) (f : FuncId) (g : ConF R) (h : CT40 k f = some g) : ConOK Go.Proofs.Tryd.prog f g := by cases h
theorem run40 : (fun (k : Nat) (xs : HS [((.int .u64), true), ((.int .i64), true)]) => arunF (tsOf Go.Proofs.Tryd.prog) (yOf Go.Proofs.Tryd.prog) [((.int .u64), true), ((.int .i64), true)] 5 (.int .u8) [] (acall (tsOf Go.Proofs.Tryd.prog) (yOf Go.Proofs.Tryd.prog) FT HT k (CT40 k) 4) (fun f => (CT40 (R := HL [(.sl (.int .u8))]) k f).isSome) (H40) Go.Proofs.Tryd.f40 (bd Go.Proofs.Tryd.f40) k xs) = F40 := by kernel_rfl
theorem ok40 (k : Nat) : FnOKf Go.Proofs.Tryd.prog 40 [((.int .u64), true), ((.int .i64), true)] 5 (.int .u8) [] (F40 k) :=
  fnOKf_of_run (tsOf_ok _) (yOf_ok _) (acall_sound (tsOf_ok _) (yOf_ok _) ft_ok (ct40 k) mixed_ok 4) mixed_ok Go.Proofs.Tryd.func40 (by kernel_rfl) (by kernel_rfl) fun xs ys h => ⟨k, by rw [← h, ← run40]⟩
noncomputable def CT36 {R : Type} (k : Nat) : FuncId → Option (ConF R)
  | 33 => some (conOf (sig := [((.sl (.int .u8)), true)]) (res := [(.int .u32)]) (F33 k))
  | 40 => some (conOfF (sig := [((.int .u64), true), ((.int .i64), true)]) (e := (.int .u8)) (res := []) 5 (F40 k))
  | _ => none
theorem ct36 {R : Type} (k : Nat) (f : FuncId) (g : ConF R) (h : CT36 k f = some g) : ConOK Go.Proofs.Tryd.prog f g := by
  unfold CT36 at h
  split at h
  · injection h with h; subst h; exact conOf_sound (ok33 k)
  · injection h with h; subst h; exact conOfF_sound (ok40 k)
  · cases h
theorem run36 : (fun (k : Nat) (xs : HS [((.sl (.int .u8)), true)]) => arunF (tsOf Go.Proofs.Tryd.prog) (yOf Go.Proofs.Tryd.prog) [((.sl (.int .u8)), true)] 5 (.int .u8) [] (acall (tsOf Go.Proofs.Tryd.prog) (yOf Go.Proofs.Tryd.prog) FT HT k (CT36 k) 4) (fun f => (CT36 (R := HL [(.sl (.int .u8))]) k f).isSome) (H36) Go.Proofs.Tryd.f36 (bd Go.Proofs.Tryd.f36) k xs) = F36 := by kernel_rfl
theorem ok36 (k : Nat) : FnOKf Go.Proofs.Tryd.prog 36 [((.sl (.int .u8)), true)] 5 (.int .u8) [] (F36 k) :=
  fnOKf_of_run (tsOf_ok _) (yOf_ok _) (acall_sound (tsOf_ok _) (yOf_ok _) ft_ok (ct36 k) mixed_ok 4) mixed_ok Go.Proofs.Tryd.func36 (by kernel_rfl) (by kernel_rfl) fun xs ys h => ⟨k, by rw [← h, ← run36]⟩
noncomputable def CT29 {R : Type} (k : Nat) : FuncId → Option (ConF R)
  | 36 => some (conOfF (sig := [((.sl (.int .u8)), true)]) (e := (.int .u8)) (res := []) 5 (F36 k))
  | _ => none
theorem ct29 {R : Type} (k : Nat) (f : FuncId) (g : ConF R) (h : CT29 k f = some g) : ConOK Go.Proofs.Tryd.prog f g := by
  unfold CT29 at h
  split at h
  · injection h with h; subst h; exact conOfF_sound (ok36 k)
  · cases h
theorem run29 : (fun (k : Nat) (xs : HS [((.int .i64), true), ((.sl (.int .u8)), true)]) => arun (tsOf Go.Proofs.Tryd.prog) (yOf Go.Proofs.Tryd.prog) [((.int .i64), true), ((.sl (.int .u8)), true)] [(.sl (.int .u8))] (acall (tsOf Go.Proofs.Tryd.prog) (yOf Go.Proofs.Tryd.prog) FT HT k (CT29 k) 4) (fun f => (CT29 (R := HL [(.sl (.int .u8))]) k f).isSome) (H29) Go.Proofs.Tryd.f29 (bd Go.Proofs.Tryd.f29) k xs) = F29 := by kernel_rfl
theorem ok29 (k : Nat) : FnOK Go.Proofs.Tryd.prog 29 [((.int .i64), true), ((.sl (.int .u8)), true)] [(.sl (.int .u8))] (F29 k) :=
  fnOK_of_run (tsOf_ok _) (yOf_ok _) (acall_sound (tsOf_ok _) (yOf_ok _) ft_ok (ct29 k) mixed_ok 4) mixed_ok Go.Proofs.Tryd.func29 (by kernel_rfl) (by kernel_rfl) fun xs ys h => ⟨k, by rw [← h, ← run29]⟩
noncomputable def CT21 {R : Type} (k : Nat) : FuncId → Option (ConF R)
  | 29 => some (conOf (sig := [((.int .i64), true), ((.sl (.int .u8)), true)]) (res := [(.sl (.int .u8))]) (F29 k))
  | _ => none
theorem ct21 {R : Type} (k : Nat) (f : FuncId) (g : ConF R) (h : CT21 k f = some g) : ConOK Go.Proofs.Tryd.prog f g := by
  unfold CT21 at h
  split at h
  · injection h with h; subst h; exact conOf_sound (ok29 k)
  · cases h
theorem run21 : (fun (k : Nat) (xs : HS [((.int .i64), true), ((.sl (.int .u8)), true)]) => arun (tsOf Go.Proofs.Tryd.prog) (yOf Go.Proofs.Tryd.prog) [((.int .i64), true), ((.sl (.int .u8)), true)] [(.sl (.int .u8)), (.int .i64)] (acall (tsOf Go.Proofs.Tryd.prog) (yOf Go.Proofs.Tryd.prog) FT HT k (CT21 k) 4) (fun f => (CT21 (R := HL [(.sl (.int .u8)), (.int .i64)]) k f).isSome) (H21) Go.Proofs.Tryd.f21 (bd Go.Proofs.Tryd.f21) k xs) = F21 := by kernel_rfl
theorem ok21 (k : Nat) : FnOK Go.Proofs.Tryd.prog 21 [((.int .i64), true), ((.sl (.int .u8)), true)] [(.sl (.int .u8)), (.int .i64)] (F21 k) :=
  fnOK_of_run (tsOf_ok _) (yOf_ok _) (acall_sound (tsOf_ok _) (yOf_ok _) ft_ok (ct21 k) mixed_ok 4) mixed_ok Go.Proofs.Tryd.func21 (by kernel_rfl) (by kernel_rfl) fun xs ys h => ⟨k, by rw [← h, ← run21]⟩
noncomputable def CT22 {R : Type} (k : Nat) : FuncId → Option (ConF R)
  | 19 => some (conOf (sig := [((.int .i64), true), ((.sl (.int .u8)), true)]) (res := [(.sl (.int .u8)), (.int .i64)]) (F19 k))
  | _ => none
theorem ct22 {R : Type} (k : Nat) (f : FuncId) (g : ConF R) (h : CT22 k f = some g) : ConOK Go.Proofs.Tryd.prog f g := by
  unfold CT22 at h
  split at h
  · injection h with h; subst h; exact conOf_sound (ok19 k)
  · cases h
theorem run22 : (fun (k : Nat) (xs : HS [((.int .i64), true), ((.int .i64), true)]) => arun (tsOf Go.Proofs.Tryd.prog) (yOf Go.Proofs.Tryd.prog) [((.int .i64), true), ((.int .i64), true)] [(.int .i64)] (acall (tsOf Go.Proofs.Tryd.prog) (yOf Go.Proofs.Tryd.prog) FT HT k (CT22 k) 4) (fun f => (CT22 (R := HL [(.int .i64)]) k f).isSome) (H22) Go.Proofs.Tryd.f22 (bd Go.Proofs.Tryd.f22) k xs) = F22 := by kernel_rfl
theorem ok22 (k : Nat) : FnOK Go.Proofs.Tryd.prog 22 [((.int .i64), true), ((.int .i64), true)] [(.int .i64)] (F22 k) :=
  fnOK_of_run (tsOf_ok _) (yOf_ok _) (acall_sound (tsOf_ok _) (yOf_ok _) ft_ok (ct22 k) mixed_ok 4) mixed_ok Go.Proofs.Tryd.func22 (by kernel_rfl) (by kernel_rfl) fun xs ys h => ⟨k, by rw [← h, ← run22]⟩
noncomputable def CT23 {R : Type} (k : Nat) : FuncId → Option (ConF R)
  | 21 => some (conOf (sig := [((.int .i64), true), ((.sl (.int .u8)), true)]) (res := [(.sl (.int .u8)), (.int .i64)]) (F21 k))
  | _ => none
theorem ct23 {R : Type} (k : Nat) (f : FuncId) (g : ConF R) (h : CT23 k f = some g) : ConOK Go.Proofs.Tryd.prog f g := by
  unfold CT23 at h
  split at h
  · injection h with h; subst h; exact conOf_sound (ok21 k)
  · cases h
theorem run23 : (fun (k : Nat) (xs : HS [((.int .i64), true), ((.int .i64), true)]) => arun (tsOf Go.Proofs.Tryd.prog) (yOf Go.Proofs.Tryd.prog) [((.int .i64), true), ((.int .i64), true)] [(.int .i64)] (acall (tsOf Go.Proofs.Tryd.prog) (yOf Go.Proofs.Tryd.prog) FT HT k (CT23 k) 4) (fun f => (CT23 (R := HL [(.int .i64)]) k f).isSome) (H23) Go.Proofs.Tryd.f23 (bd Go.Proofs.Tryd.f23) k xs) = F23 := by kernel_rfl
theorem ok23 (k : Nat) : FnOK Go.Proofs.Tryd.prog 23 [((.int .i64), true), ((.int .i64), true)] [(.int .i64)] (F23 k) :=
  fnOK_of_run (tsOf_ok _) (yOf_ok _) (acall_sound (tsOf_ok _) (yOf_ok _) ft_ok (ct23 k) mixed_ok 4) mixed_ok Go.Proofs.Tryd.func23 (by kernel_rfl) (by kernel_rfl) fun xs ys h => ⟨k, by rw [← h, ← run23]⟩
noncomputable def CT7 {R : Type} (k : Nat) : FuncId → Option (ConF R)
  | 10 => some (conOf (sig := []) (res := [.bool]) (F10 1000))
  | 14 => some (conOf (sig := [((.sl (.int .u8)), true), ((.sl (.int .u8)), true)]) (res := [.bool]) (F14 k))
  | 19 => some (conOf (sig := [((.int .i64), true), ((.sl (.int .u8)), true)]) (res := [(.sl (.int .u8)), (.int .i64)]) (F19 k))
  | 21 => some (conOf (sig := [((.int .i64), true), ((.sl (.int .u8)), true)]) (res := [(.sl (.int .u8)), (.int .i64)]) (F21 k))
  | 22 => some (conOf (sig := [((.int .i64), true), ((.int .i64), true)]) (res := [(.int .i64)]) (F22 k))
  | 23 => some (conOf (sig := [((.int .i64), true), ((.int .i64), true)]) (res := [(.int .i64)]) (F23 k))
  | _ => none
theorem ct7 {R : Type} (k : Nat) (f : FuncId) (g : ConF R) (h : CT7 k f = some g) : ConOK Go.Proofs.Tryd.prog f g := by
  unfold CT7 at h
  split at h
  · injection h with h; subst h; exact conOf_sound (ok10 1000)
  · injection h with h; subst h; exact conOf_sound (ok14 k)
  · injection h with h; subst h; exact conOf_sound (ok19 k)
  · injection h with h; subst h; exact conOf_sound (ok21 k)
  · injection h with h; subst h; exact conOf_sound (ok22 k)
  · injection h with h; subst h; exact conOf_sound (ok23 k)
  · cases h
theorem run7 : (fun (k : Nat) (xs : HS [((.int .i64), true), ((.sl (.int .u8)), false), ((.int .i64), true)]) => arun (tsOf Go.Proofs.Tryd.prog) (yOf Go.Proofs.Tryd.prog) [((.int .i64), true), ((.sl (.int .u8)), false), ((.int .i64), true)] [.bool] (acall (tsOf Go.Proofs.Tryd.prog) (yOf Go.Proofs.Tryd.prog) FT HT k (CT7 k) 4) (fun f => (CT7 (R := HL [.bool]) k f).isSome) (H7) Go.Proofs.Tryd.f7 (bd Go.Proofs.Tryd.f7) k xs) = F7 := by kernel_rfl
theorem ok7 (k : Nat) : FnOK Go.Proofs.Tryd.prog 7 [((.int .i64), true), ((.sl (.int .u8)), false), ((.int .i64), true)] [.bool] (F7 k) :=
  fnOK_of_run (tsOf_ok _) (yOf_ok _) (acall_sound (tsOf_ok _) (yOf_ok _) ft_ok (ct7 k) mixed_ok 4) mixed_ok Go.Proofs.Tryd.func7 (by kernel_rfl) (by kernel_rfl) fun xs ys h => ⟨k, by rw [← h, ← run7]⟩
noncomputable def CT8 {R : Type} (k : Nat) : FuncId → Option (ConF R)
  | 10 => some (conOf (sig := []) (res := [.bool]) (F10 1000))
  | 22 => some (conOf (sig := [((.int .i64), true), ((.int .i64), true)]) (res := [(.int .i64)]) (F22 k))
  | _ => none
theorem ct8 {R : Type} (k : Nat) (f : FuncId) (g : ConF R) (h : CT8 k f = some g) : ConOK Go.Proofs.Tryd.prog f g := by
  unfold CT8 at h
  split at h
  · injection h with h; subst h; exact conOf_sound (ok10 1000)
  · injection h with h; subst h; exact conOf_sound (ok22 k)
  · cases h
theorem run8 : (fun (k : Nat) (xs : HS [((.int .i64), true), ((.int .i64), true)]) => arun (tsOf Go.Proofs.Tryd.prog) (yOf Go.Proofs.Tryd.prog) [((.int .i64), true), ((.int .i64), true)] [.bool] (acall (tsOf Go.Proofs.Tryd.prog) (yOf Go.Proofs.Tryd.prog) FT HT k (CT8 k) 4) (fun f => (CT8 (R := HL [.bool]) k f).isSome) (H8) Go.Proofs.Tryd.f8 (bd Go.Proofs.Tryd.f8) k xs) = F8 := by kernel_rfl
theorem ok8 (k : Nat) : FnOK Go.Proofs.Tryd.prog 8 [((.int .i64), true), ((.int .i64), true)] [.bool] (F8 k) :=
  fnOK_of_run (tsOf_ok _) (yOf_ok _) (acall_sound (tsOf_ok _) (yOf_ok _) ft_ok (ct8 k) mixed_ok 4) mixed_ok Go.Proofs.Tryd.func8 (by kernel_rfl) (by kernel_rfl) fun xs ys h => ⟨k, by rw [← h, ← run8]⟩
noncomputable def CT9 {R : Type} (k : Nat) : FuncId → Option (ConF R)
  | 10 => some (conOf (sig := []) (res := [.bool]) (F10 1000))
  | 11 => some (conOf (sig := [((.sl (.int .u8)), true)]) (res := [(.sl (.sl (.int .u8))), (.int .i64)]) (F11 k))
  | 13 => some (conOf (sig := [((.sl (.sl (.int .u8))), true), ((.sl (.sl (.int .u8))), true)]) (res := [.bool]) (F13 k))
  | 19 => some (conOf (sig := [((.int .i64), true), ((.sl (.int .u8)), true)]) (res := [(.sl (.int .u8)), (.int .i64)]) (F19 k))
  | 22 => some (conOf (sig := [((.int .i64), true), ((.int .i64), true)]) (res := [(.int .i64)]) (F22 k))
  | _ => none
theorem ct9 {R : Type} (k : Nat) (f : FuncId) (g : ConF R) (h : CT9 k f = some g) : ConOK Go.Proofs.Tryd.prog f g := by
  unfold CT9 at h
  split at h
  · injection h with h; subst h; exact conOf_sound (ok10 1000)
  · injection h with h; subst h; exact conOf_sound (ok11 k)
  · injection h with h; subst h; exact conOf_sound (ok13 k)
  · injection h with h; subst h; exact conOf_sound (ok19 k)
  · injection h with h; subst h; exact conOf_sound (ok22 k)
  · cases h
theorem run9 : (fun (k : Nat) (xs : HS [((.int .i64), true), ((.int .i64), true)]) => arun (tsOf Go.Proofs.Tryd.prog) (yOf Go.Proofs.Tryd.prog) [((.int .i64), true), ((.int .i64), true)] [.bool] (acall (tsOf Go.Proofs.Tryd.prog) (yOf Go.Proofs.Tryd.prog) FT HT k (CT9 k) 4) (fun f => (CT9 (R := HL [.bool]) k f).isSome) (H9) Go.Proofs.Tryd.f9 (bd Go.Proofs.Tryd.f9) k xs) = F9 := by kernel_rfl
theorem ok9 (k : Nat) : FnOK Go.Proofs.Tryd.prog 9 [((.int .i64), true), ((.int .i64), true)] [.bool] (F9 k) :=
  fnOK_of_run (tsOf_ok _) (yOf_ok _) (acall_sound (tsOf_ok _) (yOf_ok _) ft_ok (ct9 k) mixed_ok 4) mixed_ok Go.Proofs.Tryd.func9 (by kernel_rfl) (by kernel_rfl) fun xs ys h => ⟨k, by rw [← h, ← run9]⟩
end Go.Proofs.YtpgmkoaklpkecaaDoor.Eng
