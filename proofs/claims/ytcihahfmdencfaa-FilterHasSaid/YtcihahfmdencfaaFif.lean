/- What the functions do, as plain Lean. -/
import Derived.Test.YtcihahfmdencfaaEng20
set_option linter.unusedVariables false
namespace Go.Proofs.Ytcihahfmdencfaa.Eng
/-- moraine/codec.right -/
def F19 : Nat → ((List (Int)) × ((Int) × ((Int) × Unit))) → Option ((Bool) × Unit) := fun (k0 : Nat) =>
  fun (xs1 : ((List Int) × (Int × (Int × Unit)))) =>
  cond (decide ((NatCast.natCast (List.length xs1.1)) ≤ (128 : Int)))
    (cond (decide (xs1.2.1 ≤ (72057594037927935 : Int)))
      (cond (xs1.2.2.1 == (0 : Int))
        (some (true, ()))
        (some ((xs1.2.2.1 == (1 : Int)), ())))
      (some (false, ())))
    (some (false, ()))
/-- bytes.Clone -/
def F20 (_ : Nat) (xs : HS [((.sl (.int .u8)), true)]) : Option (HL [(.sl (.int .u8))]) := cloneF xs
/-- moraine/codec.fixed -/
def F30 : Nat → ((Int) × ((Int) × Unit)) → Option ((List (Int)) × Unit) := fun (k0 : Nat) =>
  fun (xs1 : (Int × (Int × Unit))) =>
  iter (R := ((List Int) × Unit)) (τ := ((Unit × (Int × (Int × (Int × Unit)))) × (Unit × ((List Int) × Unit)))) (
    fun (t2 : ((Unit × (Int × (Int × (Int × Unit)))) × (Unit × ((List Int) × Unit)))) =>
    fun (next3 : (((Unit × (Int × (Int × (Int × Unit)))) × (Unit × ((List Int) × Unit))) → (Option ((List Int) × Unit)))) =>
    cond (decide (t2.1.2.1 < t2.1.2.2.2.1))
      (cond (decide ((0 : Int) ≤ (Go.IntKind.wrap Go.IntKind.i64 ((8 : Int) * t2.1.2.1))))
        (cond (decide ((((List.length t2.2.2.1) + (List.length ((Go.IntKind.wrap Go.IntKind.u8 (ishr Go.IntKind.u64 t2.1.2.2.1 (Go.IntKind.wrap Go.IntKind.i64 ((8 : Int) * t2.1.2.1)))) :: ([] : (List Int))))) * (1 : Nat)) ≤ (140737488355328 : Nat)))
          (next3 (((), ((Go.IntKind.wrap Go.IntKind.i64 (t2.1.2.1 + (1 : Int))), (t2.1.2.2.1, (t2.1.2.2.2.1, ())))), ((), ((t2.2.2.1 ++ ((Go.IntKind.wrap Go.IntKind.u8 (ishr Go.IntKind.u64 t2.1.2.2.1 (Go.IntKind.wrap Go.IntKind.i64 ((8 : Int) * t2.1.2.1)))) :: ([] : (List Int)))), ()))))
          (none))
        (none))
      (some (t2.2.2.1, ()))) k0 (((), ((0 : Int), (xs1.1, (xs1.2.1, ())))), ((), (([] : (List Int)), ())))
/-- moraine/codec.Fixed8 -/
def F21 : Nat → ((Int) × Unit) → Option ((List (Int)) × Unit) := fun (k0 : Nat) =>
  fun (xs1 : (Int × Unit)) =>
  Option.bind (F30 k0 (xs1.1, ((8 : Int), ())))
  (fun (ys2 : ((List Int) × Unit)) =>
    some (ys2.1, ()))
/-- moraine/codec.Key -/
def F12 : Nat → ((List (Int)) × ((Int) × ((Int) × Unit))) → Option ((List (Int)) × ((Int) × Unit)) := fun (k0 : Nat) =>
  fun (xs1 : ((List Int) × (Int × (Int × Unit)))) =>
  Option.bind (F19 k0 (xs1.1, (xs1.2.1, (xs1.2.2.1, ()))))
  (fun (ys2 : (Bool × Unit)) =>
    cond (!ys2.1)
      (some (([] : (List Int)), ((23 : Int), ())))
      (Option.bind (F20 k0 (xs1.1, ()))
      (fun (ys3 : ((List Int) × Unit)) =>
        Option.bind (F21 k0 ((Go.IntKind.wrap Go.IntKind.u64 ((Go.IntKind.wrap Go.IntKind.u64 (xs1.2.1 * (256 : Int))) + (Go.IntKind.wrap Go.IntKind.u64 xs1.2.2.1))), ()))
        (fun (ys4 : ((List Int) × Unit)) =>
          cond (decide ((((List.length ys3.1) + (List.length ys4.1)) * (1 : Nat)) ≤ (140737488355328 : Nat)))
            (some ((ys3.1 ++ ys4.1), ((0 : Int), ())))
            (none)))))
/-- moraine/codec.unfixed -/
def F36 : Nat → ((List (Int)) × ((Int) × Unit)) → Option ((Int) × ((Int) × Unit)) := fun (k0 : Nat) =>
  fun (xs1 : ((List Int) × (Int × Unit))) =>
  cond (decide ((NatCast.natCast (List.length xs1.1)) < xs1.2.1))
    (some ((0 : Int), ((20 : Int), ())))
    (iter (R := (Int × (Int × Unit))) (τ := ((Int × (Int × ((List Int) × (Int × Unit)))) × (Unit × Unit))) (
      fun (t2 : ((Int × (Int × ((List Int) × (Int × Unit)))) × (Unit × Unit))) =>
      fun (next3 : (((Int × (Int × ((List Int) × (Int × Unit)))) × (Unit × Unit)) → (Option (Int × (Int × Unit))))) =>
      cond (decide (t2.1.2.1 < t2.1.2.2.2.1))
        (cond (decide ((0 : Int) ≤ t2.1.2.1))
          (cond (decide (t2.1.2.1 < (NatCast.natCast (List.length t2.1.2.2.1))))
            (cond (decide ((0 : Int) ≤ (Go.IntKind.wrap Go.IntKind.i64 ((8 : Int) * t2.1.2.1))))
              (next3 (((Go.bits Go.BinOp.or Go.IntKind.u64 t2.1.1 (ishl Go.IntKind.u64 (Go.IntKind.wrap Go.IntKind.u64 (List.getD t2.1.2.2.1 (Int.toNat t2.1.2.1) (0 : Int))) (Go.IntKind.wrap Go.IntKind.i64 ((8 : Int) * t2.1.2.1)))), ((Go.IntKind.wrap Go.IntKind.i64 (t2.1.2.1 + (1 : Int))), (t2.1.2.2.1, (t2.1.2.2.2.1, ())))), ((), ())))
              (none))
            (none))
          (none))
        (some (t2.1.1, ((0 : Int), ())))) k0 (((0 : Int), ((0 : Int), (xs1.1, (xs1.2.1, ())))), ((), ())))
/-- moraine/codec.Unfixed8 -/
def F39 : Nat → ((List (Int)) × Unit) → Option ((Int) × ((Int) × Unit)) := fun (k0 : Nat) =>
  fun (xs1 : ((List Int) × Unit)) =>
  Option.bind (F36 k0 (xs1.1, ((8 : Int), ())))
  (fun (ys2 : (Int × (Int × Unit))) =>
    some (ys2.1, (ys2.2.1, ())))
/-- moraine/codec.Split -/
def F31 : Nat → ((List (Int)) × Unit) → Option ((List (Int)) × ((Int) × ((Int) × ((Int) × Unit)))) := fun (k0 : Nat) =>
  fun (xs1 : ((List Int) × Unit)) =>
  cond (decide ((Go.IntKind.wrap Go.IntKind.i64 ((NatCast.natCast (List.length xs1.1)) - (8 : Int))) < (0 : Int)))
    (some (([] : (List Int)), ((0 : Int), ((0 : Int), ((23 : Int), ())))))
    (cond (decide ((0 : Int) ≤ (Go.IntKind.wrap Go.IntKind.i64 ((NatCast.natCast (List.length xs1.1)) - (8 : Int)))))
      (cond (decide ((Go.IntKind.wrap Go.IntKind.i64 ((NatCast.natCast (List.length xs1.1)) - (8 : Int))) ≤ (NatCast.natCast (List.length xs1.1))))
        (Option.bind (F39 k0 ((List.drop (Int.toNat (Go.IntKind.wrap Go.IntKind.i64 ((NatCast.natCast (List.length xs1.1)) - (8 : Int)))) xs1.1), ()))
        (fun (ys2 : (Int × (Int × Unit))) =>
          cond (decide ((0 : Int) ≤ (Go.IntKind.wrap Go.IntKind.i64 ((NatCast.natCast (List.length xs1.1)) - (8 : Int)))))
            (cond (decide ((Go.IntKind.wrap Go.IntKind.i64 ((NatCast.natCast (List.length xs1.1)) - (8 : Int))) ≤ (NatCast.natCast (List.length xs1.1))))
              (Option.bind (F19 k0 ((List.take (Int.toNat (Go.IntKind.wrap Go.IntKind.i64 ((NatCast.natCast (List.length xs1.1)) - (8 : Int)))) xs1.1), ((Go.IntKind.wrap Go.IntKind.u64 (Int.tdiv ys2.1 (256 : Int))), ((Go.IntKind.wrap Go.IntKind.i64 (Int.tmod ys2.1 (256 : Int))), ()))))
              (fun (ys3 : (Bool × Unit)) =>
                cond (!ys3.1)
                  (some (([] : (List Int)), ((0 : Int), ((0 : Int), ((23 : Int), ())))))
                  (cond (decide ((0 : Int) ≤ (Go.IntKind.wrap Go.IntKind.i64 ((NatCast.natCast (List.length xs1.1)) - (8 : Int)))))
                    (cond (decide ((Go.IntKind.wrap Go.IntKind.i64 ((NatCast.natCast (List.length xs1.1)) - (8 : Int))) ≤ (NatCast.natCast (List.length xs1.1))))
                      (Option.bind (F20 k0 ((List.take (Int.toNat (Go.IntKind.wrap Go.IntKind.i64 ((NatCast.natCast (List.length xs1.1)) - (8 : Int)))) xs1.1), ()))
                      (fun (ys4 : ((List Int) × Unit)) =>
                        some (ys4.1, ((Go.IntKind.wrap Go.IntKind.u64 (Int.tdiv ys2.1 (256 : Int))), ((Go.IntKind.wrap Go.IntKind.i64 (Int.tmod ys2.1 (256 : Int))), ((0 : Int), ()))))))
                      (none))
                    (none))))
              (none))
            (none)))
        (none))
      (none))
/-- internal/bytealg.Compare -/
def F45 (_ : Nat) (xs : HS [((.sl (.int .u8)), true), ((.sl (.int .u8)), true)]) : Option (HL [(.int .i64)]) := cmpF xs
/-- bytes.Compare -/
def F42 : Nat → ((List (Int)) × ((List (Int)) × Unit)) → Option ((Int) × Unit) := fun (k0 : Nat) =>
  fun (xs1 : ((List Int) × ((List Int) × Unit))) =>
  Option.bind (F45 k0 (xs1.1, (xs1.2.1, ())))
  (fun (ys2 : (Int × Unit)) =>
    some (ys2.1, ()))
/-- cmp.isNaN[uint64] -/
def F46 : Nat → ((Int) × Unit) → Option ((Bool) × Unit) := fun (k0 : Nat) =>
  fun (xs1 : (Int × Unit)) =>
  some ((bne xs1.1 xs1.1), ())
/-- cmp.Compare[uint64] -/
def F43 : Nat → ((Int) × ((Int) × Unit)) → Option ((Int) × Unit) := fun (k0 : Nat) =>
  fun (xs1 : (Int × (Int × Unit))) =>
  Option.bind (F46 k0 (xs1.1, ()))
  (fun (ys2 : (Bool × Unit)) =>
    Option.bind (F46 k0 (xs1.2.1, ()))
    (fun (ys3 : (Bool × Unit)) =>
      cond ys2.1
        (cond ys3.1
          (some ((0 : Int), ()))
          (some ((-1 : Int), ())))
        (cond ys3.1
          (some ((1 : Int), ()))
          (cond (decide (xs1.1 < xs1.2.1))
            (some ((-1 : Int), ()))
            (cond (decide (xs1.2.1 < xs1.1))
              (some ((1 : Int), ()))
              (some ((0 : Int), ())))))))
/-- cmp.isNaN[int] -/
def F47 : Nat → ((Int) × Unit) → Option ((Bool) × Unit) := fun (k0 : Nat) =>
  fun (xs1 : (Int × Unit)) =>
  some ((bne xs1.1 xs1.1), ())
/-- cmp.Compare[int] -/
def F44 : Nat → ((Int) × ((Int) × Unit)) → Option ((Int) × Unit) := fun (k0 : Nat) =>
  fun (xs1 : (Int × (Int × Unit))) =>
  Option.bind (F47 k0 (xs1.1, ()))
  (fun (ys2 : (Bool × Unit)) =>
    Option.bind (F47 k0 (xs1.2.1, ()))
    (fun (ys3 : (Bool × Unit)) =>
      cond ys2.1
        (cond ys3.1
          (some ((0 : Int), ()))
          (some ((-1 : Int), ())))
        (cond ys3.1
          (some ((1 : Int), ()))
          (cond (decide (xs1.1 < xs1.2.1))
            (some ((-1 : Int), ()))
            (cond (decide (xs1.2.1 < xs1.1))
              (some ((1 : Int), ()))
              (some ((0 : Int), ())))))))
/-- moraine/codec.Compare -/
def F40 : Nat → ((List (Int)) × ((List (Int)) × Unit)) → Option ((Int) × ((Int) × Unit)) := fun (k0 : Nat) =>
  fun (xs1 : ((List Int) × ((List Int) × Unit))) =>
  Option.bind (F31 k0 (xs1.1, ()))
  (fun (ys2 : ((List Int) × (Int × (Int × (Int × Unit))))) =>
    Option.bind (F31 k0 (xs1.2.1, ()))
    (fun (ys3 : ((List Int) × (Int × (Int × (Int × Unit))))) =>
      cond (bne ys2.2.2.2.1 (0 : Int))
        (some ((0 : Int), ((23 : Int), ())))
        (cond (bne ys3.2.2.2.1 (0 : Int))
          (some ((0 : Int), ((23 : Int), ())))
          (ajoin (τ := ((Int × (Int × Unit)) × (Unit × Unit))) (R := (Int × (Int × Unit))) (
            fun (k4 : (((Int × (Int × Unit)) × (Unit × Unit)) → (Option (Int × (Int × Unit))))) =>
            ajoin (τ := ((Int × (Int × (Int × (Int × Unit)))) × (Unit × Unit))) (R := (Int × (Int × Unit))) (
              fun (k5 : (((Int × (Int × (Int × (Int × Unit)))) × (Unit × Unit)) → (Option (Int × (Int × Unit))))) =>
              Option.bind (F42 k0 (ys2.1, (ys3.1, ())))
              (fun (ys6 : (Int × Unit)) =>
                cond (bne ys6.1 (0 : Int))
                  (some (ys6.1, ((0 : Int), ())))
                  (k5 ((ys2.2.1, (ys2.2.2.1, (ys3.2.1, (ys3.2.2.1, ())))), ((), ())))))
            (fun (t5 : ((Int × (Int × (Int × (Int × Unit)))) × (Unit × Unit))) =>
              Option.bind (F43 k0 (t5.1.2.2.1, (t5.1.1, ())))
              (fun (ys6 : (Int × Unit)) =>
                cond (bne ys6.1 (0 : Int))
                  (some (ys6.1, ((0 : Int), ())))
                  (k4 ((t5.1.2.1, (t5.1.2.2.2.1, ())), ((), ()))))))
          (fun (t4 : ((Int × (Int × Unit)) × (Unit × Unit))) =>
            Option.bind (F44 k0 (t4.1.2.1, (t4.1.1, ())))
            (fun (ys5 : (Int × Unit)) =>
              some (ys5.1, ((0 : Int), ()))))))))
/-- moraine/block.behind -/
def F32 : Nat → ((List (Int)) × ((List (Int)) × Unit)) → Option ((Bool) × Unit) := fun (k0 : Nat) =>
  fun (xs1 : ((List Int) × ((List Int) × Unit))) =>
  Option.bind (F40 k0 (xs1.2.1, (xs1.1, ())))
  (fun (ys2 : (Int × (Int × Unit))) =>
    cond (ys2.2.1 == (0 : Int))
      (some ((decide (ys2.1 < (0 : Int))), ()))
      (some (false, ())))
/-- moraine/block.right -/
def F22 : Nat → ((List ((List (Int)) × (List (Int)))) × Unit) → Option ((Bool) × Unit) := fun (k0 : Nat) =>
  fun (xs1 : ((List ((List Int) × (List Int))) × Unit)) =>
  iter (R := (Bool × Unit)) (τ := ((Int × ((List ((List Int) × (List Int))) × ((List ((List Int) × (List Int))) × (Int × Unit)))) × (Unit × Unit))) (
    fun (t2 : ((Int × ((List ((List Int) × (List Int))) × ((List ((List Int) × (List Int))) × (Int × Unit)))) × (Unit × Unit))) =>
    fun (next3 : (((Int × ((List ((List Int) × (List Int))) × ((List ((List Int) × (List Int))) × (Int × Unit)))) × (Unit × Unit)) → (Option (Bool × Unit)))) =>
    cond (decide (t2.1.1 < t2.1.2.2.2.1))
      (cond (decide ((0 : Int) ≤ t2.1.1))
        (cond (decide (t2.1.1 < (NatCast.natCast (List.length t2.1.2.2.1))))
          (Option.bind (F31 k0 ((List.getD t2.1.2.2.1 (Int.toNat t2.1.1) (([] : (List Int)), ([] : (List Int)))).1, ()))
          (fun (ys4 : ((List Int) × (Int × (Int × (Int × Unit))))) =>
            cond (bne ys4.2.2.2.1 (0 : Int))
              (some (false, ()))
              (cond (decide ((0 : Int) < t2.1.1))
                (cond (decide ((0 : Int) ≤ (Go.IntKind.wrap Go.IntKind.i64 (t2.1.1 - (1 : Int)))))
                  (cond (decide ((Go.IntKind.wrap Go.IntKind.i64 (t2.1.1 - (1 : Int))) < (NatCast.natCast (List.length t2.1.2.1))))
                    (Option.bind (F32 k0 ((List.getD t2.1.2.2.1 (Int.toNat t2.1.1) (([] : (List Int)), ([] : (List Int)))).1, ((List.getD t2.1.2.1 (Int.toNat (Go.IntKind.wrap Go.IntKind.i64 (t2.1.1 - (1 : Int)))) (([] : (List Int)), ([] : (List Int)))).1, ())))
                    (fun (ys5 : (Bool × Unit)) =>
                      cond (!ys5.1)
                        (some (false, ()))
                        (next3 (((Go.IntKind.wrap Go.IntKind.i64 (t2.1.1 + (1 : Int))), (t2.1.2.1, (t2.1.2.2.1, (t2.1.2.2.2.1, ())))), ((), ())))))
                    (none))
                  (none))
                (next3 (((Go.IntKind.wrap Go.IntKind.i64 (t2.1.1 + (1 : Int))), (t2.1.2.1, (t2.1.2.2.1, (t2.1.2.2.2.1, ())))), ((), ()))))))
          (none))
        (none))
      (some (true, ()))) k0 (((0 : Int), (xs1.1, (xs1.1, ((NatCast.natCast (List.length xs1.1)), ())))), ((), ()))
/-- moraine/codec.Fixed4 -/
def F33 : Nat → ((Int) × Unit) → Option ((List (Int)) × Unit) := fun (k0 : Nat) =>
  fun (xs1 : (Int × Unit)) =>
  Option.bind (F30 k0 ((Go.IntKind.wrap Go.IntKind.u64 xs1.1), ((4 : Int), ())))
  (fun (ys2 : ((List Int) × Unit)) =>
    some (ys2.1, ()))
/-- moraine/block.shared -/
def F34 : Nat → ((List (Int)) × ((List (Int)) × Unit)) → Option ((Int) × Unit) := fun (k0 : Nat) =>
  fun (xs1 : ((List Int) × ((List Int) × Unit))) =>
  iter (R := (Int × Unit)) (τ := ((Int × ((List Int) × ((List Int) × Unit))) × (Unit × Unit))) (
    fun (t2 : ((Int × ((List Int) × ((List Int) × Unit))) × (Unit × Unit))) =>
    fun (next3 : (((Int × ((List Int) × ((List Int) × Unit))) × (Unit × Unit)) → (Option (Int × Unit)))) =>
    cond (decide (t2.1.1 < (NatCast.natCast (List.length t2.1.2.1))))
      (cond (decide (t2.1.1 < (NatCast.natCast (List.length t2.1.2.2.1))))
        (cond (decide ((0 : Int) ≤ t2.1.1))
          (cond (decide (t2.1.1 < (NatCast.natCast (List.length t2.1.2.1))))
            (cond (decide ((0 : Int) ≤ t2.1.1))
              (cond (decide (t2.1.1 < (NatCast.natCast (List.length t2.1.2.2.1))))
                (cond ((List.getD t2.1.2.1 (Int.toNat t2.1.1) (0 : Int)) == (List.getD t2.1.2.2.1 (Int.toNat t2.1.1) (0 : Int)))
                  (next3 (((Go.IntKind.wrap Go.IntKind.i64 (t2.1.1 + (1 : Int))), (t2.1.2.1, (t2.1.2.2.1, ()))), ((), ())))
                  (some (t2.1.1, ())))
                (none))
              (none))
            (none))
          (none))
        (some (t2.1.1, ())))
      (some (t2.1.1, ()))) k0 (((0 : Int), (xs1.1, (xs1.2.1, ()))), ((), ()))
/-- moraine/codec.Put -/
def F35 : Nat → ((Int) × Unit) → Option ((List (Int)) × Unit) := fun (k0 : Nat) =>
  fun (xs1 : (Int × Unit)) =>
  iter (R := ((List Int) × Unit)) (τ := ((Int × (Unit × Unit)) × (Unit × ((List Int) × Unit)))) (
    fun (t2 : ((Int × (Unit × Unit)) × (Unit × ((List Int) × Unit)))) =>
    fun (next3 : (((Int × (Unit × Unit)) × (Unit × ((List Int) × Unit))) → (Option ((List Int) × Unit)))) =>
    cond (decide ((128 : Int) ≤ t2.1.1))
      (cond (decide ((((List.length t2.2.2.1) + (List.length ((Go.bits Go.BinOp.or Go.IntKind.u8 (Go.IntKind.wrap Go.IntKind.u8 t2.1.1) (128 : Int)) :: ([] : (List Int))))) * (1 : Nat)) ≤ (140737488355328 : Nat)))
        (next3 (((ishr Go.IntKind.u64 t2.1.1 (7 : Int)), ((), ())), ((), ((t2.2.2.1 ++ ((Go.bits Go.BinOp.or Go.IntKind.u8 (Go.IntKind.wrap Go.IntKind.u8 t2.1.1) (128 : Int)) :: ([] : (List Int)))), ()))))
        (none))
      (cond (decide ((((List.length t2.2.2.1) + (List.length ((Go.IntKind.wrap Go.IntKind.u8 t2.1.1) :: ([] : (List Int))))) * (1 : Nat)) ≤ (140737488355328 : Nat)))
        (some ((t2.2.2.1 ++ ((Go.IntKind.wrap Go.IntKind.u8 t2.1.1) :: ([] : (List Int)))), ()))
        (none))) k0 ((xs1.1, ((), ())), ((), (([] : (List Int)), ())))
/-- moraine/block.built -/
def F23 : Nat → ((List ((List (Int)) × (List (Int)))) × ((Int) × Unit)) → Option ((List (Int)) × Unit) := fun (k0 : Nat) =>
  fun (xs1 : ((List ((List Int) × (List Int))) × (Int × Unit))) =>
  iter (R := ((List Int) × Unit)) (τ := ((Unit × (Unit × (Int × (Int × ((List ((List Int) × (List Int))) × (Int × ((List ((List Int) × (List Int))) × (Int × Unit)))))))) × (Unit × ((List Int) × ((List Int) × Unit))))) (
    fun (t2 : ((Unit × (Unit × (Int × (Int × ((List ((List Int) × (List Int))) × (Int × ((List ((List Int) × (List Int))) × (Int × Unit)))))))) × (Unit × ((List Int) × ((List Int) × Unit))))) =>
    fun (next3 : (((Unit × (Unit × (Int × (Int × ((List ((List Int) × (List Int))) × (Int × ((List ((List Int) × (List Int))) × (Int × Unit)))))))) × (Unit × ((List Int) × ((List Int) × Unit)))) → (Option ((List Int) × Unit)))) =>
    cond (decide (t2.1.2.2.2.1 < t2.1.2.2.2.2.2.2.2.1))
      (cond (decide ((0 : Int) ≤ t2.1.2.2.2.1))
        (cond (decide (t2.1.2.2.2.1 < (NatCast.natCast (List.length t2.1.2.2.2.2.2.2.1))))
          (ajoin (τ := ((Unit × (Int × (Int × ((List ((List Int) × (List Int))) × (Int × (Unit × (Unit × ((List ((List Int) × (List Int))) × (Int × (Int × Unit)))))))))) × (Unit × (((List Int) × ((List Int) × Unit)) × ((List Int) × ((List Int) × Unit)))))) (R := ((List Int) × Unit)) (
            fun (k4 : (((Unit × (Int × (Int × ((List ((List Int) × (List Int))) × (Int × (Unit × (Unit × ((List ((List Int) × (List Int))) × (Int × (Int × Unit)))))))))) × (Unit × (((List Int) × ((List Int) × Unit)) × ((List Int) × ((List Int) × Unit))))) → (Option ((List Int) × Unit)))) =>
            cond (decide (t2.1.2.2.2.2.2.1 = (0 : Int)))
              (none)
              (cond ((Int.tmod t2.1.2.2.2.1 t2.1.2.2.2.2.2.1) == (0 : Int))
                (Option.bind (F33 k0 ((Go.IntKind.wrap Go.IntKind.u32 (NatCast.natCast (List.length t2.2.2.2.1))), ()))
                (fun (ys5 : ((List Int) × Unit)) =>
                  cond (decide ((((List.length t2.2.2.1) + (List.length ys5.1)) * (1 : Nat)) ≤ (140737488355328 : Nat)))
                    (k4 (((), ((Go.IntKind.wrap Go.IntKind.i64 (t2.1.2.2.1 + (1 : Int))), ((0 : Int), (t2.1.2.2.2.2.1, (t2.1.2.2.2.2.2.1, ((), ((), (t2.1.2.2.2.2.2.2.1, (t2.1.2.2.2.2.2.2.2.1, (t2.1.2.2.2.1, ())))))))))), ((), (((List.getD t2.1.2.2.2.2.2.2.1 (Int.toNat t2.1.2.2.2.1) (([] : (List Int)), ([] : (List Int)))).1, ((List.getD t2.1.2.2.2.2.2.2.1 (Int.toNat t2.1.2.2.2.1) (([] : (List Int)), ([] : (List Int)))).2, ())), (t2.2.2.2.1, ((t2.2.2.1 ++ ys5.1), ()))))))
                    (none)))
                (cond (decide ((0 : Int) ≤ (Go.IntKind.wrap Go.IntKind.i64 (t2.1.2.2.2.1 - (1 : Int)))))
                  (cond (decide ((Go.IntKind.wrap Go.IntKind.i64 (t2.1.2.2.2.1 - (1 : Int))) < (NatCast.natCast (List.length t2.1.2.2.2.2.1))))
                    (Option.bind (F34 k0 ((List.getD t2.1.2.2.2.2.1 (Int.toNat (Go.IntKind.wrap Go.IntKind.i64 (t2.1.2.2.2.1 - (1 : Int)))) (([] : (List Int)), ([] : (List Int)))).1, ((List.getD t2.1.2.2.2.2.2.2.1 (Int.toNat t2.1.2.2.2.1) (([] : (List Int)), ([] : (List Int)))).1, ())))
                    (fun (ys5 : (Int × Unit)) =>
                      k4 (((), (t2.1.2.2.1, (ys5.1, (t2.1.2.2.2.2.1, (t2.1.2.2.2.2.2.1, ((), ((), (t2.1.2.2.2.2.2.2.1, (t2.1.2.2.2.2.2.2.2.1, (t2.1.2.2.2.1, ())))))))))), ((), (((List.getD t2.1.2.2.2.2.2.2.1 (Int.toNat t2.1.2.2.2.1) (([] : (List Int)), ([] : (List Int)))).1, ((List.getD t2.1.2.2.2.2.2.2.1 (Int.toNat t2.1.2.2.2.1) (([] : (List Int)), ([] : (List Int)))).2, ())), (t2.2.2.2.1, (t2.2.2.1, ())))))))
                    (none))
                  (none))))
          (fun (t4 : ((Unit × (Int × (Int × ((List ((List Int) × (List Int))) × (Int × (Unit × (Unit × ((List ((List Int) × (List Int))) × (Int × (Int × Unit)))))))))) × (Unit × (((List Int) × ((List Int) × Unit)) × ((List Int) × ((List Int) × Unit)))))) =>
            iter (R := ((List Int) × Unit)) (τ := ((Unit × (Int × ((List ((List Int) × (List Int))) × (Int × (Unit × (Int × (Unit × (Int × ((List ((List Int) × (List Int))) × (Int × (Int × ((Int × (Int × (Int × Unit))) × Unit)))))))))))) × (Unit × (((List Int) × ((List Int) × Unit)) × ((List Int) × ((List Int) × Unit)))))) (
              fun (t5 : ((Unit × (Int × ((List ((List Int) × (List Int))) × (Int × (Unit × (Int × (Unit × (Int × ((List ((List Int) × (List Int))) × (Int × (Int × ((Int × (Int × (Int × Unit))) × Unit)))))))))))) × (Unit × (((List Int) × ((List Int) × Unit)) × ((List Int) × ((List Int) × Unit)))))) =>
              fun (next6 : (((Unit × (Int × ((List ((List Int) × (List Int))) × (Int × (Unit × (Int × (Unit × (Int × ((List ((List Int) × (List Int))) × (Int × (Int × ((Int × (Int × (Int × Unit))) × Unit)))))))))))) × (Unit × (((List Int) × ((List Int) × Unit)) × ((List Int) × ((List Int) × Unit))))) → (Option ((List Int) × Unit)))) =>
              cond (decide (t5.1.2.1 < (3 : Int)))
                (cond (decide ((0 : Int) ≤ t5.1.2.1))
                  (cond (decide (t5.1.2.1 < (3 : Int)))
                    (Option.bind (F35 k0 ((Go.IntKind.wrap Go.IntKind.u64 (List.getD (t5.1.2.2.2.2.2.2.2.2.2.2.2.1.1 :: (t5.1.2.2.2.2.2.2.2.2.2.2.2.1.2.1 :: (t5.1.2.2.2.2.2.2.2.2.2.2.2.1.2.2.1 :: ([] : (List Int))))) (Int.toNat t5.1.2.1) (0 : Int))), ()))
                    (fun (ys7 : ((List Int) × Unit)) =>
                      cond (decide ((((List.length t5.2.2.2.2.1) + (List.length ys7.1)) * (1 : Nat)) ≤ (140737488355328 : Nat)))
                        (next6 (((), ((Go.IntKind.wrap Go.IntKind.i64 (t5.1.2.1 + (1 : Int))), (t5.1.2.2.1, (t5.1.2.2.2.1, ((), (t5.1.2.2.2.2.2.1, ((), (t5.1.2.2.2.2.2.2.2.1, (t5.1.2.2.2.2.2.2.2.2.1, (t5.1.2.2.2.2.2.2.2.2.2.1, (t5.1.2.2.2.2.2.2.2.2.2.2.1, ((t5.1.2.2.2.2.2.2.2.2.2.2.2.1.1, (t5.1.2.2.2.2.2.2.2.2.2.2.2.1.2.1, (t5.1.2.2.2.2.2.2.2.2.2.2.2.1.2.2.1, ()))), ())))))))))))), ((), ((t5.2.2.1.1, (t5.2.2.1.2.1, ())), (t5.2.2.2.1, ((t5.2.2.2.2.1 ++ ys7.1), ()))))))
                        (none)))
                    (none))
                  (none))
                (cond (decide ((0 : Int) ≤ t5.1.2.2.2.2.2.2.2.1))
                  (cond (decide (t5.1.2.2.2.2.2.2.2.1 ≤ (NatCast.natCast (List.length t5.2.2.1.1))))
                    (cond (decide ((((List.length t5.2.2.2.2.1) + (List.length (List.drop (Int.toNat t5.1.2.2.2.2.2.2.2.1) t5.2.2.1.1))) * (1 : Nat)) ≤ (140737488355328 : Nat)))
                      (cond (decide ((((List.length (t5.2.2.2.2.1 ++ (List.drop (Int.toNat t5.1.2.2.2.2.2.2.2.1) t5.2.2.1.1))) + (List.length t5.2.2.1.2.1)) * (1 : Nat)) ≤ (140737488355328 : Nat)))
                        (next3 (((), ((), (t5.1.2.2.2.2.2.1, ((Go.IntKind.wrap Go.IntKind.i64 (t5.1.2.2.2.2.2.2.2.2.2.2.1 + (1 : Int))), (t5.1.2.2.1, (t5.1.2.2.2.1, (t5.1.2.2.2.2.2.2.2.2.1, (t5.1.2.2.2.2.2.2.2.2.2.1, ())))))))), ((), (t5.2.2.2.1, (((t5.2.2.2.2.1 ++ (List.drop (Int.toNat t5.1.2.2.2.2.2.2.2.1) t5.2.2.1.1)) ++ t5.2.2.1.2.1), ())))))
                        (none))
                      (none))
                    (none))
                  (none))) k0 (((), ((0 : Int), (t4.1.2.2.2.1, (t4.1.2.2.2.2.1, ((), (t4.1.2.1, ((), (t4.1.2.2.1, (t4.1.2.2.2.2.2.2.2.1, (t4.1.2.2.2.2.2.2.2.2.1, (t4.1.2.2.2.2.2.2.2.2.2.1, ((t4.1.2.2.1, ((Go.IntKind.wrap Go.IntKind.i64 ((NatCast.natCast (List.length t4.2.2.1.1)) - t4.1.2.2.1)), ((NatCast.natCast (List.length t4.2.2.1.2.1)), ()))), ())))))))))))), ((), ((t4.2.2.1.1, (t4.2.2.1.2.1, ())), (t4.2.2.2.2.1, (t4.2.2.2.1, ())))))))
          (none))
        (none))
      (cond (decide ((((List.length t2.2.2.2.1) + (List.length t2.2.2.1)) * (1 : Nat)) ≤ (140737488355328 : Nat)))
        (Option.bind (F33 k0 ((Go.IntKind.wrap Go.IntKind.u32 t2.1.2.2.1), ()))
        (fun (ys4 : ((List Int) × Unit)) =>
          cond (decide ((((List.length (t2.2.2.2.1 ++ t2.2.2.1)) + (List.length ys4.1)) * (1 : Nat)) ≤ (140737488355328 : Nat)))
            (some (((t2.2.2.2.1 ++ t2.2.2.1) ++ ys4.1), ()))
            (none)))
        (none))) k0 (((), ((), ((0 : Int), ((0 : Int), (xs1.1, (xs1.2.1, (xs1.1, ((NatCast.natCast (List.length xs1.1)), ())))))))), ((), (([] : (List Int)), (([] : (List Int)), ()))))
/-- moraine/block.Build -/
def F13 : Nat → ((List ((List (Int)) × (List (Int)))) × ((Int) × Unit)) → Option ((List (Int)) × ((Int) × Unit)) := fun (k0 : Nat) =>
  fun (xs1 : ((List ((List Int) × (List Int))) × (Int × Unit))) =>
  cond (decide (xs1.2.1 < (1 : Int)))
    (some (([] : (List Int)), ((71 : Int), ())))
    (cond (decide ((64 : Int) < xs1.2.1))
      (some (([] : (List Int)), ((71 : Int), ())))
      (Option.bind (F22 k0 (xs1.1, ()))
      (fun (ys2 : (Bool × Unit)) =>
        cond (!ys2.1)
          (some (([] : (List Int)), ((70 : Int), ())))
          (Option.bind (F23 k0 (xs1.1, (xs1.2.1, ())))
          (fun (ys3 : ((List Int) × Unit)) =>
            some (ys3.1, ((0 : Int), ())))))))
/-- moraine/codec.Unfixed4 -/
def F24 : Nat → ((List (Int)) × Unit) → Option ((Int) × ((Int) × Unit)) := fun (k0 : Nat) =>
  fun (xs1 : ((List Int) × Unit)) =>
  Option.bind (F36 k0 (xs1.1, ((4 : Int), ())))
  (fun (ys2 : (Int × (Int × Unit))) =>
    some ((Go.IntKind.wrap Go.IntKind.u32 ys2.1), (ys2.2.1, ())))
/-- bytes.Equal -/
def F26 : Nat → ((List (Int)) × ((List (Int)) × Unit)) → Option ((Bool) × Unit) := fun (k0 : Nat) =>
  fun (xs1 : ((List Int) × ((List Int) × Unit))) =>
  some ((xs1.1 == xs1.2.1), ())
/-- moraine/codec.Take -/
def F41 : Nat → ((List (Int)) × Unit) → Option ((Int) × ((Int) × ((Int) × Unit))) := fun (k0 : Nat) =>
  fun (xs1 : ((List Int) × Unit)) =>
  iter (R := (Int × (Int × (Int × Unit)))) (τ := ((Int × (Int × ((List Int) × (Int × Unit)))) × (Unit × Unit))) (
    fun (t2 : ((Int × (Int × ((List Int) × (Int × Unit)))) × (Unit × Unit))) =>
    fun (next3 : (((Int × (Int × ((List Int) × (Int × Unit)))) × (Unit × Unit)) → (Option (Int × (Int × (Int × Unit)))))) =>
    cond (decide (t2.1.2.1 < t2.1.2.2.2.1))
      (cond (decide ((0 : Int) ≤ t2.1.2.1))
        (cond (decide (t2.1.2.1 < (NatCast.natCast (List.length t2.1.2.2.1))))
          (cond (t2.1.2.1 == (9 : Int))
            (cond (decide ((1 : Int) < (List.getD t2.1.2.2.1 (Int.toNat t2.1.2.1) (0 : Int))))
              (some ((0 : Int), ((0 : Int), ((21 : Int), ()))))
              (cond (decide ((0 : Int) < t2.1.2.1))
                (cond ((List.getD t2.1.2.2.1 (Int.toNat t2.1.2.1) (0 : Int)) == (0 : Int))
                  (some ((0 : Int), ((0 : Int), ((21 : Int), ()))))
                  (cond (decide ((0 : Int) ≤ (Go.IntKind.wrap Go.IntKind.i64 ((7 : Int) * t2.1.2.1))))
                    (cond (decide ((List.getD t2.1.2.2.1 (Int.toNat t2.1.2.1) (0 : Int)) < (128 : Int)))
                      (some ((Go.bits Go.BinOp.or Go.IntKind.u64 t2.1.1 (ishl Go.IntKind.u64 (Go.IntKind.wrap Go.IntKind.u64 (Go.bits Go.BinOp.andNot Go.IntKind.u8 (List.getD t2.1.2.2.1 (Int.toNat t2.1.2.1) (0 : Int)) (128 : Int))) (Go.IntKind.wrap Go.IntKind.i64 ((7 : Int) * t2.1.2.1)))), ((Go.IntKind.wrap Go.IntKind.i64 (t2.1.2.1 + (1 : Int))), ((0 : Int), ()))))
                      (next3 (((Go.bits Go.BinOp.or Go.IntKind.u64 t2.1.1 (ishl Go.IntKind.u64 (Go.IntKind.wrap Go.IntKind.u64 (Go.bits Go.BinOp.andNot Go.IntKind.u8 (List.getD t2.1.2.2.1 (Int.toNat t2.1.2.1) (0 : Int)) (128 : Int))) (Go.IntKind.wrap Go.IntKind.i64 ((7 : Int) * t2.1.2.1)))), ((Go.IntKind.wrap Go.IntKind.i64 (t2.1.2.1 + (1 : Int))), (t2.1.2.2.1, (t2.1.2.2.2.1, ())))), ((), ()))))
                    (none)))
                (cond (decide ((0 : Int) ≤ (Go.IntKind.wrap Go.IntKind.i64 ((7 : Int) * t2.1.2.1))))
                  (cond (decide ((List.getD t2.1.2.2.1 (Int.toNat t2.1.2.1) (0 : Int)) < (128 : Int)))
                    (some ((Go.bits Go.BinOp.or Go.IntKind.u64 t2.1.1 (ishl Go.IntKind.u64 (Go.IntKind.wrap Go.IntKind.u64 (Go.bits Go.BinOp.andNot Go.IntKind.u8 (List.getD t2.1.2.2.1 (Int.toNat t2.1.2.1) (0 : Int)) (128 : Int))) (Go.IntKind.wrap Go.IntKind.i64 ((7 : Int) * t2.1.2.1)))), ((Go.IntKind.wrap Go.IntKind.i64 (t2.1.2.1 + (1 : Int))), ((0 : Int), ()))))
                    (next3 (((Go.bits Go.BinOp.or Go.IntKind.u64 t2.1.1 (ishl Go.IntKind.u64 (Go.IntKind.wrap Go.IntKind.u64 (Go.bits Go.BinOp.andNot Go.IntKind.u8 (List.getD t2.1.2.2.1 (Int.toNat t2.1.2.1) (0 : Int)) (128 : Int))) (Go.IntKind.wrap Go.IntKind.i64 ((7 : Int) * t2.1.2.1)))), ((Go.IntKind.wrap Go.IntKind.i64 (t2.1.2.1 + (1 : Int))), (t2.1.2.2.1, (t2.1.2.2.2.1, ())))), ((), ()))))
                  (none))))
            (cond (decide ((0 : Int) < t2.1.2.1))
              (cond ((List.getD t2.1.2.2.1 (Int.toNat t2.1.2.1) (0 : Int)) == (0 : Int))
                (some ((0 : Int), ((0 : Int), ((21 : Int), ()))))
                (cond (decide ((0 : Int) ≤ (Go.IntKind.wrap Go.IntKind.i64 ((7 : Int) * t2.1.2.1))))
                  (cond (decide ((List.getD t2.1.2.2.1 (Int.toNat t2.1.2.1) (0 : Int)) < (128 : Int)))
                    (some ((Go.bits Go.BinOp.or Go.IntKind.u64 t2.1.1 (ishl Go.IntKind.u64 (Go.IntKind.wrap Go.IntKind.u64 (Go.bits Go.BinOp.andNot Go.IntKind.u8 (List.getD t2.1.2.2.1 (Int.toNat t2.1.2.1) (0 : Int)) (128 : Int))) (Go.IntKind.wrap Go.IntKind.i64 ((7 : Int) * t2.1.2.1)))), ((Go.IntKind.wrap Go.IntKind.i64 (t2.1.2.1 + (1 : Int))), ((0 : Int), ()))))
                    (next3 (((Go.bits Go.BinOp.or Go.IntKind.u64 t2.1.1 (ishl Go.IntKind.u64 (Go.IntKind.wrap Go.IntKind.u64 (Go.bits Go.BinOp.andNot Go.IntKind.u8 (List.getD t2.1.2.2.1 (Int.toNat t2.1.2.1) (0 : Int)) (128 : Int))) (Go.IntKind.wrap Go.IntKind.i64 ((7 : Int) * t2.1.2.1)))), ((Go.IntKind.wrap Go.IntKind.i64 (t2.1.2.1 + (1 : Int))), (t2.1.2.2.1, (t2.1.2.2.2.1, ())))), ((), ()))))
                  (none)))
              (cond (decide ((0 : Int) ≤ (Go.IntKind.wrap Go.IntKind.i64 ((7 : Int) * t2.1.2.1))))
                (cond (decide ((List.getD t2.1.2.2.1 (Int.toNat t2.1.2.1) (0 : Int)) < (128 : Int)))
                  (some ((Go.bits Go.BinOp.or Go.IntKind.u64 t2.1.1 (ishl Go.IntKind.u64 (Go.IntKind.wrap Go.IntKind.u64 (Go.bits Go.BinOp.andNot Go.IntKind.u8 (List.getD t2.1.2.2.1 (Int.toNat t2.1.2.1) (0 : Int)) (128 : Int))) (Go.IntKind.wrap Go.IntKind.i64 ((7 : Int) * t2.1.2.1)))), ((Go.IntKind.wrap Go.IntKind.i64 (t2.1.2.1 + (1 : Int))), ((0 : Int), ()))))
                  (next3 (((Go.bits Go.BinOp.or Go.IntKind.u64 t2.1.1 (ishl Go.IntKind.u64 (Go.IntKind.wrap Go.IntKind.u64 (Go.bits Go.BinOp.andNot Go.IntKind.u8 (List.getD t2.1.2.2.1 (Int.toNat t2.1.2.1) (0 : Int)) (128 : Int))) (Go.IntKind.wrap Go.IntKind.i64 ((7 : Int) * t2.1.2.1)))), ((Go.IntKind.wrap Go.IntKind.i64 (t2.1.2.1 + (1 : Int))), (t2.1.2.2.1, (t2.1.2.2.2.1, ())))), ((), ()))))
                (none))))
          (none))
        (none))
      (some ((0 : Int), ((0 : Int), ((20 : Int), ()))))) k0 (((0 : Int), ((0 : Int), (xs1.1, ((NatCast.natCast (List.length xs1.1)), ())))), ((), ()))
/-- moraine/block.Parse -/
def F14 : Nat → ((List (Int)) × Unit) → Option ((List ((List (Int)) × (List (Int)))) × ((Int) × Unit)) := fun (k0 : Nat) =>
  fun (xs1 : ((List Int) × Unit)) =>
  cond (decide ((Go.IntKind.wrap Go.IntKind.i64 ((NatCast.natCast (List.length xs1.1)) - (4 : Int))) < (0 : Int)))
    (some (([] : (List ((List Int) × (List Int)))), ((72 : Int), ())))
    (cond (decide ((0 : Int) ≤ (Go.IntKind.wrap Go.IntKind.i64 ((NatCast.natCast (List.length xs1.1)) - (4 : Int)))))
      (cond (decide ((Go.IntKind.wrap Go.IntKind.i64 ((NatCast.natCast (List.length xs1.1)) - (4 : Int))) ≤ (NatCast.natCast (List.length xs1.1))))
        (Option.bind (F24 k0 ((List.drop (Int.toNat (Go.IntKind.wrap Go.IntKind.i64 ((NatCast.natCast (List.length xs1.1)) - (4 : Int)))) xs1.1), ()))
        (fun (ys2 : (Int × (Int × Unit))) =>
          cond (decide ((Go.IntKind.wrap Go.IntKind.u64 (Go.IntKind.wrap Go.IntKind.i64 (Int.tdiv (Go.IntKind.wrap Go.IntKind.i64 ((NatCast.natCast (List.length xs1.1)) - (4 : Int))) (4 : Int)))) < (Go.IntKind.wrap Go.IntKind.u64 ys2.1)))
            (some (([] : (List ((List Int) × (List Int)))), ((72 : Int), ())))
            (cond (decide ((Go.IntKind.wrap Go.IntKind.i64 ((Go.IntKind.wrap Go.IntKind.i64 ((NatCast.natCast (List.length xs1.1)) - (4 : Int))) - (Go.IntKind.wrap Go.IntKind.i64 ((4 : Int) * (Go.IntKind.wrap Go.IntKind.i64 ys2.1))))) = (Go.IntKind.wrap Go.IntKind.i64 ((Go.IntKind.wrap Go.IntKind.i64 ((NatCast.natCast (List.length xs1.1)) - (4 : Int))) - (Go.IntKind.wrap Go.IntKind.i64 ((4 : Int) * (Go.IntKind.wrap Go.IntKind.i64 ys2.1)))))))
              (cond (decide ((0 : Int) ≤ (Go.IntKind.wrap Go.IntKind.i64 ((Go.IntKind.wrap Go.IntKind.i64 ((NatCast.natCast (List.length xs1.1)) - (4 : Int))) - (Go.IntKind.wrap Go.IntKind.i64 ((4 : Int) * (Go.IntKind.wrap Go.IntKind.i64 ys2.1)))))))
                (cond (decide ((Go.IntKind.wrap Go.IntKind.i64 ((Go.IntKind.wrap Go.IntKind.i64 ((NatCast.natCast (List.length xs1.1)) - (4 : Int))) - (Go.IntKind.wrap Go.IntKind.i64 ((4 : Int) * (Go.IntKind.wrap Go.IntKind.i64 ys2.1))))) ≤ (NatCast.natCast (List.length xs1.1))))
                  (ajoin (τ := ((Int × ((List Int) × (Int × (Unit × (Int × Unit))))) × (Unit × (((List Int) × (Int × (Bool × Unit))) × Unit)))) (R := ((List ((List Int) × (List Int))) × (Int × Unit))) (
                    fun (k3 : (((Int × ((List Int) × (Int × (Unit × (Int × Unit))))) × (Unit × (((List Int) × (Int × (Bool × Unit))) × Unit))) → (Option ((List ((List Int) × (List Int))) × (Int × Unit))))) =>
                    cond (decide ((1 : Int) < ys2.1))
                      (cond (decide ((0 : Int) ≤ (Go.IntKind.wrap Go.IntKind.i64 ((NatCast.natCast (List.length (List.take (Int.toNat (Go.IntKind.wrap Go.IntKind.i64 ((Go.IntKind.wrap Go.IntKind.i64 ((NatCast.natCast (List.length xs1.1)) - (4 : Int))) - (Go.IntKind.wrap Go.IntKind.i64 ((4 : Int) * (Go.IntKind.wrap Go.IntKind.i64 ys2.1)))))) xs1.1))) + (4 : Int)))))
                        (cond (decide ((Go.IntKind.wrap Go.IntKind.i64 ((NatCast.natCast (List.length (List.take (Int.toNat (Go.IntKind.wrap Go.IntKind.i64 ((Go.IntKind.wrap Go.IntKind.i64 ((NatCast.natCast (List.length xs1.1)) - (4 : Int))) - (Go.IntKind.wrap Go.IntKind.i64 ((4 : Int) * (Go.IntKind.wrap Go.IntKind.i64 ys2.1)))))) xs1.1))) + (4 : Int))) ≤ (NatCast.natCast (List.length xs1.1))))
                          (Option.bind (F24 k0 ((List.drop (Int.toNat (Go.IntKind.wrap Go.IntKind.i64 ((NatCast.natCast (List.length (List.take (Int.toNat (Go.IntKind.wrap Go.IntKind.i64 ((Go.IntKind.wrap Go.IntKind.i64 ((NatCast.natCast (List.length xs1.1)) - (4 : Int))) - (Go.IntKind.wrap Go.IntKind.i64 ((4 : Int) * (Go.IntKind.wrap Go.IntKind.i64 ys2.1)))))) xs1.1))) + (4 : Int)))) xs1.1), ()))
                          (fun (ys4 : (Int × (Int × Unit))) =>
                            k3 ((ys4.1, (xs1.1, (ys2.1, ((), ((0 : Int), ()))))), ((), (((List.take (Int.toNat (Go.IntKind.wrap Go.IntKind.i64 ((Go.IntKind.wrap Go.IntKind.i64 ((NatCast.natCast (List.length xs1.1)) - (4 : Int))) - (Go.IntKind.wrap Go.IntKind.i64 ((4 : Int) * (Go.IntKind.wrap Go.IntKind.i64 ys2.1)))))) xs1.1), ((0 : Int), (false, ()))), ())))))
                          (none))
                        (none))
                      (k3 (((0 : Int), (xs1.1, (ys2.1, ((), ((0 : Int), ()))))), ((), (((List.take (Int.toNat (Go.IntKind.wrap Go.IntKind.i64 ((Go.IntKind.wrap Go.IntKind.i64 ((NatCast.natCast (List.length xs1.1)) - (4 : Int))) - (Go.IntKind.wrap Go.IntKind.i64 ((4 : Int) * (Go.IntKind.wrap Go.IntKind.i64 ys2.1)))))) xs1.1), ((0 : Int), (false, ()))), ())))))
                  (fun (t3 : ((Int × ((List Int) × (Int × (Unit × (Int × Unit))))) × (Unit × (((List Int) × (Int × (Bool × Unit))) × Unit)))) =>
                    iter (R := ((List ((List Int) × (List Int))) × (Int × Unit))) (τ := ((Int × (Unit × ((List Int) × ((List Int) × (Int × (Unit × (Int × Unit))))))) × (Unit × (((List Int) × (Int × (Bool × Unit))) × ((List ((List Int) × (List Int))) × Unit))))) (
                      fun (t4 : ((Int × (Unit × ((List Int) × ((List Int) × (Int × (Unit × (Int × Unit))))))) × (Unit × (((List Int) × (Int × (Bool × Unit))) × ((List ((List Int) × (List Int))) × Unit))))) =>
                      fun (next5 : (((Int × (Unit × ((List Int) × ((List Int) × (Int × (Unit × (Int × Unit))))))) × (Unit × (((List Int) × (Int × (Bool × Unit))) × ((List ((List Int) × (List Int))) × Unit)))) → (Option ((List ((List Int) × (List Int))) × (Int × Unit))))) =>
                      cond (decide (t4.2.2.1.2.1 < (NatCast.natCast (List.length t4.2.2.1.1))))
                        (ajoin (τ := ((Int × ((List Int) × (Int × (Unit × (Int × (Unit × ((List Int) × Unit))))))) × (Unit × ((List ((List Int) × (List Int))) × (((List Int) × (Int × (Bool × Unit))) × Unit))))) (R := ((List ((List Int) × (List Int))) × (Int × Unit))) (
                          fun (k6 : (((Int × ((List Int) × (Int × (Unit × (Int × (Unit × ((List Int) × Unit))))))) × (Unit × ((List ((List Int) × (List Int))) × (((List Int) × (Int × (Bool × Unit))) × Unit)))) → (Option ((List ((List Int) × (List Int))) × (Int × Unit))))) =>
                          cond (decide ((1 : Int) < t4.1.2.2.2.2.1))
                            (cond (t4.2.2.1.2.1 == (Go.IntKind.wrap Go.IntKind.i64 t4.1.2.2.2.2.2.2.1))
                              (k6 (((NatCast.natCast (List.length t4.2.2.2.1)), (t4.1.2.2.2.1, (t4.1.2.2.2.2.1, ((), (t4.1.2.2.2.2.2.2.1, ((), (t4.1.2.2.1, ()))))))), ((), (t4.2.2.2.1, ((t4.2.2.1.1, (t4.2.2.1.2.1, (t4.2.2.1.2.2.1, ()))), ())))))
                              (k6 ((t4.1.1, (t4.1.2.2.2.1, (t4.1.2.2.2.2.1, ((), (t4.1.2.2.2.2.2.2.1, ((), (t4.1.2.2.1, ()))))))), ((), (t4.2.2.2.1, ((t4.2.2.1.1, (t4.2.2.1.2.1, (t4.2.2.1.2.2.1, ()))), ()))))))
                            (k6 ((t4.1.1, (t4.1.2.2.2.1, (t4.1.2.2.2.2.1, ((), (t4.1.2.2.2.2.2.2.1, ((), (t4.1.2.2.1, ()))))))), ((), (t4.2.2.2.1, ((t4.2.2.1.1, (t4.2.2.1.2.1, (t4.2.2.1.2.2.1, ()))), ()))))))
                        (fun (t6 : ((Int × ((List Int) × (Int × (Unit × (Int × (Unit × ((List Int) × Unit))))))) × (Unit × ((List ((List Int) × (List Int))) × (((List Int) × (Int × (Bool × Unit))) × Unit))))) =>
                          ajoin (τ := ((((List Int) × ((List Int) × Unit)) × Unit) × (((List Int) × (Int × (Unit × (Int × (Int × (Unit × ((List Int) × (Unit × ((List Int) × Unit))))))))) × ((List ((List Int) × (List Int))) × (((List Int) × (Int × (Bool × Unit))) × Unit))))) (R := ((List ((List Int) × (List Int))) × (Int × Unit))) (
                            fun (k7 : (((((List Int) × ((List Int) × Unit)) × Unit) × (((List Int) × (Int × (Unit × (Int × (Int × (Unit × ((List Int) × (Unit × ((List Int) × Unit))))))))) × ((List ((List Int) × (List Int))) × (((List Int) × (Int × (Bool × Unit))) × Unit)))) → (Option ((List ((List Int) × (List Int))) × (Int × Unit))))) =>
                            ajoin (τ := ((Int × (Int × (Int × (Unit × ((List Int) × (Unit × (((Unit × Unit) × Unit) × Unit))))))) × (((List Int) × (Int × (Unit × (Int × (Int × (Unit × ((List Int) × (Unit × ((List Int) × Unit))))))))) × ((List ((List Int) × (List Int))) × ((Unit × (Unit × Unit)) × (((List Int) × (Int × (Bool × Unit))) × Unit)))))) (R := ((List ((List Int) × (List Int))) × (Int × Unit))) (
                              fun (k8 : (((Int × (Int × (Int × (Unit × ((List Int) × (Unit × (((Unit × Unit) × Unit) × Unit))))))) × (((List Int) × (Int × (Unit × (Int × (Int × (Unit × ((List Int) × (Unit × ((List Int) × Unit))))))))) × ((List ((List Int) × (List Int))) × ((Unit × (Unit × Unit)) × (((List Int) × (Int × (Bool × Unit))) × Unit))))) → (Option ((List ((List Int) × (List Int))) × (Int × Unit))))) =>
                              ajoin (τ := ((Int × Unit) × ((Unit × ((List Int) × (Unit × (((Unit × Unit) × Unit) × (((Unit × Unit) × Unit) × (((Unit × Unit) × Unit) × ((List Int) × (Int × (Unit × (Int × (Int × (Unit × ((List Int) × (Unit × ((List Int) × Unit))))))))))))))) × ((List ((List Int) × (List Int))) × ((Unit × (Unit × Unit)) × (((List Int) × (Int × (Bool × Unit))) × Unit)))))) (R := ((List ((List Int) × (List Int))) × (Int × Unit))) (
                                fun (k9 : (((Int × Unit) × ((Unit × ((List Int) × (Unit × (((Unit × Unit) × Unit) × (((Unit × Unit) × Unit) × (((Unit × Unit) × Unit) × ((List Int) × (Int × (Unit × (Int × (Int × (Unit × ((List Int) × (Unit × ((List Int) × Unit))))))))))))))) × ((List ((List Int) × (List Int))) × ((Unit × (Unit × Unit)) × (((List Int) × (Int × (Bool × Unit))) × Unit))))) → (Option ((List ((List Int) × (List Int))) × (Int × Unit))))) =>
                                cond (decide ((0 : Int) ≤ t6.2.2.2.1.2.1))
                                  (cond (decide (t6.2.2.2.1.2.1 ≤ (NatCast.natCast (List.length t6.2.2.2.1.1))))
                                    (Option.bind (F41 k0 ((List.drop (Int.toNat t6.2.2.2.1.2.1) t6.2.2.2.1.1), ()))
                                    (fun (ys10 : (Int × (Int × (Int × Unit)))) =>
                                      cond (bne ys10.2.2.1 (0 : Int))
                                        (k9 (((0 : Int), ()), (((), (t6.1.2.2.2.2.2.2.1, ((), ((((), ()), ()), ((((), ()), ()), ((((), ()), ()), (t6.1.2.1, (t6.1.2.2.1, ((), (t6.1.1, (t6.1.2.2.2.2.1, ((), (t6.1.2.2.2.2.2.2.1, ((), (t6.1.2.2.2.2.2.2.1, ()))))))))))))))), (t6.2.2.1, (((), ((), ())), ((t6.2.2.2.1.1, ((Go.IntKind.wrap Go.IntKind.i64 (t6.2.2.2.1.2.1 + ys10.2.1)), (true, ()))), ()))))))
                                        (cond (decide ((Go.IntKind.wrap Go.IntKind.u64 (NatCast.natCast (List.length t6.2.2.2.1.1))) < ys10.1))
                                          (k9 (((0 : Int), ()), (((), (t6.1.2.2.2.2.2.2.1, ((), ((((), ()), ()), ((((), ()), ()), ((((), ()), ()), (t6.1.2.1, (t6.1.2.2.1, ((), (t6.1.1, (t6.1.2.2.2.2.1, ((), (t6.1.2.2.2.2.2.2.1, ((), (t6.1.2.2.2.2.2.2.1, ()))))))))))))))), (t6.2.2.1, (((), ((), ())), ((t6.2.2.2.1.1, ((Go.IntKind.wrap Go.IntKind.i64 (t6.2.2.2.1.2.1 + ys10.2.1)), (true, ()))), ()))))))
                                          (k9 (((Go.IntKind.wrap Go.IntKind.i64 ys10.1), ()), (((), (t6.1.2.2.2.2.2.2.1, ((), ((((), ()), ()), ((((), ()), ()), ((((), ()), ()), (t6.1.2.1, (t6.1.2.2.1, ((), (t6.1.1, (t6.1.2.2.2.2.1, ((), (t6.1.2.2.2.2.2.2.1, ((), (t6.1.2.2.2.2.2.2.1, ()))))))))))))))), (t6.2.2.1, (((), ((), ())), ((t6.2.2.2.1.1, ((Go.IntKind.wrap Go.IntKind.i64 (t6.2.2.2.1.2.1 + ys10.2.1)), (t6.2.2.2.1.2.2.1, ()))), ())))))))))
                                    (none))
                                  (none))
                              (fun (t9 : ((Int × Unit) × ((Unit × ((List Int) × (Unit × (((Unit × Unit) × Unit) × (((Unit × Unit) × Unit) × (((Unit × Unit) × Unit) × ((List Int) × (Int × (Unit × (Int × (Int × (Unit × ((List Int) × (Unit × ((List Int) × Unit))))))))))))))) × ((List ((List Int) × (List Int))) × ((Unit × (Unit × Unit)) × (((List Int) × (Int × (Bool × Unit))) × Unit)))))) =>
                                ajoin (τ := ((Int × Unit) × ((Unit × ((List Int) × (Unit × (((Unit × Unit) × Unit) × (((Unit × Unit) × Unit) × (((Unit × Unit) × Unit) × (Int × (((Unit × Unit) × Unit) × ((List Int) × (Int × (Unit × (Int × (Int × (Unit × ((List Int) × (Unit × ((List Int) × Unit))))))))))))))))) × ((List ((List Int) × (List Int))) × ((Unit × (Unit × Unit)) × (((List Int) × (Int × (Bool × Unit))) × Unit)))))) (R := ((List ((List Int) × (List Int))) × (Int × Unit))) (
                                  fun (k10 : (((Int × Unit) × ((Unit × ((List Int) × (Unit × (((Unit × Unit) × Unit) × (((Unit × Unit) × Unit) × (((Unit × Unit) × Unit) × (Int × (((Unit × Unit) × Unit) × ((List Int) × (Int × (Unit × (Int × (Int × (Unit × ((List Int) × (Unit × ((List Int) × Unit))))))))))))))))) × ((List ((List Int) × (List Int))) × ((Unit × (Unit × Unit)) × (((List Int) × (Int × (Bool × Unit))) × Unit))))) → (Option ((List ((List Int) × (List Int))) × (Int × Unit))))) =>
                                  cond (decide ((0 : Int) ≤ t9.2.2.2.2.1.2.1))
                                    (cond (decide (t9.2.2.2.2.1.2.1 ≤ (NatCast.natCast (List.length t9.2.2.2.2.1.1))))
                                      (Option.bind (F41 k0 ((List.drop (Int.toNat t9.2.2.2.2.1.2.1) t9.2.2.2.2.1.1), ()))
                                      (fun (ys11 : (Int × (Int × (Int × Unit)))) =>
                                        cond (bne ys11.2.2.1 (0 : Int))
                                          (k10 (((0 : Int), ()), (((), (t9.2.1.2.1, ((), ((((), ()), ()), ((((), ()), ()), ((((), ()), ()), (t9.1.1, ((((), ()), ()), (t9.2.1.2.2.2.2.2.2.1, (t9.2.1.2.2.2.2.2.2.2.1, ((), (t9.2.1.2.2.2.2.2.2.2.2.2.1, (t9.2.1.2.2.2.2.2.2.2.2.2.2.1, ((), (t9.2.1.2.2.2.2.2.2.2.2.2.2.2.2.1, ((), (t9.2.1.2.2.2.2.2.2.2.2.2.2.2.2.2.2.1, ()))))))))))))))))), (t9.2.2.1, (((), ((), ())), ((t9.2.2.2.2.1.1, ((Go.IntKind.wrap Go.IntKind.i64 (t9.2.2.2.2.1.2.1 + ys11.2.1)), (true, ()))), ()))))))
                                          (cond (decide ((Go.IntKind.wrap Go.IntKind.u64 (NatCast.natCast (List.length t9.2.2.2.2.1.1))) < ys11.1))
                                            (k10 (((0 : Int), ()), (((), (t9.2.1.2.1, ((), ((((), ()), ()), ((((), ()), ()), ((((), ()), ()), (t9.1.1, ((((), ()), ()), (t9.2.1.2.2.2.2.2.2.1, (t9.2.1.2.2.2.2.2.2.2.1, ((), (t9.2.1.2.2.2.2.2.2.2.2.2.1, (t9.2.1.2.2.2.2.2.2.2.2.2.2.1, ((), (t9.2.1.2.2.2.2.2.2.2.2.2.2.2.2.1, ((), (t9.2.1.2.2.2.2.2.2.2.2.2.2.2.2.2.2.1, ()))))))))))))))))), (t9.2.2.1, (((), ((), ())), ((t9.2.2.2.2.1.1, ((Go.IntKind.wrap Go.IntKind.i64 (t9.2.2.2.2.1.2.1 + ys11.2.1)), (true, ()))), ()))))))
                                            (k10 (((Go.IntKind.wrap Go.IntKind.i64 ys11.1), ()), (((), (t9.2.1.2.1, ((), ((((), ()), ()), ((((), ()), ()), ((((), ()), ()), (t9.1.1, ((((), ()), ()), (t9.2.1.2.2.2.2.2.2.1, (t9.2.1.2.2.2.2.2.2.2.1, ((), (t9.2.1.2.2.2.2.2.2.2.2.2.1, (t9.2.1.2.2.2.2.2.2.2.2.2.2.1, ((), (t9.2.1.2.2.2.2.2.2.2.2.2.2.2.2.1, ((), (t9.2.1.2.2.2.2.2.2.2.2.2.2.2.2.2.2.1, ()))))))))))))))))), (t9.2.2.1, (((), ((), ())), ((t9.2.2.2.2.1.1, ((Go.IntKind.wrap Go.IntKind.i64 (t9.2.2.2.2.1.2.1 + ys11.2.1)), (t9.2.2.2.2.1.2.2.1, ()))), ())))))))))
                                      (none))
                                    (none))
                                (fun (t10 : ((Int × Unit) × ((Unit × ((List Int) × (Unit × (((Unit × Unit) × Unit) × (((Unit × Unit) × Unit) × (((Unit × Unit) × Unit) × (Int × (((Unit × Unit) × Unit) × ((List Int) × (Int × (Unit × (Int × (Int × (Unit × ((List Int) × (Unit × ((List Int) × Unit))))))))))))))))) × ((List ((List Int) × (List Int))) × ((Unit × (Unit × Unit)) × (((List Int) × (Int × (Bool × Unit))) × Unit)))))) =>
                                  ajoin (τ := ((Int × Unit) × ((Unit × ((List Int) × (Unit × (((Unit × Unit) × Unit) × (((Unit × Unit) × Unit) × (((Unit × Unit) × Unit) × (Int × (((Unit × Unit) × Unit) × (Int × (((Unit × Unit) × Unit) × ((List Int) × (Int × (Unit × (Int × (Int × (Unit × ((List Int) × (Unit × ((List Int) × Unit))))))))))))))))))) × ((List ((List Int) × (List Int))) × ((Unit × (Unit × Unit)) × (((List Int) × (Int × (Bool × Unit))) × Unit)))))) (R := ((List ((List Int) × (List Int))) × (Int × Unit))) (
                                    fun (k11 : (((Int × Unit) × ((Unit × ((List Int) × (Unit × (((Unit × Unit) × Unit) × (((Unit × Unit) × Unit) × (((Unit × Unit) × Unit) × (Int × (((Unit × Unit) × Unit) × (Int × (((Unit × Unit) × Unit) × ((List Int) × (Int × (Unit × (Int × (Int × (Unit × ((List Int) × (Unit × ((List Int) × Unit))))))))))))))))))) × ((List ((List Int) × (List Int))) × ((Unit × (Unit × Unit)) × (((List Int) × (Int × (Bool × Unit))) × Unit))))) → (Option ((List ((List Int) × (List Int))) × (Int × Unit))))) =>
                                    cond (decide ((0 : Int) ≤ t10.2.2.2.2.1.2.1))
                                      (cond (decide (t10.2.2.2.2.1.2.1 ≤ (NatCast.natCast (List.length t10.2.2.2.2.1.1))))
                                        (Option.bind (F41 k0 ((List.drop (Int.toNat t10.2.2.2.2.1.2.1) t10.2.2.2.2.1.1), ()))
                                        (fun (ys12 : (Int × (Int × (Int × Unit)))) =>
                                          cond (bne ys12.2.2.1 (0 : Int))
                                            (k11 (((0 : Int), ()), (((), (t10.2.1.2.1, ((), ((((), ()), ()), ((((), ()), ()), ((((), ()), ()), (t10.2.1.2.2.2.2.2.2.1, ((((), ()), ()), (t10.1.1, ((((), ()), ()), (t10.2.1.2.2.2.2.2.2.2.2.1, (t10.2.1.2.2.2.2.2.2.2.2.2.1, ((), (t10.2.1.2.2.2.2.2.2.2.2.2.2.2.1, (t10.2.1.2.2.2.2.2.2.2.2.2.2.2.2.1, ((), (t10.2.1.2.2.2.2.2.2.2.2.2.2.2.2.2.2.1, ((), (t10.2.1.2.2.2.2.2.2.2.2.2.2.2.2.2.2.2.2.1, ()))))))))))))))))))), (t10.2.2.1, (((), ((), ())), ((t10.2.2.2.2.1.1, ((Go.IntKind.wrap Go.IntKind.i64 (t10.2.2.2.2.1.2.1 + ys12.2.1)), (true, ()))), ()))))))
                                            (cond (decide ((Go.IntKind.wrap Go.IntKind.u64 (NatCast.natCast (List.length t10.2.2.2.2.1.1))) < ys12.1))
                                              (k11 (((0 : Int), ()), (((), (t10.2.1.2.1, ((), ((((), ()), ()), ((((), ()), ()), ((((), ()), ()), (t10.2.1.2.2.2.2.2.2.1, ((((), ()), ()), (t10.1.1, ((((), ()), ()), (t10.2.1.2.2.2.2.2.2.2.2.1, (t10.2.1.2.2.2.2.2.2.2.2.2.1, ((), (t10.2.1.2.2.2.2.2.2.2.2.2.2.2.1, (t10.2.1.2.2.2.2.2.2.2.2.2.2.2.2.1, ((), (t10.2.1.2.2.2.2.2.2.2.2.2.2.2.2.2.2.1, ((), (t10.2.1.2.2.2.2.2.2.2.2.2.2.2.2.2.2.2.2.1, ()))))))))))))))))))), (t10.2.2.1, (((), ((), ())), ((t10.2.2.2.2.1.1, ((Go.IntKind.wrap Go.IntKind.i64 (t10.2.2.2.2.1.2.1 + ys12.2.1)), (true, ()))), ()))))))
                                              (k11 (((Go.IntKind.wrap Go.IntKind.i64 ys12.1), ()), (((), (t10.2.1.2.1, ((), ((((), ()), ()), ((((), ()), ()), ((((), ()), ()), (t10.2.1.2.2.2.2.2.2.1, ((((), ()), ()), (t10.1.1, ((((), ()), ()), (t10.2.1.2.2.2.2.2.2.2.2.1, (t10.2.1.2.2.2.2.2.2.2.2.2.1, ((), (t10.2.1.2.2.2.2.2.2.2.2.2.2.2.1, (t10.2.1.2.2.2.2.2.2.2.2.2.2.2.2.1, ((), (t10.2.1.2.2.2.2.2.2.2.2.2.2.2.2.2.2.1, ((), (t10.2.1.2.2.2.2.2.2.2.2.2.2.2.2.2.2.2.2.1, ()))))))))))))))))))), (t10.2.2.1, (((), ((), ())), ((t10.2.2.2.2.1.1, ((Go.IntKind.wrap Go.IntKind.i64 (t10.2.2.2.2.1.2.1 + ys12.2.1)), (t10.2.2.2.2.1.2.2.1, ()))), ())))))))))
                                        (none))
                                      (none))
                                  (fun (t11 : ((Int × Unit) × ((Unit × ((List Int) × (Unit × (((Unit × Unit) × Unit) × (((Unit × Unit) × Unit) × (((Unit × Unit) × Unit) × (Int × (((Unit × Unit) × Unit) × (Int × (((Unit × Unit) × Unit) × ((List Int) × (Int × (Unit × (Int × (Int × (Unit × ((List Int) × (Unit × ((List Int) × Unit))))))))))))))))))) × ((List ((List Int) × (List Int))) × ((Unit × (Unit × Unit)) × (((List Int) × (Int × (Bool × Unit))) × Unit)))))) =>
                                    k8 ((t11.2.1.2.2.2.2.2.2.1, (t11.2.1.2.2.2.2.2.2.2.2.1, (t11.1.1, ((), (t11.2.1.2.1, ((), ((((), ()), ()), ()))))))), ((t11.2.1.2.2.2.2.2.2.2.2.2.2.1, (t11.2.1.2.2.2.2.2.2.2.2.2.2.2.1, ((), (t11.2.1.2.2.2.2.2.2.2.2.2.2.2.2.2.1, (t11.2.1.2.2.2.2.2.2.2.2.2.2.2.2.2.2.1, ((), (t11.2.1.2.2.2.2.2.2.2.2.2.2.2.2.2.2.2.2.1, ((), (t11.2.1.2.2.2.2.2.2.2.2.2.2.2.2.2.2.2.2.2.2.1, ()))))))))), (t11.2.2.1, (((), ((), ())), ((t11.2.2.2.2.1.1, (t11.2.2.2.2.1.2.1, (t11.2.2.2.2.1.2.2.1, ()))), ())))))))))
                            (fun (t8 : ((Int × (Int × (Int × (Unit × ((List Int) × (Unit × (((Unit × Unit) × Unit) × Unit))))))) × (((List Int) × (Int × (Unit × (Int × (Int × (Unit × ((List Int) × (Unit × ((List Int) × Unit))))))))) × ((List ((List Int) × (List Int))) × ((Unit × (Unit × Unit)) × (((List Int) × (Int × (Bool × Unit))) × Unit)))))) =>
                              ajoin (τ := ((Unit × ((List Int) × (Unit × (((Unit × Unit) × Unit) × (Int × (Int × (Int × Unit))))))) × (((List Int) × (Int × (Unit × (Int × (Int × (Unit × ((List Int) × (Unit × ((List Int) × Unit))))))))) × ((List ((List Int) × (List Int))) × ((Unit × (Unit × Unit)) × (((List Int) × (Int × (Bool × Unit))) × Unit)))))) (R := ((List ((List Int) × (List Int))) × (Int × Unit))) (
                                fun (k9 : (((Unit × ((List Int) × (Unit × (((Unit × Unit) × Unit) × (Int × (Int × (Int × Unit))))))) × (((List Int) × (Int × (Unit × (Int × (Int × (Unit × ((List Int) × (Unit × ((List Int) × Unit))))))))) × ((List ((List Int) × (List Int))) × ((Unit × (Unit × Unit)) × (((List Int) × (Int × (Bool × Unit))) × Unit))))) → (Option ((List ((List Int) × (List Int))) × (Int × Unit))))) =>
                                cond (decide ((NatCast.natCast (List.length t8.1.2.2.2.2.1)) < t8.1.1))
                                  (k9 (((), (t8.1.2.2.2.2.1, ((), ((((), ()), ()), (t8.1.1, (t8.1.2.1, (t8.1.2.2.1, ()))))))), ((t8.2.1.1, (t8.2.1.2.1, ((), (t8.2.1.2.2.2.1, (t8.2.1.2.2.2.2.1, ((), (t8.2.1.2.2.2.2.2.2.1, ((), (t8.2.1.2.2.2.2.2.2.2.2.1, ()))))))))), (t8.2.2.1, (((), ((), ())), ((t8.2.2.2.2.1.1, (t8.2.2.2.2.1.2.1, (true, ()))), ()))))))
                                  (k9 (((), (t8.1.2.2.2.2.1, ((), ((((), ()), ()), (t8.1.1, (t8.1.2.1, (t8.1.2.2.1, ()))))))), ((t8.2.1.1, (t8.2.1.2.1, ((), (t8.2.1.2.2.2.1, (t8.2.1.2.2.2.2.1, ((), (t8.2.1.2.2.2.2.2.2.1, ((), (t8.2.1.2.2.2.2.2.2.2.2.1, ()))))))))), (t8.2.2.1, (((), ((), ())), ((t8.2.2.2.2.1.1, (t8.2.2.2.2.1.2.1, (t8.2.2.2.2.1.2.2.1, ()))), ())))))))
                              (fun (t9 : ((Unit × ((List Int) × (Unit × (((Unit × Unit) × Unit) × (Int × (Int × (Int × Unit))))))) × (((List Int) × (Int × (Unit × (Int × (Int × (Unit × ((List Int) × (Unit × ((List Int) × Unit))))))))) × ((List ((List Int) × (List Int))) × ((Unit × (Unit × Unit)) × (((List Int) × (Int × (Bool × Unit))) × Unit)))))) =>
                                ajoin (τ := (((List Int) × ((List Int) × (Unit × ((List Int) × (Unit × (Int × Unit)))))) × (((List Int) × (Int × (Unit × (Int × (Int × (Unit × ((List Int) × (Unit × ((List Int) × Unit))))))))) × ((List ((List Int) × (List Int))) × ((Unit × (Unit × Unit)) × (((List Int) × (Int × (Bool × Unit))) × Unit)))))) (R := ((List ((List Int) × (List Int))) × (Int × Unit))) (
                                  fun (k10 : ((((List Int) × ((List Int) × (Unit × ((List Int) × (Unit × (Int × Unit)))))) × (((List Int) × (Int × (Unit × (Int × (Int × (Unit × ((List Int) × (Unit × ((List Int) × Unit))))))))) × ((List ((List Int) × (List Int))) × ((Unit × (Unit × Unit)) × (((List Int) × (Int × (Bool × Unit))) × Unit))))) → (Option ((List ((List Int) × (List Int))) × (Int × Unit))))) =>
                                  ajoin (τ := (((List Int) × Unit) × ((Unit × ((List Int) × (Unit × (((Unit × Unit) × Unit) × (Int × (Int × (Int × (((Unit × Unit) × Unit) × (Int × ((List Int) × (Int × (Unit × (Int × (Int × (Unit × ((List Int) × (Unit × ((List Int) × Unit)))))))))))))))))) × ((List ((List Int) × (List Int))) × ((Unit × (Unit × Unit)) × (((List Int) × (Int × (Bool × Unit))) × Unit)))))) (R := ((List ((List Int) × (List Int))) × (Int × Unit))) (
                                    fun (k11 : ((((List Int) × Unit) × ((Unit × ((List Int) × (Unit × (((Unit × Unit) × Unit) × (Int × (Int × (Int × (((Unit × Unit) × Unit) × (Int × ((List Int) × (Int × (Unit × (Int × (Int × (Unit × ((List Int) × (Unit × ((List Int) × Unit)))))))))))))))))) × ((List ((List Int) × (List Int))) × ((Unit × (Unit × Unit)) × (((List Int) × (Int × (Bool × Unit))) × Unit))))) → (Option ((List ((List Int) × (List Int))) × (Int × Unit))))) =>
                                    cond t9.2.2.2.2.1.2.2.1
                                      (k11 ((([] : (List Int)), ()), (((), (t9.1.2.1, ((), ((((), ()), ()), (t9.1.2.2.2.2.1, (t9.1.2.2.2.2.2.1, (t9.1.2.2.2.2.2.2.1, ((((), ()), ()), (t9.1.2.2.2.2.2.1, (t9.2.1.1, (t9.2.1.2.1, ((), (t9.2.1.2.2.2.1, (t9.2.1.2.2.2.2.1, ((), (t9.2.1.2.2.2.2.2.2.1, ((), (t9.2.1.2.2.2.2.2.2.2.2.1, ())))))))))))))))))), (t9.2.2.1, (((), ((), ())), ((t9.2.2.2.2.1.1, (t9.2.2.2.2.1.2.1, (true, ()))), ()))))))
                                      (cond (decide ((Go.IntKind.wrap Go.IntKind.i64 ((NatCast.natCast (List.length t9.2.2.2.2.1.1)) - t9.2.2.2.2.1.2.1)) < t9.1.2.2.2.2.2.1))
                                        (k11 ((([] : (List Int)), ()), (((), (t9.1.2.1, ((), ((((), ()), ()), (t9.1.2.2.2.2.1, (t9.1.2.2.2.2.2.1, (t9.1.2.2.2.2.2.2.1, ((((), ()), ()), (t9.1.2.2.2.2.2.1, (t9.2.1.1, (t9.2.1.2.1, ((), (t9.2.1.2.2.2.1, (t9.2.1.2.2.2.2.1, ((), (t9.2.1.2.2.2.2.2.2.1, ((), (t9.2.1.2.2.2.2.2.2.2.2.1, ())))))))))))))))))), (t9.2.2.1, (((), ((), ())), ((t9.2.2.2.2.1.1, (t9.2.2.2.2.1.2.1, (true, ()))), ()))))))
                                        (cond (decide ((Go.IntKind.wrap Go.IntKind.i64 (t9.2.2.2.2.1.2.1 + t9.1.2.2.2.2.2.1)) = (Go.IntKind.wrap Go.IntKind.i64 (t9.2.2.2.2.1.2.1 + t9.1.2.2.2.2.2.1))))
                                          (cond (decide ((0 : Int) ≤ (Go.IntKind.wrap Go.IntKind.i64 ((Go.IntKind.wrap Go.IntKind.i64 (t9.2.2.2.2.1.2.1 + t9.1.2.2.2.2.2.1)) - t9.1.2.2.2.2.2.1))))
                                            (cond (decide ((Go.IntKind.wrap Go.IntKind.i64 ((Go.IntKind.wrap Go.IntKind.i64 (t9.2.2.2.2.1.2.1 + t9.1.2.2.2.2.2.1)) - t9.1.2.2.2.2.2.1)) ≤ (Go.IntKind.wrap Go.IntKind.i64 (t9.2.2.2.2.1.2.1 + t9.1.2.2.2.2.2.1))))
                                              (cond (decide ((Go.IntKind.wrap Go.IntKind.i64 (t9.2.2.2.2.1.2.1 + t9.1.2.2.2.2.2.1)) ≤ (NatCast.natCast (List.length t9.2.2.2.2.1.1))))
                                                (k11 (((List.drop (Int.toNat (Go.IntKind.wrap Go.IntKind.i64 ((Go.IntKind.wrap Go.IntKind.i64 (t9.2.2.2.2.1.2.1 + t9.1.2.2.2.2.2.1)) - t9.1.2.2.2.2.2.1))) (List.take (Int.toNat (Go.IntKind.wrap Go.IntKind.i64 (t9.2.2.2.2.1.2.1 + t9.1.2.2.2.2.2.1))) t9.2.2.2.2.1.1)), ()), (((), (t9.1.2.1, ((), ((((), ()), ()), (t9.1.2.2.2.2.1, (t9.1.2.2.2.2.2.1, (t9.1.2.2.2.2.2.2.1, ((((), ()), ()), (t9.1.2.2.2.2.2.1, (t9.2.1.1, (t9.2.1.2.1, ((), (t9.2.1.2.2.2.1, (t9.2.1.2.2.2.2.1, ((), (t9.2.1.2.2.2.2.2.2.1, ((), (t9.2.1.2.2.2.2.2.2.2.2.1, ())))))))))))))))))), (t9.2.2.1, (((), ((), ())), ((t9.2.2.2.2.1.1, ((Go.IntKind.wrap Go.IntKind.i64 (t9.2.2.2.2.1.2.1 + t9.1.2.2.2.2.2.1)), (t9.2.2.2.2.1.2.2.1, ()))), ()))))))
                                                (none))
                                              (none))
                                            (none))
                                          (none))))
                                  (fun (t11 : (((List Int) × Unit) × ((Unit × ((List Int) × (Unit × (((Unit × Unit) × Unit) × (Int × (Int × (Int × (((Unit × Unit) × Unit) × (Int × ((List Int) × (Int × (Unit × (Int × (Int × (Unit × ((List Int) × (Unit × ((List Int) × Unit)))))))))))))))))) × ((List ((List Int) × (List Int))) × ((Unit × (Unit × Unit)) × (((List Int) × (Int × (Bool × Unit))) × Unit)))))) =>
                                    ajoin (τ := (((List Int) × Unit) × ((Unit × ((List Int) × (Unit × (((Unit × Unit) × Unit) × (Int × (Int × (Int × (((Unit × Unit) × Unit) × (Int × ((List Int) × (((Unit × Unit) × Unit) × (Int × ((List Int) × (Int × (Unit × (Int × (Int × (Unit × ((List Int) × (Unit × ((List Int) × Unit))))))))))))))))))))) × ((List ((List Int) × (List Int))) × ((Unit × (Unit × Unit)) × (((List Int) × (Int × (Bool × Unit))) × Unit)))))) (R := ((List ((List Int) × (List Int))) × (Int × Unit))) (
                                      fun (k12 : ((((List Int) × Unit) × ((Unit × ((List Int) × (Unit × (((Unit × Unit) × Unit) × (Int × (Int × (Int × (((Unit × Unit) × Unit) × (Int × ((List Int) × (((Unit × Unit) × Unit) × (Int × ((List Int) × (Int × (Unit × (Int × (Int × (Unit × ((List Int) × (Unit × ((List Int) × Unit))))))))))))))))))))) × ((List ((List Int) × (List Int))) × ((Unit × (Unit × Unit)) × (((List Int) × (Int × (Bool × Unit))) × Unit))))) → (Option ((List ((List Int) × (List Int))) × (Int × Unit))))) =>
                                      cond t11.2.2.2.2.1.2.2.1
                                        (k12 ((([] : (List Int)), ()), (((), (t11.2.1.2.1, ((), ((((), ()), ()), (t11.2.1.2.2.2.2.1, (t11.2.1.2.2.2.2.2.1, (t11.2.1.2.2.2.2.2.2.1, ((((), ()), ()), (t11.2.1.2.2.2.2.2.2.2.2.1, (t11.1.1, ((((), ()), ()), (t11.2.1.2.2.2.2.2.2.1, (t11.2.1.2.2.2.2.2.2.2.2.2.1, (t11.2.1.2.2.2.2.2.2.2.2.2.2.1, ((), (t11.2.1.2.2.2.2.2.2.2.2.2.2.2.2.1, (t11.2.1.2.2.2.2.2.2.2.2.2.2.2.2.2.1, ((), (t11.2.1.2.2.2.2.2.2.2.2.2.2.2.2.2.2.2.1, ((), (t11.2.1.2.2.2.2.2.2.2.2.2.2.2.2.2.2.2.2.2.1, ()))))))))))))))))))))), (t11.2.2.1, (((), ((), ())), ((t11.2.2.2.2.1.1, (t11.2.2.2.2.1.2.1, (true, ()))), ()))))))
                                        (cond (decide ((Go.IntKind.wrap Go.IntKind.i64 ((NatCast.natCast (List.length t11.2.2.2.2.1.1)) - t11.2.2.2.2.1.2.1)) < t11.2.1.2.2.2.2.2.2.1))
                                          (k12 ((([] : (List Int)), ()), (((), (t11.2.1.2.1, ((), ((((), ()), ()), (t11.2.1.2.2.2.2.1, (t11.2.1.2.2.2.2.2.1, (t11.2.1.2.2.2.2.2.2.1, ((((), ()), ()), (t11.2.1.2.2.2.2.2.2.2.2.1, (t11.1.1, ((((), ()), ()), (t11.2.1.2.2.2.2.2.2.1, (t11.2.1.2.2.2.2.2.2.2.2.2.1, (t11.2.1.2.2.2.2.2.2.2.2.2.2.1, ((), (t11.2.1.2.2.2.2.2.2.2.2.2.2.2.2.1, (t11.2.1.2.2.2.2.2.2.2.2.2.2.2.2.2.1, ((), (t11.2.1.2.2.2.2.2.2.2.2.2.2.2.2.2.2.2.1, ((), (t11.2.1.2.2.2.2.2.2.2.2.2.2.2.2.2.2.2.2.2.1, ()))))))))))))))))))))), (t11.2.2.1, (((), ((), ())), ((t11.2.2.2.2.1.1, (t11.2.2.2.2.1.2.1, (true, ()))), ()))))))
                                          (cond (decide ((Go.IntKind.wrap Go.IntKind.i64 (t11.2.2.2.2.1.2.1 + t11.2.1.2.2.2.2.2.2.1)) = (Go.IntKind.wrap Go.IntKind.i64 (t11.2.2.2.2.1.2.1 + t11.2.1.2.2.2.2.2.2.1))))
                                            (cond (decide ((0 : Int) ≤ (Go.IntKind.wrap Go.IntKind.i64 ((Go.IntKind.wrap Go.IntKind.i64 (t11.2.2.2.2.1.2.1 + t11.2.1.2.2.2.2.2.2.1)) - t11.2.1.2.2.2.2.2.2.1))))
                                              (cond (decide ((Go.IntKind.wrap Go.IntKind.i64 ((Go.IntKind.wrap Go.IntKind.i64 (t11.2.2.2.2.1.2.1 + t11.2.1.2.2.2.2.2.2.1)) - t11.2.1.2.2.2.2.2.2.1)) ≤ (Go.IntKind.wrap Go.IntKind.i64 (t11.2.2.2.2.1.2.1 + t11.2.1.2.2.2.2.2.2.1))))
                                                (cond (decide ((Go.IntKind.wrap Go.IntKind.i64 (t11.2.2.2.2.1.2.1 + t11.2.1.2.2.2.2.2.2.1)) ≤ (NatCast.natCast (List.length t11.2.2.2.2.1.1))))
                                                  (k12 (((List.drop (Int.toNat (Go.IntKind.wrap Go.IntKind.i64 ((Go.IntKind.wrap Go.IntKind.i64 (t11.2.2.2.2.1.2.1 + t11.2.1.2.2.2.2.2.2.1)) - t11.2.1.2.2.2.2.2.2.1))) (List.take (Int.toNat (Go.IntKind.wrap Go.IntKind.i64 (t11.2.2.2.2.1.2.1 + t11.2.1.2.2.2.2.2.2.1))) t11.2.2.2.2.1.1)), ()), (((), (t11.2.1.2.1, ((), ((((), ()), ()), (t11.2.1.2.2.2.2.1, (t11.2.1.2.2.2.2.2.1, (t11.2.1.2.2.2.2.2.2.1, ((((), ()), ()), (t11.2.1.2.2.2.2.2.2.2.2.1, (t11.1.1, ((((), ()), ()), (t11.2.1.2.2.2.2.2.2.1, (t11.2.1.2.2.2.2.2.2.2.2.2.1, (t11.2.1.2.2.2.2.2.2.2.2.2.2.1, ((), (t11.2.1.2.2.2.2.2.2.2.2.2.2.2.2.1, (t11.2.1.2.2.2.2.2.2.2.2.2.2.2.2.2.1, ((), (t11.2.1.2.2.2.2.2.2.2.2.2.2.2.2.2.2.2.1, ((), (t11.2.1.2.2.2.2.2.2.2.2.2.2.2.2.2.2.2.2.2.1, ()))))))))))))))))))))), (t11.2.2.1, (((), ((), ())), ((t11.2.2.2.2.1.1, ((Go.IntKind.wrap Go.IntKind.i64 (t11.2.2.2.2.1.2.1 + t11.2.1.2.2.2.2.2.2.1)), (t11.2.2.2.2.1.2.2.1, ()))), ()))))))
                                                  (none))
                                                (none))
                                              (none))
                                            (none))))
                                    (fun (t12 : (((List Int) × Unit) × ((Unit × ((List Int) × (Unit × (((Unit × Unit) × Unit) × (Int × (Int × (Int × (((Unit × Unit) × Unit) × (Int × ((List Int) × (((Unit × Unit) × Unit) × (Int × ((List Int) × (Int × (Unit × (Int × (Int × (Unit × ((List Int) × (Unit × ((List Int) × Unit))))))))))))))))))))) × ((List ((List Int) × (List Int))) × ((Unit × (Unit × Unit)) × (((List Int) × (Int × (Bool × Unit))) × Unit)))))) =>
                                      k10 ((t12.2.1.2.2.2.2.2.2.2.2.2.1, (t12.1.1, ((), (t12.2.1.2.1, ((), (t12.2.1.2.2.2.2.1, ())))))), ((t12.2.1.2.2.2.2.2.2.2.2.2.2.2.2.1, (t12.2.1.2.2.2.2.2.2.2.2.2.2.2.2.2.1, ((), (t12.2.1.2.2.2.2.2.2.2.2.2.2.2.2.2.2.2.1, (t12.2.1.2.2.2.2.2.2.2.2.2.2.2.2.2.2.2.2.1, ((), (t12.2.1.2.2.2.2.2.2.2.2.2.2.2.2.2.2.2.2.2.2.1, ((), (t12.2.1.2.2.2.2.2.2.2.2.2.2.2.2.2.2.2.2.2.2.2.2.1, ()))))))))), (t12.2.2.1, (((), ((), ())), ((t12.2.2.2.2.1.1, (t12.2.2.2.2.1.2.1, (t12.2.2.2.2.1.2.2.1, ()))), ()))))))))
                                (fun (t10 : (((List Int) × ((List Int) × (Unit × ((List Int) × (Unit × (Int × Unit)))))) × (((List Int) × (Int × (Unit × (Int × (Int × (Unit × ((List Int) × (Unit × ((List Int) × Unit))))))))) × ((List ((List Int) × (List Int))) × ((Unit × (Unit × Unit)) × (((List Int) × (Int × (Bool × Unit))) × Unit)))))) =>
                                  cond t10.2.2.2.2.1.2.2.1
                                    (k7 (((([] : (List Int)), (([] : (List Int)), ())), ()), ((t10.2.1.1, (t10.2.1.2.1, ((), (t10.2.1.2.2.2.1, (t10.2.1.2.2.2.2.1, ((), (t10.2.1.2.2.2.2.2.2.1, ((), (t10.2.1.2.2.2.2.2.2.2.2.1, ()))))))))), (t10.2.2.1, ((t10.2.2.2.2.1.1, (t10.2.2.2.2.1.2.1, (t10.2.2.2.2.1.2.2.1, ()))), ())))))
                                    (cond (decide ((0 : Int) ≤ t10.1.2.2.2.2.2.1))
                                      (cond (decide (t10.1.2.2.2.2.2.1 ≤ (NatCast.natCast (List.length t10.1.2.2.2.1))))
                                        (Option.bind (F20 k0 ((List.take (Int.toNat t10.1.2.2.2.2.2.1) t10.1.2.2.2.1), ()))
                                        (fun (ys11 : ((List Int) × Unit)) =>
                                          cond (decide ((((List.length ys11.1) + (List.length t10.1.1)) * (1 : Nat)) ≤ (140737488355328 : Nat)))
                                            (Option.bind (F20 k0 (t10.1.2.1, ()))
                                            (fun (ys12 : ((List Int) × Unit)) =>
                                              k7 ((((ys11.1 ++ t10.1.1), (ys12.1, ())), ()), ((t10.2.1.1, (t10.2.1.2.1, ((), (t10.2.1.2.2.2.1, (t10.2.1.2.2.2.2.1, ((), (t10.2.1.2.2.2.2.2.2.1, ((), (t10.2.1.2.2.2.2.2.2.2.2.1, ()))))))))), (t10.2.2.1, ((t10.2.2.2.2.1.1, (t10.2.2.2.2.1.2.1, (t10.2.2.2.2.1.2.2.1, ()))), ()))))))
                                            (none)))
                                        (none))
                                      (none))))))
                          (fun (t7 : ((((List Int) × ((List Int) × Unit)) × Unit) × (((List Int) × (Int × (Unit × (Int × (Int × (Unit × ((List Int) × (Unit × ((List Int) × Unit))))))))) × ((List ((List Int) × (List Int))) × (((List Int) × (Int × (Bool × Unit))) × Unit))))) =>
                            cond t7.2.2.2.1.2.2.1
                              (some (([] : (List ((List Int) × (List Int)))), ((72 : Int), ())))
                              (cond (decide ((((List.length t7.2.2.1) + (List.length ((t7.1.1.1, t7.1.1.2.1) :: ([] : (List ((List Int) × (List Int))))))) * (48 : Nat)) ≤ (140737488355328 : Nat)))
                                (next5 ((t7.2.1.2.2.2.1, ((), (t7.1.1.1, (t7.2.1.1, (t7.2.1.2.1, ((), (t7.2.1.2.2.2.2.1, ()))))))), ((), ((t7.2.2.2.1.1, (t7.2.2.2.1.2.1, (t7.2.2.2.1.2.2.1, ()))), ((t7.2.2.1 ++ ((t7.1.1.1, t7.1.1.2.1) :: ([] : (List ((List Int) × (List Int)))))), ())))))
                                (none)))))
                        (ajoin (τ := ((Int × ((List Int) × (Unit × Unit))) × (Unit × ((List ((List Int) × (List Int))) × Unit)))) (R := ((List ((List Int) × (List Int))) × (Int × Unit))) (
                          fun (k6 : (((Int × ((List Int) × (Unit × Unit))) × (Unit × ((List ((List Int) × (List Int))) × Unit))) → (Option ((List ((List Int) × (List Int))) × (Int × Unit))))) =>
                          cond (decide (t4.1.2.2.2.2.1 ≤ (1 : Int)))
                            (k6 (((Max.max (NatCast.natCast (List.length t4.2.2.2.1)) (1 : Int)), (t4.1.2.2.2.1, ((), ()))), ((), (t4.2.2.2.1, ()))))
                            (k6 ((t4.1.1, (t4.1.2.2.2.1, ((), ()))), ((), (t4.2.2.2.1, ())))))
                        (fun (t6 : ((Int × ((List Int) × (Unit × Unit))) × (Unit × ((List ((List Int) × (List Int))) × Unit)))) =>
                          Option.bind (F13 k0 (t6.2.2.1, (t6.1.1, ())))
                          (fun (ys7 : ((List Int) × (Int × Unit))) =>
                            cond (bne ys7.2.1 (0 : Int))
                              (some (([] : (List ((List Int) × (List Int)))), ((72 : Int), ())))
                              (Option.bind (F26 k0 (ys7.1, (t6.1.2.1, ())))
                              (fun (ys8 : (Bool × Unit)) =>
                                cond (!ys8.1)
                                  (some (([] : (List ((List Int) × (List Int)))), ((72 : Int), ())))
                                  (some (t6.2.2.1, ((0 : Int), ()))))))))) k0 ((t3.1.2.2.2.2.1, ((), (([] : (List Int)), (t3.1.2.1, (t3.1.2.2.1, ((), (t3.1.1, ()))))))), ((), ((t3.2.2.1.1, (t3.2.2.1.2.1, (t3.2.2.1.2.2.1, ()))), (([] : (List ((List Int) × (List Int)))), ()))))))
                  (none))
                (none))
              (none))))
        (none))
      (none))
/-- moraine/morainelaw7.known -/
def F5 : Nat → (Unit) → Option ((Bool) × Unit) := fun (k0 : Nat) =>
  fun (xs1 : Unit) =>
  Option.bind (F12 k0 (((97 : Int) :: ([] : (List Int))), ((1 : Int), ((1 : Int), ()))))
  (fun (ys2 : ((List Int) × (Int × Unit))) =>
    Option.bind (F13 k0 (((ys2.1, ((120 : Int) :: ([] : (List Int)))) :: ([] : (List ((List Int) × (List Int))))), ((1 : Int), ())))
    (fun (ys3 : ((List Int) × (Int × Unit))) =>
      Option.bind (F14 k0 (ys3.1, ()))
      (fun (ys4 : ((List ((List Int) × (List Int))) × (Int × Unit))) =>
        cond (ys3.2.1 == (0 : Int))
          (cond (ys4.2.1 == (0 : Int))
            (cond ((NatCast.natCast (List.length ys3.1)) == (21 : Int))
              (cond ((NatCast.natCast (List.length ys4.1)) == (1 : Int))
                (cond (decide ((0 : Int) < (NatCast.natCast (List.length ys4.1))))
                  (some (((List.getD ys4.1 (0 : Nat) (([] : (List Int)), ([] : (List Int)))).2 == ((120 : Int) :: ([] : (List Int)))), ()))
                  (none))
                (some (false, ())))
              (some (false, ())))
            (some (false, ())))
          (some (false, ())))))
/-- moraine/morainelaw7.small -/
def F6 : Nat → ((List (List (Int))) × Unit) → Option ((Bool) × Unit) := fun (k0 : Nat) =>
  fun (xs1 : ((List (List Int)) × Unit)) =>
  iter (R := (Bool × Unit)) (τ := ((Int × (Int × ((List (List Int)) × Unit))) × (Unit × Unit))) (
    fun (t2 : ((Int × (Int × ((List (List Int)) × Unit))) × (Unit × Unit))) =>
    fun (next3 : (((Int × (Int × ((List (List Int)) × Unit))) × (Unit × Unit)) → (Option (Bool × Unit)))) =>
    cond (decide (t2.1.2.1 < (NatCast.natCast (List.length t2.1.2.2.1))))
      (cond (decide (t2.1.1 ≤ (3000 : Int)))
        (cond (decide ((0 : Int) ≤ t2.1.2.1))
          (cond (decide (t2.1.2.1 < (NatCast.natCast (List.length t2.1.2.2.1))))
            (next3 (((Go.IntKind.wrap Go.IntKind.i64 (t2.1.1 + (NatCast.natCast (List.length (List.getD t2.1.2.2.1 (Int.toNat t2.1.2.1) ([] : (List Int))))))), ((Go.IntKind.wrap Go.IntKind.i64 (t2.1.2.1 + (1 : Int))), (t2.1.2.2.1, ()))), ((), ())))
            (none))
          (none))
        (cond (decide ((NatCast.natCast (List.length t2.1.2.2.1)) ≤ (60 : Int)))
          (some ((decide (t2.1.1 ≤ (3000 : Int))), ()))
          (some (false, ()))))
      (cond (decide ((NatCast.natCast (List.length t2.1.2.2.1)) ≤ (60 : Int)))
        (some ((decide (t2.1.1 ≤ (3000 : Int))), ()))
        (some (false, ())))) k0 (((0 : Int), ((0 : Int), (xs1.1, ()))), ((), ()))
/-- moraine/codec.Sum -/
def F27 : Nat → ((List (Int)) × Unit) → Option ((Int) × Unit) := fun (k0 : Nat) =>
  fun (xs1 : ((List Int) × Unit)) =>
  iter (R := (Int × Unit)) (τ := ((Int × (Int × ((List Int) × (Int × Unit)))) × (Unit × Unit))) (
    fun (t2 : ((Int × (Int × ((List Int) × (Int × Unit)))) × (Unit × Unit))) =>
    fun (next3 : (((Int × (Int × ((List Int) × (Int × Unit)))) × (Unit × Unit)) → (Option (Int × Unit)))) =>
    cond (decide (t2.1.2.1 < t2.1.2.2.2.1))
      (cond (decide ((0 : Int) ≤ t2.1.2.1))
        (cond (decide (t2.1.2.1 < (NatCast.natCast (List.length t2.1.2.2.1))))
          (iter (R := (Int × Unit)) (τ := ((Int × (Int × ((List Int) × (Int × (Int × Unit))))) × (Unit × Unit))) (
            fun (t4 : ((Int × (Int × ((List Int) × (Int × (Int × Unit))))) × (Unit × Unit))) =>
            fun (next5 : (((Int × (Int × ((List Int) × (Int × (Int × Unit))))) × (Unit × Unit)) → (Option (Int × Unit)))) =>
            cond (decide (t4.1.2.1 < (8 : Int)))
              (next5 (((Go.bits Go.BinOp.xor Go.IntKind.u32 (ishr Go.IntKind.u32 t4.1.1 (1 : Int)) (Go.bits Go.BinOp.and Go.IntKind.u32 (2197175160 : Int) (Go.IntKind.wrap Go.IntKind.u32 ((0 : Int) - (Go.bits Go.BinOp.and Go.IntKind.u32 t4.1.1 (1 : Int)))))), ((Go.IntKind.wrap Go.IntKind.i64 (t4.1.2.1 + (1 : Int))), (t4.1.2.2.1, (t4.1.2.2.2.1, (t4.1.2.2.2.2.1, ()))))), ((), ())))
              (next3 ((t4.1.1, ((Go.IntKind.wrap Go.IntKind.i64 (t4.1.2.2.2.2.1 + (1 : Int))), (t4.1.2.2.1, (t4.1.2.2.2.1, ())))), ((), ())))) k0 (((Go.bits Go.BinOp.xor Go.IntKind.u32 t2.1.1 (Go.IntKind.wrap Go.IntKind.u32 (List.getD t2.1.2.2.1 (Int.toNat t2.1.2.1) (0 : Int)))), ((0 : Int), (t2.1.2.2.1, (t2.1.2.2.2.1, (t2.1.2.1, ()))))), ((), ())))
          (none))
        (none))
      (some ((Go.bits Go.BinOp.xor Go.IntKind.u32 (4294967295 : Int) t2.1.1), ()))) k0 (((4294967295 : Int), ((0 : Int), (xs1.1, ((NatCast.natCast (List.length xs1.1)), ())))), ((), ()))
/-- math/bits.RotateLeft32 -/
def F28 : Nat → ((Int) × ((Int) × Unit)) → Option ((Int) × Unit) := fun (k0 : Nat) =>
  fun (xs1 : (Int × (Int × Unit))) =>
  cond (decide ((0 : Int) ≤ (Go.IntKind.wrap Go.IntKind.u64 ((32 : Int) - (Go.bits Go.BinOp.and Go.IntKind.u64 (Go.IntKind.wrap Go.IntKind.u64 xs1.2.1) (31 : Int))))))
    (some ((Go.bits Go.BinOp.or Go.IntKind.u32 (ishl Go.IntKind.u32 xs1.1 (Go.bits Go.BinOp.and Go.IntKind.u64 (Go.IntKind.wrap Go.IntKind.u64 xs1.2.1) (31 : Int))) (ishr Go.IntKind.u32 xs1.1 (Go.IntKind.wrap Go.IntKind.u64 ((32 : Int) - (Go.bits Go.BinOp.and Go.IntKind.u64 (Go.IntKind.wrap Go.IntKind.u64 xs1.2.1) (31 : Int)))))), ()))
    (none)
/-- moraine/block.Filter -/
def F7 : Nat → ((List (List (Int))) × ((Int) × Unit)) → Option ((List (Int)) × ((Int) × Unit)) := fun (k0 : Nat) =>
  fun (xs1 : ((List (List Int)) × (Int × Unit))) =>
  cond (decide (xs1.2.1 < (1 : Int)))
    (some (([] : (List Int)), ((71 : Int), ())))
    (cond (decide ((64 : Int) < xs1.2.1))
      (some (([] : (List Int)), ((71 : Int), ())))
      (cond (decide ((Max.max (Go.IntKind.wrap Go.IntKind.i64 (Int.tdiv (Go.IntKind.wrap Go.IntKind.i64 ((Go.IntKind.wrap Go.IntKind.i64 (xs1.2.1 * (NatCast.natCast (List.length xs1.1)))) + (7 : Int))) (8 : Int))) (8 : Int)) = (Max.max (Go.IntKind.wrap Go.IntKind.i64 (Int.tdiv (Go.IntKind.wrap Go.IntKind.i64 ((Go.IntKind.wrap Go.IntKind.i64 (xs1.2.1 * (NatCast.natCast (List.length xs1.1)))) + (7 : Int))) (8 : Int))) (8 : Int))))
        (cond (decide ((0 : Int) ≤ (Max.max (Go.IntKind.wrap Go.IntKind.i64 (Int.tdiv (Go.IntKind.wrap Go.IntKind.i64 ((Go.IntKind.wrap Go.IntKind.i64 (xs1.2.1 * (NatCast.natCast (List.length xs1.1)))) + (7 : Int))) (8 : Int))) (8 : Int))))
          (cond (decide (((Int.toNat (Max.max (Go.IntKind.wrap Go.IntKind.i64 (Int.tdiv (Go.IntKind.wrap Go.IntKind.i64 ((Go.IntKind.wrap Go.IntKind.i64 (xs1.2.1 * (NatCast.natCast (List.length xs1.1)))) + (7 : Int))) (8 : Int))) (8 : Int))) * (1 : Nat)) ≤ (140737488355328 : Nat)))
            (iter (R := ((List Int) × (Int × Unit))) (τ := ((Int × (Int × (Unit × (Int × ((List (List Int)) × (Int × Unit)))))) × (Unit × ((List Int) × ((Unit × Unit) × Unit))))) (
              fun (t2 : ((Int × (Int × (Unit × (Int × ((List (List Int)) × (Int × Unit)))))) × (Unit × ((List Int) × ((Unit × Unit) × Unit))))) =>
              fun (next3 : (((Int × (Int × (Unit × (Int × ((List (List Int)) × (Int × Unit)))))) × (Unit × ((List Int) × ((Unit × Unit) × Unit)))) → (Option ((List Int) × (Int × Unit))))) =>
              cond (decide (t2.1.1 < t2.1.2.2.2.2.2.1))
                (cond (decide ((0 : Int) ≤ t2.1.1))
                  (cond (decide (t2.1.1 < (NatCast.natCast (List.length t2.1.2.2.2.2.1))))
                    (Option.bind (F27 k0 ((List.getD t2.1.2.2.2.2.1 (Int.toNat t2.1.1) ([] : (List Int))), ()))
                    (fun (ys4 : (Int × Unit)) =>
                      Option.bind (F28 k0 (ys4.1, ((-17 : Int), ())))
                      (fun (ys5 : (Int × Unit)) =>
                        iter (R := ((List Int) × (Int × Unit))) (τ := ((Int × (Int × (Int × ((Unit × (Unit × Unit)) × (Int × (Int × Unit)))))) × ((Int × (Unit × (Int × ((List Int) × ((List (List Int)) × (Int × (Int × ((List Int) × (Int × (Int × ((Unit × (Unit × Unit)) × Unit))))))))))) × ((List Int) × ((Unit × Unit) × Unit))))) (
                          fun (t6 : ((Int × (Int × (Int × ((Unit × (Unit × Unit)) × (Int × (Int × Unit)))))) × ((Int × (Unit × (Int × ((List Int) × ((List (List Int)) × (Int × (Int × ((List Int) × (Int × (Int × ((Unit × (Unit × Unit)) × Unit))))))))))) × ((List Int) × ((Unit × Unit) × Unit))))) =>
                          fun (next7 : (((Int × (Int × (Int × ((Unit × (Unit × Unit)) × (Int × (Int × Unit)))))) × ((Int × (Unit × (Int × ((List Int) × ((List (List Int)) × (Int × (Int × ((List Int) × (Int × (Int × ((Unit × (Unit × Unit)) × Unit))))))))))) × ((List Int) × ((Unit × Unit) × Unit)))) → (Option ((List Int) × (Int × Unit))))) =>
                          cond (decide (t6.1.2.1 < t6.1.2.2.2.2.2.1))
                            (cond (decide (t6.1.2.2.1 = (0 : Int)))
                              (none)
                              (cond (decide ((0 : Int) ≤ (Go.IntKind.wrap Go.IntKind.u64 (Int.tdiv (Int.tmod (Go.IntKind.wrap Go.IntKind.u64 t6.1.1) t6.1.2.2.1) (8 : Int)))))
                                (cond (decide ((Go.IntKind.wrap Go.IntKind.u64 (Int.tdiv (Int.tmod (Go.IntKind.wrap Go.IntKind.u64 t6.1.1) t6.1.2.2.1) (8 : Int))) < (NatCast.natCast (List.length t6.2.2.1))))
                                  (cond (decide ((0 : Int) ≤ (Int.tmod (Int.tmod (Go.IntKind.wrap Go.IntKind.u64 t6.1.1) t6.1.2.2.1) (8 : Int))))
                                    (cond (decide ((0 : Int) ≤ (Go.IntKind.wrap Go.IntKind.u64 (Int.tdiv (Int.tmod (Go.IntKind.wrap Go.IntKind.u64 t6.1.1) t6.1.2.2.1) (8 : Int)))))
                                      (cond (decide ((Go.IntKind.wrap Go.IntKind.u64 (Int.tdiv (Int.tmod (Go.IntKind.wrap Go.IntKind.u64 t6.1.1) t6.1.2.2.1) (8 : Int))) < (NatCast.natCast (List.length t6.2.2.1))))
                                        (next7 (((Go.IntKind.wrap Go.IntKind.u32 (t6.1.1 + t6.1.2.2.2.2.1)), ((Go.IntKind.wrap Go.IntKind.i64 (t6.1.2.1 + (1 : Int))), (t6.1.2.2.1, (((), ((), ())), (t6.1.2.2.2.2.1, (t6.1.2.2.2.2.2.1, ())))))), ((t6.2.1.1, ((), (t6.2.1.2.2.1, (t6.2.1.2.2.2.1, (t6.2.1.2.2.2.2.1, (t6.2.1.2.2.2.2.2.1, (t6.2.1.2.2.2.2.2.2.1, (t6.2.1.2.2.2.2.2.2.2.1, (t6.2.1.2.2.2.2.2.2.2.2.1, (t6.2.1.2.2.2.2.2.2.2.2.2.1, (((), ((), ())), ()))))))))))), ((List.set t6.2.2.1 (Int.toNat (Go.IntKind.wrap Go.IntKind.u64 (Int.tdiv (Int.tmod (Go.IntKind.wrap Go.IntKind.u64 t6.1.1) t6.1.2.2.1) (8 : Int)))) (Go.bits Go.BinOp.or Go.IntKind.u8 (List.getD t6.2.2.1 (Int.toNat (Go.IntKind.wrap Go.IntKind.u64 (Int.tdiv (Int.tmod (Go.IntKind.wrap Go.IntKind.u64 t6.1.1) t6.1.2.2.1) (8 : Int)))) (0 : Int)) (ishl Go.IntKind.u8 (1 : Int) (Int.tmod (Int.tmod (Go.IntKind.wrap Go.IntKind.u64 t6.1.1) t6.1.2.2.1) (8 : Int))))), (((), ()), ())))))
                                        (none))
                                      (none))
                                    (none))
                                  (none))
                                (none)))
                            (next3 (((Go.IntKind.wrap Go.IntKind.i64 (t6.2.1.2.2.2.2.2.2.1 + (1 : Int))), (t6.2.1.1, ((), (t6.2.1.2.2.1, (t6.2.1.2.2.2.2.1, (t6.2.1.2.2.2.2.2.1, ())))))), ((), (t6.2.2.1, (((), ()), ())))))) k0 ((ys4.1, ((0 : Int), (t2.1.2.2.2.1, (((), ((), ())), (ys5.1, (t2.1.2.1, ())))))), ((t2.1.2.1, ((), (t2.1.2.2.2.1, ((List.getD t2.1.2.2.2.2.1 (Int.toNat t2.1.1) ([] : (List Int))), (t2.1.2.2.2.2.1, (t2.1.2.2.2.2.2.1, (t2.1.1, ((List.getD t2.1.2.2.2.2.1 (Int.toNat t2.1.1) ([] : (List Int))), (t2.1.2.1, (t2.1.2.2.2.1, (((), ((), ())), ()))))))))))), (t2.2.2.1, (((), ()), ())))))))
                    (none))
                  (none))
                (cond (decide ((((List.length t2.2.2.1) + (List.length ((Go.IntKind.wrap Go.IntKind.u8 t2.1.2.1) :: ([] : (List Int))))) * (1 : Nat)) ≤ (140737488355328 : Nat)))
                  (some ((t2.2.2.1 ++ ((Go.IntKind.wrap Go.IntKind.u8 t2.1.2.1) :: ([] : (List Int)))), ((0 : Int), ())))
                  (none))) k0 (((0 : Int), ((Min.min (Max.max (Go.IntKind.wrap Go.IntKind.i64 (Int.tdiv (Go.IntKind.wrap Go.IntKind.i64 (xs1.2.1 * (69 : Int))) (100 : Int))) (1 : Int)) (30 : Int)), ((), ((Go.IntKind.wrap Go.IntKind.u64 ((8 : Int) * (Go.IntKind.wrap Go.IntKind.u64 (NatCast.natCast (List.length (List.replicate (Int.toNat (Max.max (Go.IntKind.wrap Go.IntKind.i64 (Int.tdiv (Go.IntKind.wrap Go.IntKind.i64 ((Go.IntKind.wrap Go.IntKind.i64 (xs1.2.1 * (NatCast.natCast (List.length xs1.1)))) + (7 : Int))) (8 : Int))) (8 : Int))) (0 : Int))))))), (xs1.1, ((NatCast.natCast (List.length xs1.1)), ())))))), ((), ((List.replicate (Int.toNat (Max.max (Go.IntKind.wrap Go.IntKind.i64 (Int.tdiv (Go.IntKind.wrap Go.IntKind.i64 ((Go.IntKind.wrap Go.IntKind.i64 (xs1.2.1 * (NatCast.natCast (List.length xs1.1)))) + (7 : Int))) (8 : Int))) (8 : Int))) (0 : Int)), (((), ()), ())))))
            (none))
          (none))
        (none)))
/-- moraine/moraineref2.Sum -/
def F29 : Nat → ((List (Int)) × Unit) → Option ((Int) × Unit) := fun (k0 : Nat) =>
  fun (xs1 : ((List Int) × Unit)) =>
  iter (R := (Int × Unit)) (τ := ((Int × (Int × ((List Int) × Unit))) × (Unit × Unit))) (
    fun (t2 : ((Int × (Int × ((List Int) × Unit))) × (Unit × Unit))) =>
    fun (next3 : (((Int × (Int × ((List Int) × Unit))) × (Unit × Unit)) → (Option (Int × Unit)))) =>
    cond (decide (t2.1.2.1 < (NatCast.natCast (List.length t2.1.2.2.1))))
      (cond (decide ((0 : Int) ≤ t2.1.2.1))
        (cond (decide (t2.1.2.1 < (NatCast.natCast (List.length t2.1.2.2.1))))
          (iter (R := (Int × Unit)) (τ := ((Int × (Int × ((List Int) × (Int × Unit)))) × (Unit × Unit))) (
            fun (t4 : ((Int × (Int × ((List Int) × (Int × Unit)))) × (Unit × Unit))) =>
            fun (next5 : (((Int × (Int × ((List Int) × (Int × Unit)))) × (Unit × Unit)) → (Option (Int × Unit)))) =>
            cond (decide (t4.1.2.1 < (8 : Int)))
              (cond ((Int.tmod t4.1.1 (2 : Int)) == (1 : Int))
                (next5 (((Go.bits Go.BinOp.xor Go.IntKind.u32 (Go.IntKind.wrap Go.IntKind.u32 (Int.tdiv t4.1.1 (2 : Int))) (2197175160 : Int)), ((Go.IntKind.wrap Go.IntKind.i64 (t4.1.2.1 + (1 : Int))), (t4.1.2.2.1, (t4.1.2.2.2.1, ())))), ((), ())))
                (next5 (((Go.IntKind.wrap Go.IntKind.u32 (Int.tdiv t4.1.1 (2 : Int))), ((Go.IntKind.wrap Go.IntKind.i64 (t4.1.2.1 + (1 : Int))), (t4.1.2.2.1, (t4.1.2.2.2.1, ())))), ((), ()))))
              (next3 ((t4.1.1, ((Go.IntKind.wrap Go.IntKind.i64 (t4.1.2.2.2.1 + (1 : Int))), (t4.1.2.2.1, ()))), ((), ())))) k0 (((Go.bits Go.BinOp.xor Go.IntKind.u32 t2.1.1 (Go.IntKind.wrap Go.IntKind.u32 (List.getD t2.1.2.2.1 (Int.toNat t2.1.2.1) (0 : Int)))), ((0 : Int), (t2.1.2.2.1, (t2.1.2.1, ())))), ((), ())))
          (none))
        (none))
      (some ((Go.bits Go.BinOp.xor Go.IntKind.u32 (4294967295 : Int) t2.1.1), ()))) k0 (((4294967295 : Int), ((0 : Int), (xs1.1, ()))), ((), ()))
/-- moraine/moraineref7.steps -/
def F17 : Nat → ((List (Int)) × ((Int) × ((Int) × Unit))) → Option ((List (Int)) × Unit) := fun (k0 : Nat) =>
  fun (xs1 : ((List Int) × (Int × (Int × Unit)))) =>
  Option.bind (F29 k0 (xs1.1, ()))
  (fun (ys2 : (Int × Unit)) =>
    iter (R := ((List Int) × Unit)) (τ := ((Int × (Unit × (Int × (Int × (Int × (Int × Unit)))))) × (Unit × ((List Int) × Unit)))) (
      fun (t3 : ((Int × (Unit × (Int × (Int × (Int × (Int × Unit)))))) × (Unit × ((List Int) × Unit)))) =>
      fun (next4 : (((Int × (Unit × (Int × (Int × (Int × (Int × Unit)))))) × (Unit × ((List Int) × Unit))) → (Option ((List Int) × Unit)))) =>
      cond (decide (t3.1.2.2.1 < t3.1.2.2.2.2.1))
        (cond (decide (t3.1.2.2.2.1 = (0 : Int)))
          (none)
          (cond (decide ((((List.length t3.2.2.1) + (List.length ((Int.tmod (Go.IntKind.wrap Go.IntKind.u64 t3.1.1) t3.1.2.2.2.1) :: ([] : (List Int))))) * (8 : Nat)) ≤ (140737488355328 : Nat)))
            (next4 (((Go.IntKind.wrap Go.IntKind.u32 (t3.1.1 + t3.1.2.2.2.2.2.1)), ((), ((Go.IntKind.wrap Go.IntKind.i64 (t3.1.2.2.1 + (1 : Int))), (t3.1.2.2.2.1, (t3.1.2.2.2.2.1, (t3.1.2.2.2.2.2.1, ())))))), ((), ((t3.2.2.1 ++ ((Int.tmod (Go.IntKind.wrap Go.IntKind.u64 t3.1.1) t3.1.2.2.2.1) :: ([] : (List Int)))), ()))))
            (none)))
        (some (t3.2.2.1, ()))) k0 ((ys2.1, ((), ((0 : Int), (xs1.2.1, (xs1.2.2.1, ((Go.bits Go.BinOp.or Go.IntKind.u32 (ishr Go.IntKind.u32 ys2.1 (17 : Int)) (ishl Go.IntKind.u32 ys2.1 (15 : Int))), ())))))), ((), (([] : (List Int)), ()))))
/-- moraine/moraineref7.Filter -/
def F8 : Nat → ((List (List (Int))) × ((Int) × Unit)) → Option ((List (Int)) × ((Int) × Unit)) := fun (k0 : Nat) =>
  fun (xs1 : ((List (List Int)) × (Int × Unit))) =>
  cond (decide (xs1.2.1 < (1 : Int)))
    (some (([] : (List Int)), ((71 : Int), ())))
    (cond (decide ((64 : Int) < xs1.2.1))
      (some (([] : (List Int)), ((71 : Int), ())))
      (cond (decide ((Go.IntKind.wrap Go.IntKind.i64 (Int.tdiv (Go.IntKind.wrap Go.IntKind.i64 ((Max.max (Go.IntKind.wrap Go.IntKind.i64 (xs1.2.1 * (NatCast.natCast (List.length xs1.1)))) (64 : Int)) + (7 : Int))) (8 : Int))) = (Go.IntKind.wrap Go.IntKind.i64 (Int.tdiv (Go.IntKind.wrap Go.IntKind.i64 ((Max.max (Go.IntKind.wrap Go.IntKind.i64 (xs1.2.1 * (NatCast.natCast (List.length xs1.1)))) (64 : Int)) + (7 : Int))) (8 : Int)))))
        (cond (decide ((0 : Int) ≤ (Go.IntKind.wrap Go.IntKind.i64 (Int.tdiv (Go.IntKind.wrap Go.IntKind.i64 ((Max.max (Go.IntKind.wrap Go.IntKind.i64 (xs1.2.1 * (NatCast.natCast (List.length xs1.1)))) (64 : Int)) + (7 : Int))) (8 : Int)))))
          (cond (decide (((Int.toNat (Go.IntKind.wrap Go.IntKind.i64 (Int.tdiv (Go.IntKind.wrap Go.IntKind.i64 ((Max.max (Go.IntKind.wrap Go.IntKind.i64 (xs1.2.1 * (NatCast.natCast (List.length xs1.1)))) (64 : Int)) + (7 : Int))) (8 : Int)))) * (1 : Nat)) ≤ (140737488355328 : Nat)))
            (iter (R := ((List Int) × (Int × Unit))) (τ := ((Int × ((List (List Int)) × (Int × (Unit × Unit)))) × (Unit × ((List Int) × Unit)))) (
              fun (t2 : ((Int × ((List (List Int)) × (Int × (Unit × Unit)))) × (Unit × ((List Int) × Unit)))) =>
              fun (next3 : (((Int × ((List (List Int)) × (Int × (Unit × Unit)))) × (Unit × ((List Int) × Unit))) → (Option ((List Int) × (Int × Unit))))) =>
              cond (decide (t2.1.1 < (NatCast.natCast (List.length t2.1.2.1))))
                (cond (decide ((0 : Int) ≤ t2.1.1))
                  (cond (decide (t2.1.1 < (NatCast.natCast (List.length t2.1.2.1))))
                    (Option.bind (F17 k0 ((List.getD t2.1.2.1 (Int.toNat t2.1.1) ([] : (List Int))), ((Go.IntKind.wrap Go.IntKind.u64 (Go.IntKind.wrap Go.IntKind.i64 ((8 : Int) * (NatCast.natCast (List.length t2.2.2.1))))), (t2.1.2.2.1, ()))))
                    (fun (ys4 : ((List Int) × Unit)) =>
                      iter (R := ((List Int) × (Int × Unit))) (τ := ((Int × ((List (List Int)) × (Int × (Unit × (Int × ((List Int) × Unit)))))) × (Unit × ((List Int) × Unit)))) (
                        fun (t5 : ((Int × ((List (List Int)) × (Int × (Unit × (Int × ((List Int) × Unit)))))) × (Unit × ((List Int) × Unit)))) =>
                        fun (next6 : (((Int × ((List (List Int)) × (Int × (Unit × (Int × ((List Int) × Unit)))))) × (Unit × ((List Int) × Unit))) → (Option ((List Int) × (Int × Unit))))) =>
                        cond (decide (t5.1.1 < (NatCast.natCast (List.length t5.1.2.2.2.2.2.1))))
                          (cond (decide ((0 : Int) ≤ t5.1.1))
                            (cond (decide (t5.1.1 < (NatCast.natCast (List.length t5.1.2.2.2.2.2.1))))
                              (cond (decide ((0 : Int) ≤ t5.1.1))
                                (cond (decide (t5.1.1 < (NatCast.natCast (List.length t5.1.2.2.2.2.2.1))))
                                  (cond (decide ((0 : Int) ≤ (Go.IntKind.wrap Go.IntKind.u64 (Int.tdiv (List.getD t5.1.2.2.2.2.2.1 (Int.toNat t5.1.1) (0 : Int)) (8 : Int)))))
                                    (cond (decide ((Go.IntKind.wrap Go.IntKind.u64 (Int.tdiv (List.getD t5.1.2.2.2.2.2.1 (Int.toNat t5.1.1) (0 : Int)) (8 : Int))) < (NatCast.natCast (List.length t5.2.2.1))))
                                      (cond (decide ((0 : Int) ≤ t5.1.1))
                                        (cond (decide (t5.1.1 < (NatCast.natCast (List.length t5.1.2.2.2.2.2.1))))
                                          (cond (decide ((0 : Int) ≤ (Int.tmod (List.getD t5.1.2.2.2.2.2.1 (Int.toNat t5.1.1) (0 : Int)) (8 : Int))))
                                            (cond (decide ((0 : Int) ≤ (Go.IntKind.wrap Go.IntKind.u64 (Int.tdiv (List.getD t5.1.2.2.2.2.2.1 (Int.toNat t5.1.1) (0 : Int)) (8 : Int)))))
                                              (cond (decide ((Go.IntKind.wrap Go.IntKind.u64 (Int.tdiv (List.getD t5.1.2.2.2.2.2.1 (Int.toNat t5.1.1) (0 : Int)) (8 : Int))) < (NatCast.natCast (List.length t5.2.2.1))))
                                                (next6 (((Go.IntKind.wrap Go.IntKind.i64 (t5.1.1 + (1 : Int))), (t5.1.2.1, (t5.1.2.2.1, ((), (t5.1.2.2.2.2.1, (t5.1.2.2.2.2.2.1, ())))))), ((), ((List.set t5.2.2.1 (Int.toNat (Go.IntKind.wrap Go.IntKind.u64 (Int.tdiv (List.getD t5.1.2.2.2.2.2.1 (Int.toNat t5.1.1) (0 : Int)) (8 : Int)))) (Go.bits Go.BinOp.or Go.IntKind.u8 (List.getD t5.2.2.1 (Int.toNat (Go.IntKind.wrap Go.IntKind.u64 (Int.tdiv (List.getD t5.1.2.2.2.2.2.1 (Int.toNat t5.1.1) (0 : Int)) (8 : Int)))) (0 : Int)) (ishl Go.IntKind.u8 (1 : Int) (Int.tmod (List.getD t5.1.2.2.2.2.2.1 (Int.toNat t5.1.1) (0 : Int)) (8 : Int))))), ()))))
                                                (none))
                                              (none))
                                            (none))
                                          (none))
                                        (none))
                                      (none))
                                    (none))
                                  (none))
                                (none))
                              (none))
                            (none))
                          (next3 (((Go.IntKind.wrap Go.IntKind.i64 (t5.1.2.2.2.2.1 + (1 : Int))), (t5.1.2.1, (t5.1.2.2.1, ((), ())))), ((), (t5.2.2.1, ()))))) k0 (((0 : Int), (t2.1.2.1, (t2.1.2.2.1, ((), (t2.1.1, (ys4.1, ())))))), ((), (t2.2.2.1, ())))))
                    (none))
                  (none))
                (cond (decide ((((List.length t2.2.2.1) + (List.length ((Go.IntKind.wrap Go.IntKind.u8 t2.1.2.2.1) :: ([] : (List Int))))) * (1 : Nat)) ≤ (140737488355328 : Nat)))
                  (some ((t2.2.2.1 ++ ((Go.IntKind.wrap Go.IntKind.u8 t2.1.2.2.1) :: ([] : (List Int)))), ((0 : Int), ())))
                  (none))) k0 (((0 : Int), (xs1.1, ((Min.min (Max.max (Go.IntKind.wrap Go.IntKind.i64 (Int.tdiv (Go.IntKind.wrap Go.IntKind.i64 (xs1.2.1 * (69 : Int))) (100 : Int))) (1 : Int)) (30 : Int)), ((), ())))), ((), ((List.replicate (Int.toNat (Go.IntKind.wrap Go.IntKind.i64 (Int.tdiv (Go.IntKind.wrap Go.IntKind.i64 ((Max.max (Go.IntKind.wrap Go.IntKind.i64 (xs1.2.1 * (NatCast.natCast (List.length xs1.1)))) (64 : Int)) + (7 : Int))) (8 : Int)))) (0 : Int)), ()))))
            (none))
          (none))
        (none)))
/-- moraine/morainehelp.Bytes -/
def F9 : Nat → ((List (Int)) × ((List (Int)) × Unit)) → Option ((Bool) × Unit) := fun (k0 : Nat) =>
  fun (xs1 : ((List Int) × ((List Int) × Unit))) =>
  some ((xs1.1 == xs1.2.1), ())
/-- moraine/block.May -/
def F10 : Nat → ((List (Int)) × ((List (Int)) × Unit)) → Option ((Bool) × Unit) := fun (k0 : Nat) =>
  fun (xs1 : ((List Int) × ((List Int) × Unit))) =>
  cond (decide ((Go.IntKind.wrap Go.IntKind.i64 ((NatCast.natCast (List.length xs1.1)) - (1 : Int))) < (8 : Int)))
    (some (true, ()))
    (cond (decide ((0 : Int) ≤ (Go.IntKind.wrap Go.IntKind.i64 ((NatCast.natCast (List.length xs1.1)) - (1 : Int)))))
      (cond (decide ((Go.IntKind.wrap Go.IntKind.i64 ((NatCast.natCast (List.length xs1.1)) - (1 : Int))) < (NatCast.natCast (List.length xs1.1))))
        (cond (decide ((List.getD xs1.1 (Int.toNat (Go.IntKind.wrap Go.IntKind.i64 ((NatCast.natCast (List.length xs1.1)) - (1 : Int)))) (0 : Int)) < (1 : Int)))
          (some (true, ()))
          (cond (decide ((0 : Int) ≤ (Go.IntKind.wrap Go.IntKind.i64 ((NatCast.natCast (List.length xs1.1)) - (1 : Int)))))
            (cond (decide ((Go.IntKind.wrap Go.IntKind.i64 ((NatCast.natCast (List.length xs1.1)) - (1 : Int))) < (NatCast.natCast (List.length xs1.1))))
              (cond (decide ((30 : Int) < (List.getD xs1.1 (Int.toNat (Go.IntKind.wrap Go.IntKind.i64 ((NatCast.natCast (List.length xs1.1)) - (1 : Int)))) (0 : Int))))
                (some (true, ()))
                (cond (decide ((0 : Int) ≤ (Go.IntKind.wrap Go.IntKind.i64 ((NatCast.natCast (List.length xs1.1)) - (1 : Int)))))
                  (cond (decide ((Go.IntKind.wrap Go.IntKind.i64 ((NatCast.natCast (List.length xs1.1)) - (1 : Int))) < (NatCast.natCast (List.length xs1.1))))
                    (Option.bind (F27 k0 (xs1.2.1, ()))
                    (fun (ys2 : (Int × Unit)) =>
                      Option.bind (F28 k0 (ys2.1, ((-17 : Int), ())))
                      (fun (ys3 : (Int × Unit)) =>
                        iter (R := (Bool × Unit)) (τ := ((Int × (Int × (Int × ((Unit × (Unit × (Unit × Unit))) × (Int × (Int × Unit)))))) × (((List Int) × (Unit × (Int × (Unit × ((List Int) × ((List Int) × (Int × (Int × (Int × (Int × (Int × (Int × ((Unit × (Unit × (Unit × Unit))) × Unit))))))))))))) × (((List Int) × Unit) × ((Bool × Unit) × Unit))))) (
                          fun (t4 : ((Int × (Int × (Int × ((Unit × (Unit × (Unit × Unit))) × (Int × (Int × Unit)))))) × (((List Int) × (Unit × (Int × (Unit × ((List Int) × ((List Int) × (Int × (Int × (Int × (Int × (Int × (Int × ((Unit × (Unit × (Unit × Unit))) × Unit))))))))))))) × (((List Int) × Unit) × ((Bool × Unit) × Unit))))) =>
                          fun (next5 : (((Int × (Int × (Int × ((Unit × (Unit × (Unit × Unit))) × (Int × (Int × Unit)))))) × (((List Int) × (Unit × (Int × (Unit × ((List Int) × ((List Int) × (Int × (Int × (Int × (Int × (Int × (Int × ((Unit × (Unit × (Unit × Unit))) × Unit))))))))))))) × (((List Int) × Unit) × ((Bool × Unit) × Unit)))) → (Option (Bool × Unit)))) =>
                          cond (decide (t4.1.2.1 < t4.1.2.2.2.2.2.1))
                            (cond (decide (t4.1.2.2.1 = (0 : Int)))
                              (none)
                              (cond t4.2.2.2.1.1
                                (cond (decide ((0 : Int) ≤ (Go.IntKind.wrap Go.IntKind.u64 (Int.tdiv (Int.tmod (Go.IntKind.wrap Go.IntKind.u64 t4.1.1) t4.1.2.2.1) (8 : Int)))))
                                  (cond (decide ((Go.IntKind.wrap Go.IntKind.u64 (Int.tdiv (Int.tmod (Go.IntKind.wrap Go.IntKind.u64 t4.1.1) t4.1.2.2.1) (8 : Int))) < (NatCast.natCast (List.length t4.2.2.1.1))))
                                    (cond (decide ((0 : Int) ≤ (Int.tmod (Int.tmod (Go.IntKind.wrap Go.IntKind.u64 t4.1.1) t4.1.2.2.1) (8 : Int))))
                                      (next5 (((Go.IntKind.wrap Go.IntKind.u32 (t4.1.1 + t4.1.2.2.2.2.1)), ((Go.IntKind.wrap Go.IntKind.i64 (t4.1.2.1 + (1 : Int))), (t4.1.2.2.1, (((), ((), ((), ()))), (t4.1.2.2.2.2.1, (t4.1.2.2.2.2.2.1, ())))))), ((t4.2.1.1, ((), (t4.2.1.2.2.1, ((), (t4.2.1.2.2.2.2.1, (t4.2.1.2.2.2.2.2.1, (t4.2.1.2.2.2.2.2.2.1, (t4.2.1.2.2.2.2.2.2.2.1, (t4.2.1.2.2.2.2.2.2.2.2.1, (t4.2.1.2.2.2.2.2.2.2.2.2.1, (t4.2.1.2.2.2.2.2.2.2.2.2.2.1, (t4.2.1.2.2.2.2.2.2.2.2.2.2.2.1, (((), ((), ((), ()))), ()))))))))))))), ((t4.2.2.1.1, ()), (((bne (Go.bits Go.BinOp.and Go.IntKind.u8 (List.getD t4.2.2.1.1 (Int.toNat (Go.IntKind.wrap Go.IntKind.u64 (Int.tdiv (Int.tmod (Go.IntKind.wrap Go.IntKind.u64 t4.1.1) t4.1.2.2.1) (8 : Int)))) (0 : Int)) (ishl Go.IntKind.u8 (1 : Int) (Int.tmod (Int.tmod (Go.IntKind.wrap Go.IntKind.u64 t4.1.1) t4.1.2.2.1) (8 : Int)))) (0 : Int)), ()), ())))))
                                      (none))
                                    (none))
                                  (none))
                                (next5 (((Go.IntKind.wrap Go.IntKind.u32 (t4.1.1 + t4.1.2.2.2.2.1)), ((Go.IntKind.wrap Go.IntKind.i64 (t4.1.2.1 + (1 : Int))), (t4.1.2.2.1, (((), ((), ((), ()))), (t4.1.2.2.2.2.1, (t4.1.2.2.2.2.2.1, ())))))), ((t4.2.1.1, ((), (t4.2.1.2.2.1, ((), (t4.2.1.2.2.2.2.1, (t4.2.1.2.2.2.2.2.1, (t4.2.1.2.2.2.2.2.2.1, (t4.2.1.2.2.2.2.2.2.2.1, (t4.2.1.2.2.2.2.2.2.2.2.1, (t4.2.1.2.2.2.2.2.2.2.2.2.1, (t4.2.1.2.2.2.2.2.2.2.2.2.2.1, (t4.2.1.2.2.2.2.2.2.2.2.2.2.2.1, (((), ((), ((), ()))), ()))))))))))))), ((t4.2.2.1.1, ()), ((false, ()), ())))))))
                            (some (t4.2.2.2.1.1, ()))) k0 ((ys2.1, ((0 : Int), ((Go.IntKind.wrap Go.IntKind.u64 ((8 : Int) * (Go.IntKind.wrap Go.IntKind.u64 (Go.IntKind.wrap Go.IntKind.i64 ((NatCast.natCast (List.length xs1.1)) - (1 : Int)))))), (((), ((), ((), ()))), (ys3.1, ((Go.IntKind.wrap Go.IntKind.i64 (List.getD xs1.1 (Int.toNat (Go.IntKind.wrap Go.IntKind.i64 ((NatCast.natCast (List.length xs1.1)) - (1 : Int)))) (0 : Int))), ())))))), ((xs1.2.1, ((), ((Go.IntKind.wrap Go.IntKind.i64 ((NatCast.natCast (List.length xs1.1)) - (1 : Int))), ((), (xs1.2.1, (xs1.1, ((Go.IntKind.wrap Go.IntKind.i64 ((NatCast.natCast (List.length xs1.1)) - (1 : Int))), ((List.getD xs1.1 (Int.toNat (Go.IntKind.wrap Go.IntKind.i64 ((NatCast.natCast (List.length xs1.1)) - (1 : Int)))) (0 : Int)), ((Go.IntKind.wrap Go.IntKind.i64 (List.getD xs1.1 (Int.toNat (Go.IntKind.wrap Go.IntKind.i64 ((NatCast.natCast (List.length xs1.1)) - (1 : Int)))) (0 : Int))), ((Go.IntKind.wrap Go.IntKind.i64 ((NatCast.natCast (List.length xs1.1)) - (1 : Int))), ((Go.IntKind.wrap Go.IntKind.u64 (Go.IntKind.wrap Go.IntKind.i64 ((NatCast.natCast (List.length xs1.1)) - (1 : Int)))), ((Go.IntKind.wrap Go.IntKind.u64 ((8 : Int) * (Go.IntKind.wrap Go.IntKind.u64 (Go.IntKind.wrap Go.IntKind.i64 ((NatCast.natCast (List.length xs1.1)) - (1 : Int)))))), (((), ((), ((), ()))), ()))))))))))))), ((xs1.1, ()), ((true, ()), ())))))))
                    (none))
                  (none)))
              (none))
            (none)))
        (none))
      (none))
/-- moraine/moraineref7.May -/
def F11 : Nat → ((List (Int)) × ((List (Int)) × Unit)) → Option ((Bool) × Unit) := fun (k0 : Nat) =>
  fun (xs1 : ((List Int) × ((List Int) × Unit))) =>
  cond (decide ((Go.IntKind.wrap Go.IntKind.i64 ((NatCast.natCast (List.length xs1.1)) - (1 : Int))) < (8 : Int)))
    (some (true, ()))
    (cond (decide ((0 : Int) ≤ (Go.IntKind.wrap Go.IntKind.i64 ((NatCast.natCast (List.length xs1.1)) - (1 : Int)))))
      (cond (decide ((Go.IntKind.wrap Go.IntKind.i64 ((NatCast.natCast (List.length xs1.1)) - (1 : Int))) < (NatCast.natCast (List.length xs1.1))))
        (cond (decide ((List.getD xs1.1 (Int.toNat (Go.IntKind.wrap Go.IntKind.i64 ((NatCast.natCast (List.length xs1.1)) - (1 : Int)))) (0 : Int)) < (1 : Int)))
          (some (true, ()))
          (cond (decide ((0 : Int) ≤ (Go.IntKind.wrap Go.IntKind.i64 ((NatCast.natCast (List.length xs1.1)) - (1 : Int)))))
            (cond (decide ((Go.IntKind.wrap Go.IntKind.i64 ((NatCast.natCast (List.length xs1.1)) - (1 : Int))) < (NatCast.natCast (List.length xs1.1))))
              (cond (decide ((30 : Int) < (List.getD xs1.1 (Int.toNat (Go.IntKind.wrap Go.IntKind.i64 ((NatCast.natCast (List.length xs1.1)) - (1 : Int)))) (0 : Int))))
                (some (true, ()))
                (cond (decide ((0 : Int) ≤ (Go.IntKind.wrap Go.IntKind.i64 ((NatCast.natCast (List.length xs1.1)) - (1 : Int)))))
                  (cond (decide ((Go.IntKind.wrap Go.IntKind.i64 ((NatCast.natCast (List.length xs1.1)) - (1 : Int))) < (NatCast.natCast (List.length xs1.1))))
                    (Option.bind (F17 k0 (xs1.2.1, ((Go.IntKind.wrap Go.IntKind.u64 (Go.IntKind.wrap Go.IntKind.i64 ((8 : Int) * (Go.IntKind.wrap Go.IntKind.i64 ((NatCast.natCast (List.length xs1.1)) - (1 : Int)))))), ((Go.IntKind.wrap Go.IntKind.i64 (List.getD xs1.1 (Int.toNat (Go.IntKind.wrap Go.IntKind.i64 ((NatCast.natCast (List.length xs1.1)) - (1 : Int)))) (0 : Int))), ()))))
                    (fun (ys2 : ((List Int) × Unit)) =>
                      iter (R := (Bool × Unit)) (τ := ((Int × ((List Int) × ((List Int) × Unit))) × (Unit × Unit))) (
                        fun (t3 : ((Int × ((List Int) × ((List Int) × Unit))) × (Unit × Unit))) =>
                        fun (next4 : (((Int × ((List Int) × ((List Int) × Unit))) × (Unit × Unit)) → (Option (Bool × Unit)))) =>
                        cond (decide (t3.1.1 < (NatCast.natCast (List.length t3.1.2.2.1))))
                          (cond (decide ((0 : Int) ≤ t3.1.1))
                            (cond (decide (t3.1.1 < (NatCast.natCast (List.length t3.1.2.2.1))))
                              (cond (decide ((0 : Int) ≤ (Go.IntKind.wrap Go.IntKind.u64 (Int.tdiv (List.getD t3.1.2.2.1 (Int.toNat t3.1.1) (0 : Int)) (8 : Int)))))
                                (cond (decide ((Go.IntKind.wrap Go.IntKind.u64 (Int.tdiv (List.getD t3.1.2.2.1 (Int.toNat t3.1.1) (0 : Int)) (8 : Int))) < (NatCast.natCast (List.length t3.1.2.1))))
                                  (cond (decide ((0 : Int) ≤ t3.1.1))
                                    (cond (decide (t3.1.1 < (NatCast.natCast (List.length t3.1.2.2.1))))
                                      (cond (decide ((0 : Int) ≤ (Int.tmod (List.getD t3.1.2.2.1 (Int.toNat t3.1.1) (0 : Int)) (8 : Int))))
                                        (cond ((Int.tmod (ishr Go.IntKind.u8 (List.getD t3.1.2.1 (Int.toNat (Go.IntKind.wrap Go.IntKind.u64 (Int.tdiv (List.getD t3.1.2.2.1 (Int.toNat t3.1.1) (0 : Int)) (8 : Int)))) (0 : Int)) (Int.tmod (List.getD t3.1.2.2.1 (Int.toNat t3.1.1) (0 : Int)) (8 : Int))) (2 : Int)) == (0 : Int))
                                          (some (false, ()))
                                          (next4 (((Go.IntKind.wrap Go.IntKind.i64 (t3.1.1 + (1 : Int))), (t3.1.2.1, (t3.1.2.2.1, ()))), ((), ()))))
                                        (none))
                                      (none))
                                    (none))
                                  (none))
                                (none))
                              (none))
                            (none))
                          (some (true, ()))) k0 (((0 : Int), (xs1.1, (ys2.1, ()))), ((), ()))))
                    (none))
                  (none)))
              (none))
            (none)))
        (none))
      (none))
/-- moraine/morainelaw7.FilterBuilds -/
def F3 : Nat → ((List (List (Int))) × ((Int) × ((List (Int)) × ((List (Int)) × Unit)))) → Option ((Bool) × Unit) := fun (k0 : Nat) =>
  fun (xs1 : ((List (List Int)) × (Int × ((List Int) × ((List Int) × Unit))))) =>
  Option.bind (F5 1000 ())
  (fun (ys2 : (Bool × Unit)) =>
    cond (!ys2.1)
      (some (false, ()))
      (Option.bind (F6 k0 (xs1.1, ()))
      (fun (ys3 : (Bool × Unit)) =>
        cond (!ys3.1)
          (some (true, ()))
          (cond (decide ((2000 : Int) < (NatCast.natCast (List.length xs1.2.2.1))))
            (some (true, ()))
            (cond (decide ((500 : Int) < (NatCast.natCast (List.length xs1.2.2.2.1))))
              (some (true, ()))
              (Option.bind (F7 k0 (xs1.1, (xs1.2.1, ())))
              (fun (ys4 : ((List Int) × (Int × Unit))) =>
                Option.bind (F8 k0 (xs1.1, (xs1.2.1, ())))
                (fun (ys5 : ((List Int) × (Int × Unit))) =>
                  cond (ys4.2.1 == ys5.2.1)
                    (Option.bind (F9 k0 (ys4.1, (ys5.1, ())))
                    (fun (ys6 : (Bool × Unit)) =>
                      cond ys6.1
                        (Option.bind (F10 k0 (xs1.2.2.1, (xs1.2.2.2.1, ())))
                        (fun (ys7 : (Bool × Unit)) =>
                          Option.bind (F11 k0 (xs1.2.2.1, (xs1.2.2.2.1, ())))
                          (fun (ys8 : (Bool × Unit)) =>
                            cond (ys7.1 == ys8.1)
                              (Option.bind (F10 k0 (ys4.1, (xs1.2.2.2.1, ())))
                              (fun (ys9 : (Bool × Unit)) =>
                                Option.bind (F11 k0 (ys5.1, (xs1.2.2.2.1, ())))
                                (fun (ys10 : (Bool × Unit)) =>
                                  some ((ys9.1 == ys10.1), ()))))
                              (some (false, ())))))
                        (some (false, ()))))
                    (some (false, ()))))))))))
/-- moraine/morainelaw7.FilterHas -/
def F4 : Nat → ((List (List (Int))) × ((Int) × ((Int) × Unit))) → Option ((Bool) × Unit) := fun (k0 : Nat) =>
  fun (xs1 : ((List (List Int)) × (Int × (Int × Unit)))) =>
  Option.bind (F5 1000 ())
  (fun (ys2 : (Bool × Unit)) =>
    cond (!ys2.1)
      (some (false, ()))
      (Option.bind (F6 k0 (xs1.1, ()))
      (fun (ys3 : (Bool × Unit)) =>
        cond (!ys3.1)
          (some (true, ()))
          (Option.bind (F7 k0 (xs1.1, (xs1.2.1, ())))
          (fun (ys4 : ((List Int) × (Int × Unit))) =>
            cond (bne ys4.2.1 (0 : Int))
              (cond (ys4.2.1 == (71 : Int))
                (cond (decide (xs1.2.1 < (1 : Int)))
                  (some (true, ()))
                  (some ((decide ((64 : Int) < xs1.2.1)), ())))
                (some (false, ())))
              (iter (R := (Bool × Unit)) (τ := ((Int × ((List (List Int)) × (Int × (Int × ((List Int) × Unit))))) × (Unit × Unit))) (
                fun (t5 : ((Int × ((List (List Int)) × (Int × (Int × ((List Int) × Unit))))) × (Unit × Unit))) =>
                fun (next6 : (((Int × ((List (List Int)) × (Int × (Int × ((List Int) × Unit))))) × (Unit × Unit)) → (Option (Bool × Unit)))) =>
                cond (decide (t5.1.1 < (NatCast.natCast (List.length t5.1.2.1))))
                  (cond (decide ((0 : Int) ≤ t5.1.1))
                    (cond (decide (t5.1.1 < (NatCast.natCast (List.length t5.1.2.1))))
                      (Option.bind (F10 k0 (t5.1.2.2.2.2.1, ((List.getD t5.1.2.1 (Int.toNat t5.1.1) ([] : (List Int))), ())))
                      (fun (ys7 : (Bool × Unit)) =>
                        cond (!ys7.1)
                          (some (false, ()))
                          (next6 (((Go.IntKind.wrap Go.IntKind.i64 (t5.1.1 + (1 : Int))), (t5.1.2.1, (t5.1.2.2.1, (t5.1.2.2.2.1, (t5.1.2.2.2.2.1, ()))))), ((), ())))))
                      (none))
                    (none))
                  (cond ((NatCast.natCast (List.length t5.1.2.1)) == (0 : Int))
                    (some (true, ()))
                    (cond (decide ((NatCast.natCast (List.length t5.1.2.1)) = (0 : Int)))
                      (none)
                      (cond (decide ((NatCast.natCast (List.length t5.1.2.1)) = (0 : Int)))
                        (none)
                        (cond (decide ((0 : Int) ≤ (Int.tmod (Go.IntKind.wrap Go.IntKind.i64 ((Int.tmod t5.1.2.2.2.1 (NatCast.natCast (List.length t5.1.2.1))) + (NatCast.natCast (List.length t5.1.2.1)))) (NatCast.natCast (List.length t5.1.2.1)))))
                          (cond (decide ((Int.tmod (Go.IntKind.wrap Go.IntKind.i64 ((Int.tmod t5.1.2.2.2.1 (NatCast.natCast (List.length t5.1.2.1))) + (NatCast.natCast (List.length t5.1.2.1)))) (NatCast.natCast (List.length t5.1.2.1))) ≤ (NatCast.natCast (List.length t5.1.2.1))))
                            (cond (decide ((0 : Int) ≤ (Int.tmod (Go.IntKind.wrap Go.IntKind.i64 ((Int.tmod t5.1.2.2.2.1 (NatCast.natCast (List.length t5.1.2.1))) + (NatCast.natCast (List.length t5.1.2.1)))) (NatCast.natCast (List.length t5.1.2.1)))))
                              (cond (decide ((Int.tmod (Go.IntKind.wrap Go.IntKind.i64 ((Int.tmod t5.1.2.2.2.1 (NatCast.natCast (List.length t5.1.2.1))) + (NatCast.natCast (List.length t5.1.2.1)))) (NatCast.natCast (List.length t5.1.2.1))) ≤ (NatCast.natCast (List.length t5.1.2.1))))
                                (cond (decide (((List.length (List.drop (Int.toNat (Int.tmod (Go.IntKind.wrap Go.IntKind.i64 ((Int.tmod t5.1.2.2.2.1 (NatCast.natCast (List.length t5.1.2.1))) + (NatCast.natCast (List.length t5.1.2.1)))) (NatCast.natCast (List.length t5.1.2.1)))) t5.1.2.1)) * (24 : Nat)) ≤ (140737488355328 : Nat)))
                                  (cond (decide ((((List.length (List.drop (Int.toNat (Int.tmod (Go.IntKind.wrap Go.IntKind.i64 ((Int.tmod t5.1.2.2.2.1 (NatCast.natCast (List.length t5.1.2.1))) + (NatCast.natCast (List.length t5.1.2.1)))) (NatCast.natCast (List.length t5.1.2.1)))) t5.1.2.1)) + (List.length (List.take (Int.toNat (Int.tmod (Go.IntKind.wrap Go.IntKind.i64 ((Int.tmod t5.1.2.2.2.1 (NatCast.natCast (List.length t5.1.2.1))) + (NatCast.natCast (List.length t5.1.2.1)))) (NatCast.natCast (List.length t5.1.2.1)))) t5.1.2.1))) * (24 : Nat)) ≤ (140737488355328 : Nat)))
                                    (Option.bind (F7 k0 (((List.drop (Int.toNat (Int.tmod (Go.IntKind.wrap Go.IntKind.i64 ((Int.tmod t5.1.2.2.2.1 (NatCast.natCast (List.length t5.1.2.1))) + (NatCast.natCast (List.length t5.1.2.1)))) (NatCast.natCast (List.length t5.1.2.1)))) t5.1.2.1) ++ (List.take (Int.toNat (Int.tmod (Go.IntKind.wrap Go.IntKind.i64 ((Int.tmod t5.1.2.2.2.1 (NatCast.natCast (List.length t5.1.2.1))) + (NatCast.natCast (List.length t5.1.2.1)))) (NatCast.natCast (List.length t5.1.2.1)))) t5.1.2.1)), (t5.1.2.2.1, ())))
                                    (fun (ys7 : ((List Int) × (Int × Unit))) =>
                                      cond (ys7.2.1 == (0 : Int))
                                        (Option.bind (F9 k0 (t5.1.2.2.2.2.1, (ys7.1, ())))
                                        (fun (ys8 : (Bool × Unit)) =>
                                          some (ys8.1, ())))
                                        (some (false, ()))))
                                    (none))
                                  (none))
                                (none))
                              (none))
                            (none))
                          (none)))))) k0 (((0 : Int), (xs1.1, (xs1.2.1, (xs1.2.2.1, (ys4.1, ()))))), ((), ()))))))))
end Go.Proofs.Ytcihahfmdencfaa.Eng
