/- What the functions do, as plain Lean. -/
import Derived.Test.YtpgmkoaklpkecaaDoorEng20
set_option linter.unusedVariables false
namespace Go.Proofs.YtpgmkoaklpkecaaDoor.Eng
/-- moraine/wal.room -/
def F26 : Nat → ((Int) × Unit) → Option ((Int) × Unit) := fun (k0 : Nat) =>
  fun (xs1 : (Int × Unit)) =>
  some ((Go.IntKind.wrap Go.IntKind.i64 ((64 : Int) - (Int.tmod xs1.1 (64 : Int)))), ())
/-- moraine/codec.Sum -/
def F35 : Nat → ((List (Int)) × Unit) → Option ((Int) × Unit) := fun (k0 : Nat) =>
  fun (xs1 : ((List Int) × Unit)) =>
  iter (R := (Int × Unit)) (τ := ((Int × (Int × ((List Int) × (Int × Unit)))) × (Unit × Unit))) (
    fun (t2 : ((Int × (Int × ((List Int) × (Int × Unit)))) × (Unit × Unit))) =>
    fun (next3 : (((Int × (Int × ((List Int) × (Int × Unit)))) × (Unit × Unit)) → (Option (Int × Unit)))) =>
    cond (decide (t2.1.2.1 < t2.1.2.2.2.1))
      (cond (decide ((0 : Int) ≤ t2.1.2.1))
        (cond (decide (t2.1.2.1 < (NatCast.natCast (List.length t2.1.2.2.1) : Int)))
          (iter (R := (Int × Unit)) (τ := ((Int × (Int × ((List Int) × (Int × (Int × Unit))))) × (Unit × Unit))) (
            fun (t4 : ((Int × (Int × ((List Int) × (Int × (Int × Unit))))) × (Unit × Unit))) =>
            fun (next5 : (((Int × (Int × ((List Int) × (Int × (Int × Unit))))) × (Unit × Unit)) → (Option (Int × Unit)))) =>
            cond (decide (t4.1.2.1 < (8 : Int)))
              (next5 (((Go.bits Go.BinOp.xor Go.IntKind.u32 (ishr Go.IntKind.u32 t4.1.1 (1 : Int)) (Go.bits Go.BinOp.and Go.IntKind.u32 (2197175160 : Int) (Go.IntKind.wrap Go.IntKind.u32 ((0 : Int) - (Go.bits Go.BinOp.and Go.IntKind.u32 t4.1.1 (1 : Int)))))), ((Go.IntKind.wrap Go.IntKind.i64 (t4.1.2.1 + (1 : Int))), (t4.1.2.2.1, (t4.1.2.2.2.1, (t4.1.2.2.2.2.1, ()))))), ((), ())))
              (next3 ((t4.1.1, ((Go.IntKind.wrap Go.IntKind.i64 (t4.1.2.2.2.2.1 + (1 : Int))), (t4.1.2.2.1, (t4.1.2.2.2.1, ())))), ((), ())))) k0 (((Go.bits Go.BinOp.xor Go.IntKind.u32 t2.1.1 (Go.IntKind.wrap Go.IntKind.u32 (List.getD t2.1.2.2.1 (Int.toNat t2.1.2.1) (0 : Int)))), ((0 : Int), (t2.1.2.2.1, (t2.1.2.2.2.1, (t2.1.2.1, ()))))), ((), ())))
          (none))
        (none))
      (some ((Go.bits Go.BinOp.xor Go.IntKind.u32 (4294967295 : Int) t2.1.1), ()))) k0 (((4294967295 : Int), ((0 : Int), (xs1.1, ((NatCast.natCast (List.length xs1.1) : Int), ())))), ((), ()))
/-- moraine/codec.unfixed -/
def F48 : Nat → ((List (Int)) × ((Int) × Unit)) → Option ((Int) × ((Int) × Unit)) := fun (k0 : Nat) =>
  fun (xs1 : ((List Int) × (Int × Unit))) =>
  cond (decide ((NatCast.natCast (List.length xs1.1) : Int) < xs1.2.1))
    (some ((0 : Int), ((20 : Int), ())))
    (iter (R := (Int × (Int × Unit))) (τ := ((Int × (Int × ((List Int) × (Int × Unit)))) × (Unit × Unit))) (
      fun (t2 : ((Int × (Int × ((List Int) × (Int × Unit)))) × (Unit × Unit))) =>
      fun (next3 : (((Int × (Int × ((List Int) × (Int × Unit)))) × (Unit × Unit)) → (Option (Int × (Int × Unit))))) =>
      cond (decide (t2.1.2.1 < t2.1.2.2.2.1))
        (cond (decide ((0 : Int) ≤ t2.1.2.1))
          (cond (decide (t2.1.2.1 < (NatCast.natCast (List.length t2.1.2.2.1) : Int)))
            (cond (decide ((0 : Int) ≤ (Go.IntKind.wrap Go.IntKind.i64 ((8 : Int) * t2.1.2.1))))
              (next3 (((Go.bits Go.BinOp.or Go.IntKind.u64 t2.1.1 (ishl Go.IntKind.u64 (Go.IntKind.wrap Go.IntKind.u64 (List.getD t2.1.2.2.1 (Int.toNat t2.1.2.1) (0 : Int))) (Go.IntKind.wrap Go.IntKind.i64 ((8 : Int) * t2.1.2.1)))), ((Go.IntKind.wrap Go.IntKind.i64 (t2.1.2.1 + (1 : Int))), (t2.1.2.2.1, (t2.1.2.2.2.1, ())))), ((), ())))
              (none))
            (none))
          (none))
        (some (t2.1.1, ((0 : Int), ())))) k0 (((0 : Int), ((0 : Int), (xs1.1, (xs1.2.1, ())))), ((), ())))
/-- moraine/codec.Unfixed4 -/
def F38 : Nat → ((List (Int)) × Unit) → Option ((Int) × ((Int) × Unit)) := fun (k0 : Nat) =>
  fun (xs1 : ((List Int) × Unit)) =>
  Option.bind (F48 k0 (xs1.1, ((4 : Int), ())))
  (fun (ys2 : (Int × (Int × Unit))) =>
    some ((Go.IntKind.wrap Go.IntKind.u32 ys2.1), (ys2.2.1, ())))
/-- moraine/wal.record -/
def F24 : Nat → ((List (Int)) × ((Int) × Unit)) → Option ((List (Int)) × ((Int) × ((Bool) × Unit))) := fun (k0 : Nat) =>
  fun (xs1 : ((List Int) × (Int × Unit))) =>
  iter (R := ((List Int) × (Int × (Bool × Unit)))) (τ := ((Int × (Bool × ((List Int) × (Unit × ((Unit × (Unit × Unit)) × Unit))))) × (Unit × ((List Int) × ((Unit × Unit) × Unit))))) (
    fun (t2 : ((Int × (Bool × ((List Int) × (Unit × ((Unit × (Unit × Unit)) × Unit))))) × (Unit × ((List Int) × ((Unit × Unit) × Unit))))) =>
    fun (next3 : (((Int × (Bool × ((List Int) × (Unit × ((Unit × (Unit × Unit)) × Unit))))) × (Unit × ((List Int) × ((Unit × Unit) × Unit)))) → (Option ((List Int) × (Int × (Bool × Unit)))))) =>
    ajoin (τ := ((Int × ((List Int) × (Unit × Unit))) × (((List Int) × (Int × (Unit × ((Unit × (Unit × Unit)) × (Bool × ((List Int) × (Int × Unit))))))) × ((List Int) × ((Unit × Unit) × ((Int × (Unit × (Bool × Unit))) × Unit)))))) (R := ((List Int) × (Int × (Bool × Unit)))) (
      fun (k4 : (((Int × ((List Int) × (Unit × Unit))) × (((List Int) × (Int × (Unit × ((Unit × (Unit × Unit)) × (Bool × ((List Int) × (Int × Unit))))))) × ((List Int) × ((Unit × Unit) × ((Int × (Unit × (Bool × Unit))) × Unit))))) → (Option ((List Int) × (Int × (Bool × Unit)))))) =>
      Option.bind (F26 k0 (t2.1.1, ()))
      (fun (ys5 : (Int × Unit)) =>
        cond (decide (ys5.1 < (7 : Int)))
          (cond (decide ((0 : Int) ≤ t2.1.1))
            (cond (decide (t2.1.1 ≤ (Min.min (Go.IntKind.wrap Go.IntKind.i64 (t2.1.1 + ys5.1)) (NatCast.natCast (List.length t2.1.2.2.1) : Int))))
              (cond (decide ((Min.min (Go.IntKind.wrap Go.IntKind.i64 (t2.1.1 + ys5.1)) (NatCast.natCast (List.length t2.1.2.2.1) : Int)) ≤ (NatCast.natCast (List.length t2.1.2.2.1) : Int)))
                (cond ((NatCast.natCast (List.length (List.drop (Int.toNat t2.1.1) (List.take (Int.toNat (Min.min (Go.IntKind.wrap Go.IntKind.i64 (t2.1.1 + ys5.1)) (NatCast.natCast (List.length t2.1.2.2.1) : Int))) t2.1.2.2.1))) : Int) == (0 : Int))
                  (k4 (((Go.IntKind.wrap Go.IntKind.i64 (t2.1.1 + ys5.1)), (t2.1.2.2.1, ((), ()))), ((t2.1.2.2.1, (t2.1.1, ((), (((), ((), ())), (t2.1.2.1, (t2.1.2.2.1, (t2.1.1, ()))))))), (t2.2.2.1, (((), ()), (((0 : Int), ((), (false, ()))), ()))))))
                  (iter (R := ((List Int) × (Int × (Bool × Unit)))) (τ := (((List Int) × (Int × Unit)) × (((List Int) × ((List Int) × ((List Int) × ((List Int) × (Int × ((List Int) × (Int × ((List Int) × (Int × (Unit × (Int × (Int × ((List Int) × (Int × (Int × ((List Int) × ((List Int) × (Int × (Unit × ((Unit × (Unit × Unit)) × (Bool × ((List Int) × (Int × Unit))))))))))))))))))))))) × ((List Int) × ((Unit × Unit) × ((Int × (Unit × (Bool × Unit))) × Unit)))))) (
                    fun (t6 : (((List Int) × (Int × Unit)) × (((List Int) × ((List Int) × ((List Int) × ((List Int) × (Int × ((List Int) × (Int × ((List Int) × (Int × (Unit × (Int × (Int × ((List Int) × (Int × (Int × ((List Int) × ((List Int) × (Int × (Unit × ((Unit × (Unit × Unit)) × (Bool × ((List Int) × (Int × Unit))))))))))))))))))))))) × ((List Int) × ((Unit × Unit) × ((Int × (Unit × (Bool × Unit))) × Unit)))))) =>
                    fun (next7 : ((((List Int) × (Int × Unit)) × (((List Int) × ((List Int) × ((List Int) × ((List Int) × (Int × ((List Int) × (Int × ((List Int) × (Int × (Unit × (Int × (Int × ((List Int) × (Int × (Int × ((List Int) × ((List Int) × (Int × (Unit × ((Unit × (Unit × Unit)) × (Bool × ((List Int) × (Int × Unit))))))))))))))))))))))) × ((List Int) × ((Unit × Unit) × ((Int × (Unit × (Bool × Unit))) × Unit))))) → (Option ((List Int) × (Int × (Bool × Unit)))))) =>
                    cond (decide ((0 : Int) < (NatCast.natCast (List.length t6.1.1) : Int)))
                      (cond (decide ((0 : Int) ≤ (Go.IntKind.wrap Go.IntKind.i64 ((NatCast.natCast (List.length t6.1.1) : Int) - (1 : Int)))))
                        (cond (decide ((Go.IntKind.wrap Go.IntKind.i64 ((NatCast.natCast (List.length t6.1.1) : Int) - (1 : Int))) < (NatCast.natCast (List.length t6.1.1) : Int)))
                          (cond ((List.getD t6.1.1 (Int.toNat (Go.IntKind.wrap Go.IntKind.i64 ((NatCast.natCast (List.length t6.1.1) : Int) - (1 : Int)))) (0 : Int)) == t6.1.2.1)
                            (cond (decide ((0 : Int) ≤ (Go.IntKind.wrap Go.IntKind.i64 ((NatCast.natCast (List.length t6.1.1) : Int) - (1 : Int)))))
                              (cond (decide ((Go.IntKind.wrap Go.IntKind.i64 ((NatCast.natCast (List.length t6.1.1) : Int) - (1 : Int))) ≤ (NatCast.natCast (List.length t6.1.1) : Int)))
                                (next7 (((List.take (Int.toNat (Go.IntKind.wrap Go.IntKind.i64 ((NatCast.natCast (List.length t6.1.1) : Int) - (1 : Int)))) t6.1.1), (t6.1.2.1, ())), ((t6.2.1.1, (t6.2.1.2.1, (t6.2.1.2.2.1, (t6.2.1.2.2.2.1, (t6.2.1.2.2.2.2.1, (t6.2.1.2.2.2.2.2.1, (t6.2.1.2.2.2.2.2.2.1, (t6.2.1.2.2.2.2.2.2.2.1, (t6.2.1.2.2.2.2.2.2.2.2.1, ((), (t6.2.1.2.2.2.2.2.2.2.2.2.2.1, (t6.2.1.2.2.2.2.2.2.2.2.2.2.2.1, (t6.2.1.2.2.2.2.2.2.2.2.2.2.2.2.1, (t6.2.1.2.2.2.2.2.2.2.2.2.2.2.2.2.1, (t6.2.1.2.2.2.2.2.2.2.2.2.2.2.2.2.2.1, (t6.2.1.2.2.2.2.2.2.2.2.2.2.2.2.2.2.2.1, (t6.2.1.2.2.2.2.2.2.2.2.2.2.2.2.2.2.2.2.1, (t6.2.1.2.2.2.2.2.2.2.2.2.2.2.2.2.2.2.2.2.1, ((), (((), ((), ())), (t6.2.1.2.2.2.2.2.2.2.2.2.2.2.2.2.2.2.2.2.2.2.2.1, (t6.2.1.2.2.2.2.2.2.2.2.2.2.2.2.2.2.2.2.2.2.2.2.2.1, (t6.2.1.2.2.2.2.2.2.2.2.2.2.2.2.2.2.2.2.2.2.2.2.2.2.1, ()))))))))))))))))))))))), (t6.2.2.1, (((), ()), ((t6.2.2.2.2.1.1, ((), (t6.2.2.2.2.1.2.2.1, ()))), ()))))))
                                (none))
                              (none))
                            (iter (R := ((List Int) × (Int × (Bool × Unit)))) (τ := (((List Int) × (Int × Unit)) × (((List Int) × ((List Int) × ((List Int) × ((List Int) × (Int × ((List Int) × ((List Int) × (Int × ((List Int) × (Int × (Unit × (Int × (Int × ((List Int) × (Int × (Int × ((List Int) × ((List Int) × (Int × (Unit × ((Unit × (Unit × Unit)) × (Bool × ((List Int) × (Int × Unit)))))))))))))))))))))))) × ((List Int) × ((Unit × Unit) × ((Int × (Unit × (Bool × Unit))) × Unit)))))) (
                              fun (t8 : (((List Int) × (Int × Unit)) × (((List Int) × ((List Int) × ((List Int) × ((List Int) × (Int × ((List Int) × ((List Int) × (Int × ((List Int) × (Int × (Unit × (Int × (Int × ((List Int) × (Int × (Int × ((List Int) × ((List Int) × (Int × (Unit × ((Unit × (Unit × Unit)) × (Bool × ((List Int) × (Int × Unit)))))))))))))))))))))))) × ((List Int) × ((Unit × Unit) × ((Int × (Unit × (Bool × Unit))) × Unit)))))) =>
                              fun (next9 : ((((List Int) × (Int × Unit)) × (((List Int) × ((List Int) × ((List Int) × ((List Int) × (Int × ((List Int) × ((List Int) × (Int × ((List Int) × (Int × (Unit × (Int × (Int × ((List Int) × (Int × (Int × ((List Int) × ((List Int) × (Int × (Unit × ((Unit × (Unit × Unit)) × (Bool × ((List Int) × (Int × Unit)))))))))))))))))))))))) × ((List Int) × ((Unit × Unit) × ((Int × (Unit × (Bool × Unit))) × Unit))))) → (Option ((List Int) × (Int × (Bool × Unit)))))) =>
                              cond (decide ((0 : Int) < (NatCast.natCast (List.length t8.1.1) : Int)))
                                (cond (decide ((0 : Int) < (NatCast.natCast (List.length t8.1.1) : Int)))
                                  (cond ((List.getD t8.1.1 (0 : Nat) (0 : Int)) == t8.1.2.1)
                                    (cond (decide ((1 : Int) ≤ (NatCast.natCast (List.length t8.1.1) : Int)))
                                      (next9 (((List.drop (1 : Nat) t8.1.1), (t8.1.2.1, ())), ((t8.2.1.1, (t8.2.1.2.1, (t8.2.1.2.2.1, (t8.2.1.2.2.2.1, (t8.2.1.2.2.2.2.1, (t8.2.1.2.2.2.2.2.1, (t8.2.1.2.2.2.2.2.2.1, (t8.2.1.2.2.2.2.2.2.2.1, (t8.2.1.2.2.2.2.2.2.2.2.1, (t8.2.1.2.2.2.2.2.2.2.2.2.1, ((), (t8.2.1.2.2.2.2.2.2.2.2.2.2.2.1, (t8.2.1.2.2.2.2.2.2.2.2.2.2.2.2.1, (t8.2.1.2.2.2.2.2.2.2.2.2.2.2.2.2.1, (t8.2.1.2.2.2.2.2.2.2.2.2.2.2.2.2.2.1, (t8.2.1.2.2.2.2.2.2.2.2.2.2.2.2.2.2.2.1, (t8.2.1.2.2.2.2.2.2.2.2.2.2.2.2.2.2.2.2.1, (t8.2.1.2.2.2.2.2.2.2.2.2.2.2.2.2.2.2.2.2.1, (t8.2.1.2.2.2.2.2.2.2.2.2.2.2.2.2.2.2.2.2.2.1, ((), (((), ((), ())), (t8.2.1.2.2.2.2.2.2.2.2.2.2.2.2.2.2.2.2.2.2.2.2.2.1, (t8.2.1.2.2.2.2.2.2.2.2.2.2.2.2.2.2.2.2.2.2.2.2.2.2.1, (t8.2.1.2.2.2.2.2.2.2.2.2.2.2.2.2.2.2.2.2.2.2.2.2.2.2.1, ())))))))))))))))))))))))), (t8.2.2.1, (((), ()), ((t8.2.2.2.2.1.1, ((), (t8.2.2.2.2.1.2.2.1, ()))), ()))))))
                                      (none))
                                    (cond ((NatCast.natCast (List.length t8.1.1) : Int) == (0 : Int))
                                      (k4 (((Go.IntKind.wrap Go.IntKind.i64 (t8.2.1.2.2.2.2.2.2.2.2.2.1 + t8.2.1.2.2.2.2.2.2.2.2.2.2.2.1)), (t8.2.1.2.2.2.2.2.2.2.2.1, ((), ()))), ((t8.2.1.2.2.2.2.2.2.2.2.2.2.2.2.2.2.2.2.2.1, (t8.2.1.2.2.2.2.2.2.2.2.2.2.2.2.2.2.2.2.2.2.1, ((), (((), ((), ())), (t8.2.1.2.2.2.2.2.2.2.2.2.2.2.2.2.2.2.2.2.2.2.2.2.1, (t8.2.1.2.2.2.2.2.2.2.2.2.2.2.2.2.2.2.2.2.2.2.2.2.2.1, (t8.2.1.2.2.2.2.2.2.2.2.2.2.2.2.2.2.2.2.2.2.2.2.2.2.2.1, ()))))))), (t8.2.2.1, (((), ()), ((t8.2.2.2.2.1.1, ((), (t8.2.2.2.2.1.2.2.1, ()))), ()))))))
                                      (cond (decide ((0 : Int) < (NatCast.natCast (List.length t8.1.1) : Int)))
                                        (ajoin (τ := (((List Int) × (Unit × ((Unit × (Unit × Unit)) × (Bool × (Unit × (Int × Unit)))))) × (Unit × ((Int × (Unit × (Bool × Unit))) × ((List Int) × ((Unit × Unit) × Unit)))))) (R := ((List Int) × (Int × (Bool × Unit)))) (
                                          fun (k10 : ((((List Int) × (Unit × ((Unit × (Unit × Unit)) × (Bool × (Unit × (Int × Unit)))))) × (Unit × ((Int × (Unit × (Bool × Unit))) × ((List Int) × ((Unit × Unit) × Unit))))) → (Option ((List Int) × (Int × (Bool × Unit)))))) =>
                                          some (([] : (List Int)), ((0 : Int), (false, ()))))
                                        (fun (t10 : (((List Int) × (Unit × ((Unit × (Unit × Unit)) × (Bool × (Unit × (Int × Unit)))))) × (Unit × ((Int × (Unit × (Bool × Unit))) × ((List Int) × ((Unit × Unit) × Unit)))))) =>
                                          cond (t10.2.2.1.1 == (2 : Int))
                                            (cond t10.1.2.2.2.1
                                              (some (([] : (List Int)), ((0 : Int), (false, ()))))
                                              (cond (!t10.2.2.1.2.2.1)
                                                (some (([] : (List Int)), ((0 : Int), (false, ()))))
                                                (next3 ((t10.1.2.2.2.2.2.1, (true, (t10.1.1, ((), (((), ((), ())), ()))))), ((), (t10.2.2.2.1, (((), ()), ())))))))
                                            (cond (t10.2.2.1.1 == (3 : Int))
                                              (cond (!t10.1.2.2.2.1)
                                                (some (([] : (List Int)), ((0 : Int), (false, ()))))
                                                (cond (!t10.2.2.1.2.2.1)
                                                  (some (([] : (List Int)), ((0 : Int), (false, ()))))
                                                  (next3 ((t10.1.2.2.2.2.2.1, (t10.1.2.2.2.1, (t10.1.1, ((), (((), ((), ())), ()))))), ((), (t10.2.2.2.1, (((), ()), ())))))))
                                              (cond (t10.2.2.1.1 == (1 : Int))
                                                (some (t10.2.2.2.1, (t10.1.2.2.2.2.2.1, ((!t10.1.2.2.2.1), ()))))
                                                (cond (t10.2.2.1.1 == (4 : Int))
                                                  (some (t10.2.2.2.1, (t10.1.2.2.2.2.2.1, (t10.1.2.2.2.1, ()))))
                                                  (some (([] : (List Int)), ((0 : Int), (false, ())))))))))
                                        (k4 (((Go.IntKind.wrap Go.IntKind.i64 (t8.2.1.2.2.2.2.2.2.2.2.2.1 + t8.2.1.2.2.2.2.2.2.2.2.2.2.2.1)), (t8.2.1.2.2.2.2.2.2.2.2.1, ((), ()))), ((t8.2.1.2.2.2.2.2.2.2.2.2.2.2.2.2.2.2.2.2.1, (t8.2.1.2.2.2.2.2.2.2.2.2.2.2.2.2.2.2.2.2.2.1, ((), (((), ((), ())), (t8.2.1.2.2.2.2.2.2.2.2.2.2.2.2.2.2.2.2.2.2.2.2.2.1, (t8.2.1.2.2.2.2.2.2.2.2.2.2.2.2.2.2.2.2.2.2.2.2.2.2.1, (t8.2.1.2.2.2.2.2.2.2.2.2.2.2.2.2.2.2.2.2.2.2.2.2.2.2.1, ()))))))), (t8.2.2.1, (((), ()), ((t8.2.2.2.2.1.1, ((), (t8.2.2.2.2.1.2.2.1, ()))), ())))))))))
                                  (none))
                                (cond ((NatCast.natCast (List.length t8.1.1) : Int) == (0 : Int))
                                  (k4 (((Go.IntKind.wrap Go.IntKind.i64 (t8.2.1.2.2.2.2.2.2.2.2.2.1 + t8.2.1.2.2.2.2.2.2.2.2.2.2.2.1)), (t8.2.1.2.2.2.2.2.2.2.2.1, ((), ()))), ((t8.2.1.2.2.2.2.2.2.2.2.2.2.2.2.2.2.2.2.2.1, (t8.2.1.2.2.2.2.2.2.2.2.2.2.2.2.2.2.2.2.2.2.1, ((), (((), ((), ())), (t8.2.1.2.2.2.2.2.2.2.2.2.2.2.2.2.2.2.2.2.2.2.2.2.1, (t8.2.1.2.2.2.2.2.2.2.2.2.2.2.2.2.2.2.2.2.2.2.2.2.2.1, (t8.2.1.2.2.2.2.2.2.2.2.2.2.2.2.2.2.2.2.2.2.2.2.2.2.2.1, ()))))))), (t8.2.2.1, (((), ()), ((t8.2.2.2.2.1.1, ((), (t8.2.2.2.2.1.2.2.1, ()))), ()))))))
                                  (cond (decide ((0 : Int) < (NatCast.natCast (List.length t8.1.1) : Int)))
                                    (ajoin (τ := (((List Int) × (Unit × ((Unit × (Unit × Unit)) × (Bool × (Unit × (Int × Unit)))))) × (Unit × ((Int × (Unit × (Bool × Unit))) × ((List Int) × ((Unit × Unit) × Unit)))))) (R := ((List Int) × (Int × (Bool × Unit)))) (
                                      fun (k10 : ((((List Int) × (Unit × ((Unit × (Unit × Unit)) × (Bool × (Unit × (Int × Unit)))))) × (Unit × ((Int × (Unit × (Bool × Unit))) × ((List Int) × ((Unit × Unit) × Unit))))) → (Option ((List Int) × (Int × (Bool × Unit)))))) =>
                                      some (([] : (List Int)), ((0 : Int), (false, ()))))
                                    (fun (t10 : (((List Int) × (Unit × ((Unit × (Unit × Unit)) × (Bool × (Unit × (Int × Unit)))))) × (Unit × ((Int × (Unit × (Bool × Unit))) × ((List Int) × ((Unit × Unit) × Unit)))))) =>
                                      cond (t10.2.2.1.1 == (2 : Int))
                                        (cond t10.1.2.2.2.1
                                          (some (([] : (List Int)), ((0 : Int), (false, ()))))
                                          (cond (!t10.2.2.1.2.2.1)
                                            (some (([] : (List Int)), ((0 : Int), (false, ()))))
                                            (next3 ((t10.1.2.2.2.2.2.1, (true, (t10.1.1, ((), (((), ((), ())), ()))))), ((), (t10.2.2.2.1, (((), ()), ())))))))
                                        (cond (t10.2.2.1.1 == (3 : Int))
                                          (cond (!t10.1.2.2.2.1)
                                            (some (([] : (List Int)), ((0 : Int), (false, ()))))
                                            (cond (!t10.2.2.1.2.2.1)
                                              (some (([] : (List Int)), ((0 : Int), (false, ()))))
                                              (next3 ((t10.1.2.2.2.2.2.1, (t10.1.2.2.2.1, (t10.1.1, ((), (((), ((), ())), ()))))), ((), (t10.2.2.2.1, (((), ()), ())))))))
                                          (cond (t10.2.2.1.1 == (1 : Int))
                                            (some (t10.2.2.2.1, (t10.1.2.2.2.2.2.1, ((!t10.1.2.2.2.1), ()))))
                                            (cond (t10.2.2.1.1 == (4 : Int))
                                              (some (t10.2.2.2.1, (t10.1.2.2.2.2.2.1, (t10.1.2.2.2.1, ()))))
                                              (some (([] : (List Int)), ((0 : Int), (false, ())))))))))
                                    (k4 (((Go.IntKind.wrap Go.IntKind.i64 (t8.2.1.2.2.2.2.2.2.2.2.2.1 + t8.2.1.2.2.2.2.2.2.2.2.2.2.2.1)), (t8.2.1.2.2.2.2.2.2.2.2.1, ((), ()))), ((t8.2.1.2.2.2.2.2.2.2.2.2.2.2.2.2.2.2.2.2.1, (t8.2.1.2.2.2.2.2.2.2.2.2.2.2.2.2.2.2.2.2.2.1, ((), (((), ((), ())), (t8.2.1.2.2.2.2.2.2.2.2.2.2.2.2.2.2.2.2.2.2.2.2.2.1, (t8.2.1.2.2.2.2.2.2.2.2.2.2.2.2.2.2.2.2.2.2.2.2.2.2.1, (t8.2.1.2.2.2.2.2.2.2.2.2.2.2.2.2.2.2.2.2.2.2.2.2.2.2.1, ()))))))), (t8.2.2.1, (((), ()), ((t8.2.2.2.2.1.1, ((), (t8.2.2.2.2.1.2.2.1, ()))), ()))))))))) k0 ((t6.1.1, (t6.2.1.2.2.2.2.2.2.1, ())), ((t6.2.1.1, (t6.2.1.2.1, (t6.2.1.2.2.1, (t6.2.1.2.2.2.1, (t6.2.1.2.2.2.2.1, (t6.1.1, (t6.2.1.2.2.2.2.2.1, (t6.2.1.2.2.2.2.2.2.1, (t6.2.1.2.2.2.2.2.2.2.1, (t6.2.1.2.2.2.2.2.2.2.2.1, ((), (t6.2.1.2.2.2.2.2.2.2.2.2.2.1, (t6.2.1.2.2.2.2.2.2.2.2.2.2.2.1, (t6.2.1.2.2.2.2.2.2.2.2.2.2.2.2.1, (t6.2.1.2.2.2.2.2.2.2.2.2.2.2.2.2.1, (t6.2.1.2.2.2.2.2.2.2.2.2.2.2.2.2.2.1, (t6.2.1.2.2.2.2.2.2.2.2.2.2.2.2.2.2.2.1, (t6.2.1.2.2.2.2.2.2.2.2.2.2.2.2.2.2.2.2.1, (t6.2.1.2.2.2.2.2.2.2.2.2.2.2.2.2.2.2.2.2.1, ((), (((), ((), ())), (t6.2.1.2.2.2.2.2.2.2.2.2.2.2.2.2.2.2.2.2.2.2.2.1, (t6.2.1.2.2.2.2.2.2.2.2.2.2.2.2.2.2.2.2.2.2.2.2.2.1, (t6.2.1.2.2.2.2.2.2.2.2.2.2.2.2.2.2.2.2.2.2.2.2.2.2.1, ())))))))))))))))))))))))), (t6.2.2.1, (((), ()), ((t6.2.2.2.2.1.1, ((), (t6.2.2.2.2.1.2.2.1, ()))), ())))))))
                          (none))
                        (none))
                      (iter (R := ((List Int) × (Int × (Bool × Unit)))) (τ := (((List Int) × (Int × Unit)) × (((List Int) × ((List Int) × ((List Int) × ((List Int) × (Int × ((List Int) × ((List Int) × (Int × ((List Int) × (Int × (Unit × (Int × (Int × ((List Int) × (Int × (Int × ((List Int) × ((List Int) × (Int × (Unit × ((Unit × (Unit × Unit)) × (Bool × ((List Int) × (Int × Unit)))))))))))))))))))))))) × ((List Int) × ((Unit × Unit) × ((Int × (Unit × (Bool × Unit))) × Unit)))))) (
                        fun (t8 : (((List Int) × (Int × Unit)) × (((List Int) × ((List Int) × ((List Int) × ((List Int) × (Int × ((List Int) × ((List Int) × (Int × ((List Int) × (Int × (Unit × (Int × (Int × ((List Int) × (Int × (Int × ((List Int) × ((List Int) × (Int × (Unit × ((Unit × (Unit × Unit)) × (Bool × ((List Int) × (Int × Unit)))))))))))))))))))))))) × ((List Int) × ((Unit × Unit) × ((Int × (Unit × (Bool × Unit))) × Unit)))))) =>
                        fun (next9 : ((((List Int) × (Int × Unit)) × (((List Int) × ((List Int) × ((List Int) × ((List Int) × (Int × ((List Int) × ((List Int) × (Int × ((List Int) × (Int × (Unit × (Int × (Int × ((List Int) × (Int × (Int × ((List Int) × ((List Int) × (Int × (Unit × ((Unit × (Unit × Unit)) × (Bool × ((List Int) × (Int × Unit)))))))))))))))))))))))) × ((List Int) × ((Unit × Unit) × ((Int × (Unit × (Bool × Unit))) × Unit))))) → (Option ((List Int) × (Int × (Bool × Unit)))))) =>
                        cond (decide ((0 : Int) < (NatCast.natCast (List.length t8.1.1) : Int)))
                          (cond (decide ((0 : Int) < (NatCast.natCast (List.length t8.1.1) : Int)))
                            (cond ((List.getD t8.1.1 (0 : Nat) (0 : Int)) == t8.1.2.1)
                              (cond (decide ((1 : Int) ≤ (NatCast.natCast (List.length t8.1.1) : Int)))
                                (next9 (((List.drop (1 : Nat) t8.1.1), (t8.1.2.1, ())), ((t8.2.1.1, (t8.2.1.2.1, (t8.2.1.2.2.1, (t8.2.1.2.2.2.1, (t8.2.1.2.2.2.2.1, (t8.2.1.2.2.2.2.2.1, (t8.2.1.2.2.2.2.2.2.1, (t8.2.1.2.2.2.2.2.2.2.1, (t8.2.1.2.2.2.2.2.2.2.2.1, (t8.2.1.2.2.2.2.2.2.2.2.2.1, ((), (t8.2.1.2.2.2.2.2.2.2.2.2.2.2.1, (t8.2.1.2.2.2.2.2.2.2.2.2.2.2.2.1, (t8.2.1.2.2.2.2.2.2.2.2.2.2.2.2.2.1, (t8.2.1.2.2.2.2.2.2.2.2.2.2.2.2.2.2.1, (t8.2.1.2.2.2.2.2.2.2.2.2.2.2.2.2.2.2.1, (t8.2.1.2.2.2.2.2.2.2.2.2.2.2.2.2.2.2.2.1, (t8.2.1.2.2.2.2.2.2.2.2.2.2.2.2.2.2.2.2.2.1, (t8.2.1.2.2.2.2.2.2.2.2.2.2.2.2.2.2.2.2.2.2.1, ((), (((), ((), ())), (t8.2.1.2.2.2.2.2.2.2.2.2.2.2.2.2.2.2.2.2.2.2.2.2.1, (t8.2.1.2.2.2.2.2.2.2.2.2.2.2.2.2.2.2.2.2.2.2.2.2.2.1, (t8.2.1.2.2.2.2.2.2.2.2.2.2.2.2.2.2.2.2.2.2.2.2.2.2.2.1, ())))))))))))))))))))))))), (t8.2.2.1, (((), ()), ((t8.2.2.2.2.1.1, ((), (t8.2.2.2.2.1.2.2.1, ()))), ()))))))
                                (none))
                              (cond ((NatCast.natCast (List.length t8.1.1) : Int) == (0 : Int))
                                (k4 (((Go.IntKind.wrap Go.IntKind.i64 (t8.2.1.2.2.2.2.2.2.2.2.2.1 + t8.2.1.2.2.2.2.2.2.2.2.2.2.2.1)), (t8.2.1.2.2.2.2.2.2.2.2.1, ((), ()))), ((t8.2.1.2.2.2.2.2.2.2.2.2.2.2.2.2.2.2.2.2.1, (t8.2.1.2.2.2.2.2.2.2.2.2.2.2.2.2.2.2.2.2.2.1, ((), (((), ((), ())), (t8.2.1.2.2.2.2.2.2.2.2.2.2.2.2.2.2.2.2.2.2.2.2.2.1, (t8.2.1.2.2.2.2.2.2.2.2.2.2.2.2.2.2.2.2.2.2.2.2.2.2.1, (t8.2.1.2.2.2.2.2.2.2.2.2.2.2.2.2.2.2.2.2.2.2.2.2.2.2.1, ()))))))), (t8.2.2.1, (((), ()), ((t8.2.2.2.2.1.1, ((), (t8.2.2.2.2.1.2.2.1, ()))), ()))))))
                                (cond (decide ((0 : Int) < (NatCast.natCast (List.length t8.1.1) : Int)))
                                  (ajoin (τ := (((List Int) × (Unit × ((Unit × (Unit × Unit)) × (Bool × (Unit × (Int × Unit)))))) × (Unit × ((Int × (Unit × (Bool × Unit))) × ((List Int) × ((Unit × Unit) × Unit)))))) (R := ((List Int) × (Int × (Bool × Unit)))) (
                                    fun (k10 : ((((List Int) × (Unit × ((Unit × (Unit × Unit)) × (Bool × (Unit × (Int × Unit)))))) × (Unit × ((Int × (Unit × (Bool × Unit))) × ((List Int) × ((Unit × Unit) × Unit))))) → (Option ((List Int) × (Int × (Bool × Unit)))))) =>
                                    some (([] : (List Int)), ((0 : Int), (false, ()))))
                                  (fun (t10 : (((List Int) × (Unit × ((Unit × (Unit × Unit)) × (Bool × (Unit × (Int × Unit)))))) × (Unit × ((Int × (Unit × (Bool × Unit))) × ((List Int) × ((Unit × Unit) × Unit)))))) =>
                                    cond (t10.2.2.1.1 == (2 : Int))
                                      (cond t10.1.2.2.2.1
                                        (some (([] : (List Int)), ((0 : Int), (false, ()))))
                                        (cond (!t10.2.2.1.2.2.1)
                                          (some (([] : (List Int)), ((0 : Int), (false, ()))))
                                          (next3 ((t10.1.2.2.2.2.2.1, (true, (t10.1.1, ((), (((), ((), ())), ()))))), ((), (t10.2.2.2.1, (((), ()), ())))))))
                                      (cond (t10.2.2.1.1 == (3 : Int))
                                        (cond (!t10.1.2.2.2.1)
                                          (some (([] : (List Int)), ((0 : Int), (false, ()))))
                                          (cond (!t10.2.2.1.2.2.1)
                                            (some (([] : (List Int)), ((0 : Int), (false, ()))))
                                            (next3 ((t10.1.2.2.2.2.2.1, (t10.1.2.2.2.1, (t10.1.1, ((), (((), ((), ())), ()))))), ((), (t10.2.2.2.1, (((), ()), ())))))))
                                        (cond (t10.2.2.1.1 == (1 : Int))
                                          (some (t10.2.2.2.1, (t10.1.2.2.2.2.2.1, ((!t10.1.2.2.2.1), ()))))
                                          (cond (t10.2.2.1.1 == (4 : Int))
                                            (some (t10.2.2.2.1, (t10.1.2.2.2.2.2.1, (t10.1.2.2.2.1, ()))))
                                            (some (([] : (List Int)), ((0 : Int), (false, ())))))))))
                                  (k4 (((Go.IntKind.wrap Go.IntKind.i64 (t8.2.1.2.2.2.2.2.2.2.2.2.1 + t8.2.1.2.2.2.2.2.2.2.2.2.2.2.1)), (t8.2.1.2.2.2.2.2.2.2.2.1, ((), ()))), ((t8.2.1.2.2.2.2.2.2.2.2.2.2.2.2.2.2.2.2.2.1, (t8.2.1.2.2.2.2.2.2.2.2.2.2.2.2.2.2.2.2.2.2.1, ((), (((), ((), ())), (t8.2.1.2.2.2.2.2.2.2.2.2.2.2.2.2.2.2.2.2.2.2.2.2.1, (t8.2.1.2.2.2.2.2.2.2.2.2.2.2.2.2.2.2.2.2.2.2.2.2.2.1, (t8.2.1.2.2.2.2.2.2.2.2.2.2.2.2.2.2.2.2.2.2.2.2.2.2.2.1, ()))))))), (t8.2.2.1, (((), ()), ((t8.2.2.2.2.1.1, ((), (t8.2.2.2.2.1.2.2.1, ()))), ())))))))))
                            (none))
                          (cond ((NatCast.natCast (List.length t8.1.1) : Int) == (0 : Int))
                            (k4 (((Go.IntKind.wrap Go.IntKind.i64 (t8.2.1.2.2.2.2.2.2.2.2.2.1 + t8.2.1.2.2.2.2.2.2.2.2.2.2.2.1)), (t8.2.1.2.2.2.2.2.2.2.2.1, ((), ()))), ((t8.2.1.2.2.2.2.2.2.2.2.2.2.2.2.2.2.2.2.2.1, (t8.2.1.2.2.2.2.2.2.2.2.2.2.2.2.2.2.2.2.2.2.1, ((), (((), ((), ())), (t8.2.1.2.2.2.2.2.2.2.2.2.2.2.2.2.2.2.2.2.2.2.2.2.1, (t8.2.1.2.2.2.2.2.2.2.2.2.2.2.2.2.2.2.2.2.2.2.2.2.2.1, (t8.2.1.2.2.2.2.2.2.2.2.2.2.2.2.2.2.2.2.2.2.2.2.2.2.2.1, ()))))))), (t8.2.2.1, (((), ()), ((t8.2.2.2.2.1.1, ((), (t8.2.2.2.2.1.2.2.1, ()))), ()))))))
                            (cond (decide ((0 : Int) < (NatCast.natCast (List.length t8.1.1) : Int)))
                              (ajoin (τ := (((List Int) × (Unit × ((Unit × (Unit × Unit)) × (Bool × (Unit × (Int × Unit)))))) × (Unit × ((Int × (Unit × (Bool × Unit))) × ((List Int) × ((Unit × Unit) × Unit)))))) (R := ((List Int) × (Int × (Bool × Unit)))) (
                                fun (k10 : ((((List Int) × (Unit × ((Unit × (Unit × Unit)) × (Bool × (Unit × (Int × Unit)))))) × (Unit × ((Int × (Unit × (Bool × Unit))) × ((List Int) × ((Unit × Unit) × Unit))))) → (Option ((List Int) × (Int × (Bool × Unit)))))) =>
                                some (([] : (List Int)), ((0 : Int), (false, ()))))
                              (fun (t10 : (((List Int) × (Unit × ((Unit × (Unit × Unit)) × (Bool × (Unit × (Int × Unit)))))) × (Unit × ((Int × (Unit × (Bool × Unit))) × ((List Int) × ((Unit × Unit) × Unit)))))) =>
                                cond (t10.2.2.1.1 == (2 : Int))
                                  (cond t10.1.2.2.2.1
                                    (some (([] : (List Int)), ((0 : Int), (false, ()))))
                                    (cond (!t10.2.2.1.2.2.1)
                                      (some (([] : (List Int)), ((0 : Int), (false, ()))))
                                      (next3 ((t10.1.2.2.2.2.2.1, (true, (t10.1.1, ((), (((), ((), ())), ()))))), ((), (t10.2.2.2.1, (((), ()), ())))))))
                                  (cond (t10.2.2.1.1 == (3 : Int))
                                    (cond (!t10.1.2.2.2.1)
                                      (some (([] : (List Int)), ((0 : Int), (false, ()))))
                                      (cond (!t10.2.2.1.2.2.1)
                                        (some (([] : (List Int)), ((0 : Int), (false, ()))))
                                        (next3 ((t10.1.2.2.2.2.2.1, (t10.1.2.2.2.1, (t10.1.1, ((), (((), ((), ())), ()))))), ((), (t10.2.2.2.1, (((), ()), ())))))))
                                    (cond (t10.2.2.1.1 == (1 : Int))
                                      (some (t10.2.2.2.1, (t10.1.2.2.2.2.2.1, ((!t10.1.2.2.2.1), ()))))
                                      (cond (t10.2.2.1.1 == (4 : Int))
                                        (some (t10.2.2.2.1, (t10.1.2.2.2.2.2.1, (t10.1.2.2.2.1, ()))))
                                        (some (([] : (List Int)), ((0 : Int), (false, ())))))))))
                              (k4 (((Go.IntKind.wrap Go.IntKind.i64 (t8.2.1.2.2.2.2.2.2.2.2.2.1 + t8.2.1.2.2.2.2.2.2.2.2.2.2.2.1)), (t8.2.1.2.2.2.2.2.2.2.2.1, ((), ()))), ((t8.2.1.2.2.2.2.2.2.2.2.2.2.2.2.2.2.2.2.2.1, (t8.2.1.2.2.2.2.2.2.2.2.2.2.2.2.2.2.2.2.2.2.1, ((), (((), ((), ())), (t8.2.1.2.2.2.2.2.2.2.2.2.2.2.2.2.2.2.2.2.2.2.2.2.1, (t8.2.1.2.2.2.2.2.2.2.2.2.2.2.2.2.2.2.2.2.2.2.2.2.2.1, (t8.2.1.2.2.2.2.2.2.2.2.2.2.2.2.2.2.2.2.2.2.2.2.2.2.2.1, ()))))))), (t8.2.2.1, (((), ()), ((t8.2.2.2.2.1.1, ((), (t8.2.2.2.2.1.2.2.1, ()))), ()))))))))) k0 ((t6.1.1, (t6.2.1.2.2.2.2.2.2.1, ())), ((t6.2.1.1, (t6.2.1.2.1, (t6.2.1.2.2.1, (t6.2.1.2.2.2.1, (t6.2.1.2.2.2.2.1, (t6.1.1, (t6.2.1.2.2.2.2.2.1, (t6.2.1.2.2.2.2.2.2.1, (t6.2.1.2.2.2.2.2.2.2.1, (t6.2.1.2.2.2.2.2.2.2.2.1, ((), (t6.2.1.2.2.2.2.2.2.2.2.2.2.1, (t6.2.1.2.2.2.2.2.2.2.2.2.2.2.1, (t6.2.1.2.2.2.2.2.2.2.2.2.2.2.2.1, (t6.2.1.2.2.2.2.2.2.2.2.2.2.2.2.2.1, (t6.2.1.2.2.2.2.2.2.2.2.2.2.2.2.2.2.1, (t6.2.1.2.2.2.2.2.2.2.2.2.2.2.2.2.2.2.1, (t6.2.1.2.2.2.2.2.2.2.2.2.2.2.2.2.2.2.2.1, (t6.2.1.2.2.2.2.2.2.2.2.2.2.2.2.2.2.2.2.2.1, ((), (((), ((), ())), (t6.2.1.2.2.2.2.2.2.2.2.2.2.2.2.2.2.2.2.2.2.2.2.1, (t6.2.1.2.2.2.2.2.2.2.2.2.2.2.2.2.2.2.2.2.2.2.2.2.1, (t6.2.1.2.2.2.2.2.2.2.2.2.2.2.2.2.2.2.2.2.2.2.2.2.2.1, ())))))))))))))))))))))))), (t6.2.2.1, (((), ()), ((t6.2.2.2.2.1.1, ((), (t6.2.2.2.2.1.2.2.1, ()))), ()))))))) k0 (((List.drop (Int.toNat t2.1.1) (List.take (Int.toNat (Min.min (Go.IntKind.wrap Go.IntKind.i64 (t2.1.1 + ys5.1)) (NatCast.natCast (List.length t2.1.2.2.1) : Int))) t2.1.2.2.1)), ((0 : Int), ())), (((List.drop (Int.toNat t2.1.1) (List.take (Int.toNat (Min.min (Go.IntKind.wrap Go.IntKind.i64 (t2.1.1 + ys5.1)) (NatCast.natCast (List.length t2.1.2.2.1) : Int))) t2.1.2.2.1)), (((0 : Int) :: ([] : (List Int))), ((List.drop (Int.toNat t2.1.1) (List.take (Int.toNat (Min.min (Go.IntKind.wrap Go.IntKind.i64 (t2.1.1 + ys5.1)) (NatCast.natCast (List.length t2.1.2.2.1) : Int))) t2.1.2.2.1)), (((0 : Int) :: ([] : (List Int))), ((0 : Int), (((0 : Int) :: ([] : (List Int))), ((0 : Int), (t2.1.2.2.1, (t2.1.1, ((), (ys5.1, ((Min.min (Go.IntKind.wrap Go.IntKind.i64 (t2.1.1 + ys5.1)) (NatCast.natCast (List.length t2.1.2.2.1) : Int)), (t2.1.2.2.1, (t2.1.1, ((Min.min (Go.IntKind.wrap Go.IntKind.i64 (t2.1.1 + ys5.1)) (NatCast.natCast (List.length t2.1.2.2.1) : Int)), ((List.drop (Int.toNat t2.1.1) (List.take (Int.toNat (Min.min (Go.IntKind.wrap Go.IntKind.i64 (t2.1.1 + ys5.1)) (NatCast.natCast (List.length t2.1.2.2.1) : Int))) t2.1.2.2.1)), (t2.1.2.2.1, (t2.1.1, ((), (((), ((), ())), (t2.1.2.1, (t2.1.2.2.1, (t2.1.1, ()))))))))))))))))))))))), (t2.2.2.1, (((), ()), (((0 : Int), ((), (false, ()))), ())))))))
                (none))
              (none))
            (none))
          (k4 ((t2.1.1, (t2.1.2.2.1, ((), ()))), ((t2.1.2.2.1, (t2.1.1, ((), (((), ((), ())), (t2.1.2.1, (t2.1.2.2.1, (t2.1.1, ()))))))), (t2.2.2.1, (((), ()), (((0 : Int), ((), (false, ()))), ()))))))))
    (fun (t4 : ((Int × ((List Int) × (Unit × Unit))) × (((List Int) × (Int × (Unit × ((Unit × (Unit × Unit)) × (Bool × ((List Int) × (Int × Unit))))))) × ((List Int) × ((Unit × Unit) × ((Int × (Unit × (Bool × Unit))) × Unit)))))) =>
      cond (decide ((Go.IntKind.wrap Go.IntKind.i64 ((NatCast.natCast (List.length t4.1.2.1) : Int) - t4.1.1)) < (7 : Int)))
        (ajoin (τ := (((List Int) × (Unit × ((Unit × (Unit × Unit)) × (Bool × (Unit × (Int × Unit)))))) × (Unit × ((Int × (Unit × (Bool × Unit))) × ((List Int) × ((Unit × Unit) × Unit)))))) (R := ((List Int) × (Int × (Bool × Unit)))) (
          fun (k5 : ((((List Int) × (Unit × ((Unit × (Unit × Unit)) × (Bool × (Unit × (Int × Unit)))))) × (Unit × ((Int × (Unit × (Bool × Unit))) × ((List Int) × ((Unit × Unit) × Unit))))) → (Option ((List Int) × (Int × (Bool × Unit)))))) =>
          some (([] : (List Int)), ((0 : Int), (false, ()))))
        (fun (t5 : (((List Int) × (Unit × ((Unit × (Unit × Unit)) × (Bool × (Unit × (Int × Unit)))))) × (Unit × ((Int × (Unit × (Bool × Unit))) × ((List Int) × ((Unit × Unit) × Unit)))))) =>
          cond (t5.2.2.1.1 == (2 : Int))
            (cond t5.1.2.2.2.1
              (some (([] : (List Int)), ((0 : Int), (false, ()))))
              (cond (!t5.2.2.1.2.2.1)
                (some (([] : (List Int)), ((0 : Int), (false, ()))))
                (next3 ((t5.1.2.2.2.2.2.1, (true, (t5.1.1, ((), (((), ((), ())), ()))))), ((), (t5.2.2.2.1, (((), ()), ())))))))
            (cond (t5.2.2.1.1 == (3 : Int))
              (cond (!t5.1.2.2.2.1)
                (some (([] : (List Int)), ((0 : Int), (false, ()))))
                (cond (!t5.2.2.1.2.2.1)
                  (some (([] : (List Int)), ((0 : Int), (false, ()))))
                  (next3 ((t5.1.2.2.2.2.2.1, (t5.1.2.2.2.1, (t5.1.1, ((), (((), ((), ())), ()))))), ((), (t5.2.2.2.1, (((), ()), ())))))))
              (cond (t5.2.2.1.1 == (1 : Int))
                (some (t5.2.2.2.1, (t5.1.2.2.2.2.2.1, ((!t5.1.2.2.2.1), ()))))
                (cond (t5.2.2.1.1 == (4 : Int))
                  (some (t5.2.2.2.1, (t5.1.2.2.2.2.2.1, (t5.1.2.2.2.1, ()))))
                  (some (([] : (List Int)), ((0 : Int), (false, ())))))))))
        (cond (decide ((0 : Int) ≤ t4.1.1))
          (cond (decide (t4.1.1 ≤ (NatCast.natCast (List.length t4.1.2.1) : Int)))
            (Option.bind (F38 k0 ((List.drop (Int.toNat t4.1.1) t4.1.2.1), ()))
            (fun (ys5 : (Int × (Int × Unit))) =>
              cond (decide ((0 : Int) ≤ (Go.IntKind.wrap Go.IntKind.i64 (t4.1.1 + (4 : Int)))))
                (cond (decide ((Go.IntKind.wrap Go.IntKind.i64 (t4.1.1 + (4 : Int))) < (NatCast.natCast (List.length t4.1.2.1) : Int)))
                  (cond (decide ((0 : Int) ≤ (Go.IntKind.wrap Go.IntKind.i64 (t4.1.1 + (5 : Int)))))
                    (cond (decide ((Go.IntKind.wrap Go.IntKind.i64 (t4.1.1 + (5 : Int))) < (NatCast.natCast (List.length t4.1.2.1) : Int)))
                      (Option.bind (F26 k0 (t4.1.1, ()))
                      (fun (ys6 : (Int × Unit)) =>
                        cond (decide ((Go.IntKind.wrap Go.IntKind.i64 (ys6.1 - (7 : Int))) < (Go.bits Go.BinOp.or Go.IntKind.i64 (Go.IntKind.wrap Go.IntKind.i64 (List.getD t4.1.2.1 (Int.toNat (Go.IntKind.wrap Go.IntKind.i64 (t4.1.1 + (4 : Int)))) (0 : Int))) (ishl Go.IntKind.i64 (Go.IntKind.wrap Go.IntKind.i64 (List.getD t4.1.2.1 (Int.toNat (Go.IntKind.wrap Go.IntKind.i64 (t4.1.1 + (5 : Int)))) (0 : Int))) (8 : Int)))))
                          (ajoin (τ := (((List Int) × (Unit × ((Unit × (Unit × Unit)) × (Bool × (Unit × (Int × Unit)))))) × (Unit × ((Int × (Unit × (Bool × Unit))) × ((List Int) × ((Unit × Unit) × Unit)))))) (R := ((List Int) × (Int × (Bool × Unit)))) (
                            fun (k7 : ((((List Int) × (Unit × ((Unit × (Unit × Unit)) × (Bool × (Unit × (Int × Unit)))))) × (Unit × ((Int × (Unit × (Bool × Unit))) × ((List Int) × ((Unit × Unit) × Unit))))) → (Option ((List Int) × (Int × (Bool × Unit)))))) =>
                            some (([] : (List Int)), ((0 : Int), (false, ()))))
                          (fun (t7 : (((List Int) × (Unit × ((Unit × (Unit × Unit)) × (Bool × (Unit × (Int × Unit)))))) × (Unit × ((Int × (Unit × (Bool × Unit))) × ((List Int) × ((Unit × Unit) × Unit)))))) =>
                            cond (t7.2.2.1.1 == (2 : Int))
                              (cond t7.1.2.2.2.1
                                (some (([] : (List Int)), ((0 : Int), (false, ()))))
                                (cond (!t7.2.2.1.2.2.1)
                                  (some (([] : (List Int)), ((0 : Int), (false, ()))))
                                  (next3 ((t7.1.2.2.2.2.2.1, (true, (t7.1.1, ((), (((), ((), ())), ()))))), ((), (t7.2.2.2.1, (((), ()), ())))))))
                              (cond (t7.2.2.1.1 == (3 : Int))
                                (cond (!t7.1.2.2.2.1)
                                  (some (([] : (List Int)), ((0 : Int), (false, ()))))
                                  (cond (!t7.2.2.1.2.2.1)
                                    (some (([] : (List Int)), ((0 : Int), (false, ()))))
                                    (next3 ((t7.1.2.2.2.2.2.1, (t7.1.2.2.2.1, (t7.1.1, ((), (((), ((), ())), ()))))), ((), (t7.2.2.2.1, (((), ()), ())))))))
                                (cond (t7.2.2.1.1 == (1 : Int))
                                  (some (t7.2.2.2.1, (t7.1.2.2.2.2.2.1, ((!t7.1.2.2.2.1), ()))))
                                  (cond (t7.2.2.1.1 == (4 : Int))
                                    (some (t7.2.2.2.1, (t7.1.2.2.2.2.2.1, (t7.1.2.2.2.1, ()))))
                                    (some (([] : (List Int)), ((0 : Int), (false, ())))))))))
                          (cond (decide ((Go.IntKind.wrap Go.IntKind.i64 ((Go.IntKind.wrap Go.IntKind.i64 ((NatCast.natCast (List.length t4.1.2.1) : Int) - t4.1.1)) - (7 : Int))) < (Go.bits Go.BinOp.or Go.IntKind.i64 (Go.IntKind.wrap Go.IntKind.i64 (List.getD t4.1.2.1 (Int.toNat (Go.IntKind.wrap Go.IntKind.i64 (t4.1.1 + (4 : Int)))) (0 : Int))) (ishl Go.IntKind.i64 (Go.IntKind.wrap Go.IntKind.i64 (List.getD t4.1.2.1 (Int.toNat (Go.IntKind.wrap Go.IntKind.i64 (t4.1.1 + (5 : Int)))) (0 : Int))) (8 : Int)))))
                            (ajoin (τ := (((List Int) × (Unit × ((Unit × (Unit × Unit)) × (Bool × (Unit × (Int × Unit)))))) × (Unit × ((Int × (Unit × (Bool × Unit))) × ((List Int) × ((Unit × Unit) × Unit)))))) (R := ((List Int) × (Int × (Bool × Unit)))) (
                              fun (k7 : ((((List Int) × (Unit × ((Unit × (Unit × Unit)) × (Bool × (Unit × (Int × Unit)))))) × (Unit × ((Int × (Unit × (Bool × Unit))) × ((List Int) × ((Unit × Unit) × Unit))))) → (Option ((List Int) × (Int × (Bool × Unit)))))) =>
                              some (([] : (List Int)), ((0 : Int), (false, ()))))
                            (fun (t7 : (((List Int) × (Unit × ((Unit × (Unit × Unit)) × (Bool × (Unit × (Int × Unit)))))) × (Unit × ((Int × (Unit × (Bool × Unit))) × ((List Int) × ((Unit × Unit) × Unit)))))) =>
                              cond (t7.2.2.1.1 == (2 : Int))
                                (cond t7.1.2.2.2.1
                                  (some (([] : (List Int)), ((0 : Int), (false, ()))))
                                  (cond (!t7.2.2.1.2.2.1)
                                    (some (([] : (List Int)), ((0 : Int), (false, ()))))
                                    (next3 ((t7.1.2.2.2.2.2.1, (true, (t7.1.1, ((), (((), ((), ())), ()))))), ((), (t7.2.2.2.1, (((), ()), ())))))))
                                (cond (t7.2.2.1.1 == (3 : Int))
                                  (cond (!t7.1.2.2.2.1)
                                    (some (([] : (List Int)), ((0 : Int), (false, ()))))
                                    (cond (!t7.2.2.1.2.2.1)
                                      (some (([] : (List Int)), ((0 : Int), (false, ()))))
                                      (next3 ((t7.1.2.2.2.2.2.1, (t7.1.2.2.2.1, (t7.1.1, ((), (((), ((), ())), ()))))), ((), (t7.2.2.2.1, (((), ()), ())))))))
                                  (cond (t7.2.2.1.1 == (1 : Int))
                                    (some (t7.2.2.2.1, (t7.1.2.2.2.2.2.1, ((!t7.1.2.2.2.1), ()))))
                                    (cond (t7.2.2.1.1 == (4 : Int))
                                      (some (t7.2.2.2.1, (t7.1.2.2.2.2.2.1, (t7.1.2.2.2.1, ()))))
                                      (some (([] : (List Int)), ((0 : Int), (false, ())))))))))
                            (cond (decide ((0 : Int) ≤ (Go.IntKind.wrap Go.IntKind.i64 (t4.1.1 + (6 : Int)))))
                              (cond (decide ((Go.IntKind.wrap Go.IntKind.i64 (t4.1.1 + (6 : Int))) ≤ (Go.IntKind.wrap Go.IntKind.i64 ((Go.IntKind.wrap Go.IntKind.i64 (t4.1.1 + (7 : Int))) + (Go.bits Go.BinOp.or Go.IntKind.i64 (Go.IntKind.wrap Go.IntKind.i64 (List.getD t4.1.2.1 (Int.toNat (Go.IntKind.wrap Go.IntKind.i64 (t4.1.1 + (4 : Int)))) (0 : Int))) (ishl Go.IntKind.i64 (Go.IntKind.wrap Go.IntKind.i64 (List.getD t4.1.2.1 (Int.toNat (Go.IntKind.wrap Go.IntKind.i64 (t4.1.1 + (5 : Int)))) (0 : Int))) (8 : Int)))))))
                                (cond (decide ((Go.IntKind.wrap Go.IntKind.i64 ((Go.IntKind.wrap Go.IntKind.i64 (t4.1.1 + (7 : Int))) + (Go.bits Go.BinOp.or Go.IntKind.i64 (Go.IntKind.wrap Go.IntKind.i64 (List.getD t4.1.2.1 (Int.toNat (Go.IntKind.wrap Go.IntKind.i64 (t4.1.1 + (4 : Int)))) (0 : Int))) (ishl Go.IntKind.i64 (Go.IntKind.wrap Go.IntKind.i64 (List.getD t4.1.2.1 (Int.toNat (Go.IntKind.wrap Go.IntKind.i64 (t4.1.1 + (5 : Int)))) (0 : Int))) (8 : Int))))) ≤ (NatCast.natCast (List.length t4.1.2.1) : Int)))
                                  (Option.bind (F35 k0 ((List.drop (Int.toNat (Go.IntKind.wrap Go.IntKind.i64 (t4.1.1 + (6 : Int)))) (List.take (Int.toNat (Go.IntKind.wrap Go.IntKind.i64 ((Go.IntKind.wrap Go.IntKind.i64 (t4.1.1 + (7 : Int))) + (Go.bits Go.BinOp.or Go.IntKind.i64 (Go.IntKind.wrap Go.IntKind.i64 (List.getD t4.1.2.1 (Int.toNat (Go.IntKind.wrap Go.IntKind.i64 (t4.1.1 + (4 : Int)))) (0 : Int))) (ishl Go.IntKind.i64 (Go.IntKind.wrap Go.IntKind.i64 (List.getD t4.1.2.1 (Int.toNat (Go.IntKind.wrap Go.IntKind.i64 (t4.1.1 + (5 : Int)))) (0 : Int))) (8 : Int)))))) t4.1.2.1)), ()))
                                  (fun (ys7 : (Int × Unit)) =>
                                    cond (bne ys7.1 ys5.1)
                                      (ajoin (τ := (((List Int) × (Unit × ((Unit × (Unit × Unit)) × (Bool × (Unit × (Int × Unit)))))) × (Unit × ((Int × (Unit × (Bool × Unit))) × ((List Int) × ((Unit × Unit) × Unit)))))) (R := ((List Int) × (Int × (Bool × Unit)))) (
                                        fun (k8 : ((((List Int) × (Unit × ((Unit × (Unit × Unit)) × (Bool × (Unit × (Int × Unit)))))) × (Unit × ((Int × (Unit × (Bool × Unit))) × ((List Int) × ((Unit × Unit) × Unit))))) → (Option ((List Int) × (Int × (Bool × Unit)))))) =>
                                        some (([] : (List Int)), ((0 : Int), (false, ()))))
                                      (fun (t8 : (((List Int) × (Unit × ((Unit × (Unit × Unit)) × (Bool × (Unit × (Int × Unit)))))) × (Unit × ((Int × (Unit × (Bool × Unit))) × ((List Int) × ((Unit × Unit) × Unit)))))) =>
                                        cond (t8.2.2.1.1 == (2 : Int))
                                          (cond t8.1.2.2.2.1
                                            (some (([] : (List Int)), ((0 : Int), (false, ()))))
                                            (cond (!t8.2.2.1.2.2.1)
                                              (some (([] : (List Int)), ((0 : Int), (false, ()))))
                                              (next3 ((t8.1.2.2.2.2.2.1, (true, (t8.1.1, ((), (((), ((), ())), ()))))), ((), (t8.2.2.2.1, (((), ()), ())))))))
                                          (cond (t8.2.2.1.1 == (3 : Int))
                                            (cond (!t8.1.2.2.2.1)
                                              (some (([] : (List Int)), ((0 : Int), (false, ()))))
                                              (cond (!t8.2.2.1.2.2.1)
                                                (some (([] : (List Int)), ((0 : Int), (false, ()))))
                                                (next3 ((t8.1.2.2.2.2.2.1, (t8.1.2.2.2.1, (t8.1.1, ((), (((), ((), ())), ()))))), ((), (t8.2.2.2.1, (((), ()), ())))))))
                                            (cond (t8.2.2.1.1 == (1 : Int))
                                              (some (t8.2.2.2.1, (t8.1.2.2.2.2.2.1, ((!t8.1.2.2.2.1), ()))))
                                              (cond (t8.2.2.1.1 == (4 : Int))
                                                (some (t8.2.2.2.1, (t8.1.2.2.2.2.2.1, (t8.1.2.2.2.1, ()))))
                                                (some (([] : (List Int)), ((0 : Int), (false, ())))))))))
                                      (cond (decide ((0 : Int) ≤ (Go.IntKind.wrap Go.IntKind.i64 (t4.1.1 + (6 : Int)))))
                                        (cond (decide ((Go.IntKind.wrap Go.IntKind.i64 (t4.1.1 + (6 : Int))) < (NatCast.natCast (List.length t4.1.2.1) : Int)))
                                          (cond (decide ((0 : Int) ≤ (Go.IntKind.wrap Go.IntKind.i64 (t4.1.1 + (7 : Int)))))
                                            (cond (decide ((Go.IntKind.wrap Go.IntKind.i64 (t4.1.1 + (7 : Int))) ≤ (Go.IntKind.wrap Go.IntKind.i64 ((Go.IntKind.wrap Go.IntKind.i64 (t4.1.1 + (7 : Int))) + (Go.bits Go.BinOp.or Go.IntKind.i64 (Go.IntKind.wrap Go.IntKind.i64 (List.getD t4.1.2.1 (Int.toNat (Go.IntKind.wrap Go.IntKind.i64 (t4.1.1 + (4 : Int)))) (0 : Int))) (ishl Go.IntKind.i64 (Go.IntKind.wrap Go.IntKind.i64 (List.getD t4.1.2.1 (Int.toNat (Go.IntKind.wrap Go.IntKind.i64 (t4.1.1 + (5 : Int)))) (0 : Int))) (8 : Int)))))))
                                              (cond (decide ((Go.IntKind.wrap Go.IntKind.i64 ((Go.IntKind.wrap Go.IntKind.i64 (t4.1.1 + (7 : Int))) + (Go.bits Go.BinOp.or Go.IntKind.i64 (Go.IntKind.wrap Go.IntKind.i64 (List.getD t4.1.2.1 (Int.toNat (Go.IntKind.wrap Go.IntKind.i64 (t4.1.1 + (4 : Int)))) (0 : Int))) (ishl Go.IntKind.i64 (Go.IntKind.wrap Go.IntKind.i64 (List.getD t4.1.2.1 (Int.toNat (Go.IntKind.wrap Go.IntKind.i64 (t4.1.1 + (5 : Int)))) (0 : Int))) (8 : Int))))) ≤ (NatCast.natCast (List.length t4.1.2.1) : Int)))
                                                (ajoin (τ := (((List Int) × (Unit × ((Unit × (Unit × Unit)) × (Bool × (Unit × (Int × Unit)))))) × (Unit × ((Int × ((List Int) × (Bool × Unit))) × ((List Int) × ((Unit × Unit) × Unit)))))) (R := ((List Int) × (Int × (Bool × Unit)))) (
                                                  fun (k8 : ((((List Int) × (Unit × ((Unit × (Unit × Unit)) × (Bool × (Unit × (Int × Unit)))))) × (Unit × ((Int × ((List Int) × (Bool × Unit))) × ((List Int) × ((Unit × Unit) × Unit))))) → (Option ((List Int) × (Int × (Bool × Unit)))))) =>
                                                  cond (decide ((((List.length t4.2.2.1) + (List.length (List.drop (Int.toNat (Go.IntKind.wrap Go.IntKind.i64 (t4.1.1 + (7 : Int)))) (List.take (Int.toNat (Go.IntKind.wrap Go.IntKind.i64 ((Go.IntKind.wrap Go.IntKind.i64 (t4.1.1 + (7 : Int))) + (Go.bits Go.BinOp.or Go.IntKind.i64 (Go.IntKind.wrap Go.IntKind.i64 (List.getD t4.1.2.1 (Int.toNat (Go.IntKind.wrap Go.IntKind.i64 (t4.1.1 + (4 : Int)))) (0 : Int))) (ishl Go.IntKind.i64 (Go.IntKind.wrap Go.IntKind.i64 (List.getD t4.1.2.1 (Int.toNat (Go.IntKind.wrap Go.IntKind.i64 (t4.1.1 + (5 : Int)))) (0 : Int))) (8 : Int)))))) t4.1.2.1)))) * (1 : Nat)) ≤ (140737488355328 : Nat)))
                                                    (cond (!(decide ((NatCast.natCast (List.length (t4.2.2.1 ++ (List.drop (Int.toNat (Go.IntKind.wrap Go.IntKind.i64 (t4.1.1 + (7 : Int)))) (List.take (Int.toNat (Go.IntKind.wrap Go.IntKind.i64 ((Go.IntKind.wrap Go.IntKind.i64 (t4.1.1 + (7 : Int))) + (Go.bits Go.BinOp.or Go.IntKind.i64 (Go.IntKind.wrap Go.IntKind.i64 (List.getD t4.1.2.1 (Int.toNat (Go.IntKind.wrap Go.IntKind.i64 (t4.1.1 + (4 : Int)))) (0 : Int))) (ishl Go.IntKind.i64 (Go.IntKind.wrap Go.IntKind.i64 (List.getD t4.1.2.1 (Int.toNat (Go.IntKind.wrap Go.IntKind.i64 (t4.1.1 + (5 : Int)))) (0 : Int))) (8 : Int)))))) t4.1.2.1)))) : Int) ≤ (4194304 : Int))))
                                                      (some (([] : (List Int)), ((0 : Int), (false, ()))))
                                                      (k8 ((t4.2.1.1, ((), (((), ((), ())), (t4.2.1.2.2.2.2.1, ((), ((Go.IntKind.wrap Go.IntKind.i64 ((Go.IntKind.wrap Go.IntKind.i64 (t4.1.1 + (7 : Int))) + (Go.bits Go.BinOp.or Go.IntKind.i64 (Go.IntKind.wrap Go.IntKind.i64 (List.getD t4.1.2.1 (Int.toNat (Go.IntKind.wrap Go.IntKind.i64 (t4.1.1 + (4 : Int)))) (0 : Int))) (ishl Go.IntKind.i64 (Go.IntKind.wrap Go.IntKind.i64 (List.getD t4.1.2.1 (Int.toNat (Go.IntKind.wrap Go.IntKind.i64 (t4.1.1 + (5 : Int)))) (0 : Int))) (8 : Int))))), ())))))), ((), (((List.getD t4.1.2.1 (Int.toNat (Go.IntKind.wrap Go.IntKind.i64 (t4.1.1 + (6 : Int)))) (0 : Int)), ((List.drop (Int.toNat (Go.IntKind.wrap Go.IntKind.i64 (t4.1.1 + (7 : Int)))) (List.take (Int.toNat (Go.IntKind.wrap Go.IntKind.i64 ((Go.IntKind.wrap Go.IntKind.i64 (t4.1.1 + (7 : Int))) + (Go.bits Go.BinOp.or Go.IntKind.i64 (Go.IntKind.wrap Go.IntKind.i64 (List.getD t4.1.2.1 (Int.toNat (Go.IntKind.wrap Go.IntKind.i64 (t4.1.1 + (4 : Int)))) (0 : Int))) (ishl Go.IntKind.i64 (Go.IntKind.wrap Go.IntKind.i64 (List.getD t4.1.2.1 (Int.toNat (Go.IntKind.wrap Go.IntKind.i64 (t4.1.1 + (5 : Int)))) (0 : Int))) (8 : Int)))))) t4.1.2.1)), (((Int.tmod (Go.IntKind.wrap Go.IntKind.i64 ((Go.IntKind.wrap Go.IntKind.i64 (t4.1.1 + (7 : Int))) + (Go.bits Go.BinOp.or Go.IntKind.i64 (Go.IntKind.wrap Go.IntKind.i64 (List.getD t4.1.2.1 (Int.toNat (Go.IntKind.wrap Go.IntKind.i64 (t4.1.1 + (4 : Int)))) (0 : Int))) (ishl Go.IntKind.i64 (Go.IntKind.wrap Go.IntKind.i64 (List.getD t4.1.2.1 (Int.toNat (Go.IntKind.wrap Go.IntKind.i64 (t4.1.1 + (5 : Int)))) (0 : Int))) (8 : Int))))) (64 : Int)) == (0 : Int)), ()))), ((t4.2.2.1 ++ (List.drop (Int.toNat (Go.IntKind.wrap Go.IntKind.i64 (t4.1.1 + (7 : Int)))) (List.take (Int.toNat (Go.IntKind.wrap Go.IntKind.i64 ((Go.IntKind.wrap Go.IntKind.i64 (t4.1.1 + (7 : Int))) + (Go.bits Go.BinOp.or Go.IntKind.i64 (Go.IntKind.wrap Go.IntKind.i64 (List.getD t4.1.2.1 (Int.toNat (Go.IntKind.wrap Go.IntKind.i64 (t4.1.1 + (4 : Int)))) (0 : Int))) (ishl Go.IntKind.i64 (Go.IntKind.wrap Go.IntKind.i64 (List.getD t4.1.2.1 (Int.toNat (Go.IntKind.wrap Go.IntKind.i64 (t4.1.1 + (5 : Int)))) (0 : Int))) (8 : Int)))))) t4.1.2.1))), (((), ()), ())))))))
                                                    (none))
                                                (fun (t8 : (((List Int) × (Unit × ((Unit × (Unit × Unit)) × (Bool × (Unit × (Int × Unit)))))) × (Unit × ((Int × ((List Int) × (Bool × Unit))) × ((List Int) × ((Unit × Unit) × Unit)))))) =>
                                                  cond (t8.2.2.1.1 == (2 : Int))
                                                    (cond t8.1.2.2.2.1
                                                      (some (([] : (List Int)), ((0 : Int), (false, ()))))
                                                      (cond (!t8.2.2.1.2.2.1)
                                                        (some (([] : (List Int)), ((0 : Int), (false, ()))))
                                                        (next3 ((t8.1.2.2.2.2.2.1, (true, (t8.1.1, ((), (((), ((), ())), ()))))), ((), (t8.2.2.2.1, (((), ()), ())))))))
                                                    (cond (t8.2.2.1.1 == (3 : Int))
                                                      (cond (!t8.1.2.2.2.1)
                                                        (some (([] : (List Int)), ((0 : Int), (false, ()))))
                                                        (cond (!t8.2.2.1.2.2.1)
                                                          (some (([] : (List Int)), ((0 : Int), (false, ()))))
                                                          (next3 ((t8.1.2.2.2.2.2.1, (t8.1.2.2.2.1, (t8.1.1, ((), (((), ((), ())), ()))))), ((), (t8.2.2.2.1, (((), ()), ())))))))
                                                      (cond (t8.2.2.1.1 == (1 : Int))
                                                        (some (t8.2.2.2.1, (t8.1.2.2.2.2.2.1, ((!t8.1.2.2.2.1), ()))))
                                                        (cond (t8.2.2.1.1 == (4 : Int))
                                                          (some (t8.2.2.2.1, (t8.1.2.2.2.2.2.1, (t8.1.2.2.2.1, ()))))
                                                          (some (([] : (List Int)), ((0 : Int), (false, ())))))))))
                                                (none))
                                              (none))
                                            (none))
                                          (none))
                                        (none))))
                                  (none))
                                (none))
                              (none)))))
                      (none))
                    (none))
                  (none))
                (none)))
            (none))
          (none)))) k0 ((xs1.2.1, (false, (xs1.1, ((), (((), ((), ())), ()))))), ((), (([] : (List Int)), (((), ()), ()))))
/-- moraine/wal.Read -/
def F11 : Nat → ((List (Int)) × Unit) → Option ((List (List (Int))) × ((Int) × Unit)) := fun (k0 : Nat) =>
  fun (xs1 : ((List Int) × Unit)) =>
  iter (R := ((List (List Int)) × (Int × Unit))) (τ := ((Unit × (Int × ((List Int) × Unit))) × (Unit × ((List (List Int)) × Unit)))) (
    fun (t2 : ((Unit × (Int × ((List Int) × Unit))) × (Unit × ((List (List Int)) × Unit)))) =>
    fun (next3 : (((Unit × (Int × ((List Int) × Unit))) × (Unit × ((List (List Int)) × Unit))) → (Option ((List (List Int)) × (Int × Unit))))) =>
    Option.bind (F24 k0 (t2.1.2.2.1, (t2.1.2.1, ())))
    (fun (ys4 : ((List Int) × (Int × (Bool × Unit)))) =>
      cond (!ys4.2.2.1)
        (some (t2.2.2.1, (t2.1.2.1, ())))
        (cond (decide ((((List.length t2.2.2.1) + (List.length (ys4.1 :: ([] : (List (List Int)))))) * (24 : Nat)) ≤ (140737488355328 : Nat)))
          (next3 (((), (ys4.2.1, (t2.1.2.2.1, ()))), ((), ((t2.2.2.1 ++ (ys4.1 :: ([] : (List (List Int))))), ()))))
          (none)))) k0 (((), ((0 : Int), (xs1.1, ()))), ((), (([] : (List (List Int))), ())))
/-- moraine/codec.fixed -/
def F39 : Nat → ((Int) × ((Int) × Unit)) → Option ((List (Int)) × Unit) := fun (k0 : Nat) =>
  fun (xs1 : (Int × (Int × Unit))) =>
  iter (R := ((List Int) × Unit)) (τ := ((Unit × (Int × (Int × (Int × Unit)))) × (Unit × ((List Int) × Unit)))) (
    fun (t2 : ((Unit × (Int × (Int × (Int × Unit)))) × (Unit × ((List Int) × Unit)))) =>
    fun (next3 : (((Unit × (Int × (Int × (Int × Unit)))) × (Unit × ((List Int) × Unit))) → (Option ((List Int) × Unit)))) =>
    cond (decide (t2.1.2.1 < t2.1.2.2.2.1))
      (cond (decide ((0 : Int) ≤ (Go.IntKind.wrap Go.IntKind.i64 ((8 : Int) * t2.1.2.1))))
        (cond (decide ((((List.length t2.2.2.1) + (List.length ((Go.IntKind.wrap Go.IntKind.u8 (ishr Go.IntKind.u64 t2.1.2.2.1 (Go.IntKind.wrap Go.IntKind.i64 ((8 : Int) * t2.1.2.1)))) :: ([] : (List Int))))) * (1 : Nat)) ≤ (140737488355328 : Nat)))
          (next3 (((), ((Go.IntKind.wrap Go.IntKind.i64 (t2.1.2.1 + (1 : Int))), (t2.1.2.2.1, (t2.1.2.2.2.1, ())))), ((), ((t2.2.2.1 ++ ((Go.IntKind.wrap Go.IntKind.u8 (ishr Go.IntKind.u64 t2.1.2.2.1 (Go.IntKind.wrap Go.IntKind.i64 ((8 : Int) * t2.1.2.1)))) :: ([] : (List Int)))), ()))))
          (none))
        (none))
      (some (t2.2.2.1, ()))) k0 (((), ((0 : Int), (xs1.1, (xs1.2.1, ())))), ((), (([] : (List Int)), ())))
/-- moraine/codec.Fixed4 -/
def F34 : Nat → ((Int) × Unit) → Option ((List (Int)) × Unit) := fun (k0 : Nat) =>
  fun (xs1 : (Int × Unit)) =>
  Option.bind (F39 k0 ((Go.IntKind.wrap Go.IntKind.u64 xs1.1), ((4 : Int), ())))
  (fun (ys2 : ((List Int) × Unit)) =>
    some (ys2.1, ()))
/-- moraine/wal.fragment -/
def F27 : Nat → ((Int) × ((List (Int)) × Unit)) → Option ((List (Int)) × Unit) := fun (k0 : Nat) =>
  fun (xs1 : (Int × ((List Int) × Unit))) =>
  cond (decide ((((List.length (xs1.1 :: ([] : (List Int)))) + (List.length xs1.2.1)) * (1 : Nat)) ≤ (140737488355328 : Nat)))
    (Option.bind (F35 k0 (((xs1.1 :: ([] : (List Int))) ++ xs1.2.1), ()))
    (fun (ys2 : (Int × Unit)) =>
      Option.bind (F34 k0 (ys2.1, ()))
      (fun (ys3 : ((List Int) × Unit)) =>
        cond (decide ((((List.length ys3.1) + (List.length ((Go.IntKind.wrap Go.IntKind.u8 (NatCast.natCast (List.length xs1.2.1) : Int)) :: ((Go.IntKind.wrap Go.IntKind.u8 (ishr Go.IntKind.i64 (NatCast.natCast (List.length xs1.2.1) : Int) (8 : Int))) :: (xs1.1 :: ([] : (List Int))))))) * (1 : Nat)) ≤ (140737488355328 : Nat)))
          (cond (decide ((((List.length (ys3.1 ++ ((Go.IntKind.wrap Go.IntKind.u8 (NatCast.natCast (List.length xs1.2.1) : Int)) :: ((Go.IntKind.wrap Go.IntKind.u8 (ishr Go.IntKind.i64 (NatCast.natCast (List.length xs1.2.1) : Int) (8 : Int))) :: (xs1.1 :: ([] : (List Int))))))) + (List.length xs1.2.1)) * (1 : Nat)) ≤ (140737488355328 : Nat)))
            (some (((ys3.1 ++ ((Go.IntKind.wrap Go.IntKind.u8 (NatCast.natCast (List.length xs1.2.1) : Int)) :: ((Go.IntKind.wrap Go.IntKind.u8 (ishr Go.IntKind.i64 (NatCast.natCast (List.length xs1.2.1) : Int) (8 : Int))) :: (xs1.1 :: ([] : (List Int)))))) ++ xs1.2.1), ()))
            (none))
          (none))))
    (none)
/-- moraine/wal.kindOf -/
def F28 : Nat → ((Bool) × ((Bool) × Unit)) → Option ((Int) × Unit) := fun (k0 : Nat) =>
  fun (xs1 : (Bool × (Bool × Unit))) =>
  cond xs1.1
    (cond xs1.2.1
      (some ((1 : Int), ()))
      (cond xs1.1
        (some ((2 : Int), ()))
        (cond xs1.2.1
          (some ((4 : Int), ()))
          (some ((3 : Int), ())))))
    (cond xs1.1
      (some ((2 : Int), ()))
      (cond xs1.2.1
        (some ((4 : Int), ()))
        (some ((3 : Int), ()))))
/-- moraine/wal.Append -/
def F19 : Nat → ((Int) × ((List (Int)) × Unit)) → Option ((List (Int)) × ((Int) × Unit)) := fun (k0 : Nat) =>
  fun (xs1 : (Int × ((List Int) × Unit))) =>
  cond (decide ((4194304 : Int) < (NatCast.natCast (List.length xs1.2.1) : Int)))
    (some (([] : (List Int)), ((50 : Int), ())))
    (iter (R := ((List Int) × (Int × Unit))) (τ := (((List Int) × (Unit × (Bool × (Bool × (Int × Unit))))) × (Unit × ((List Int) × Unit)))) (
      fun (t2 : (((List Int) × (Unit × (Bool × (Bool × (Int × Unit))))) × (Unit × ((List Int) × Unit)))) =>
      fun (next3 : ((((List Int) × (Unit × (Bool × (Bool × (Int × Unit))))) × (Unit × ((List Int) × Unit))) → (Option ((List Int) × (Int × Unit))))) =>
      cond (!t2.1.2.2.2.1)
        (Option.bind (F26 k0 ((Go.IntKind.wrap Go.IntKind.i64 (t2.1.2.2.2.2.1 + (NatCast.natCast (List.length t2.2.2.1) : Int))), ()))
        (fun (ys4 : (Int × Unit)) =>
          cond (decide (ys4.1 < (7 : Int)))
            (cond (decide ((0 : Int) ≤ ys4.1))
              (cond (decide ((((List.length t2.2.2.1) + (Int.toNat ys4.1)) * (1 : Nat)) ≤ (140737488355328 : Nat)))
                (next3 ((t2.1.1, ((), (t2.1.2.2.1, (t2.1.2.2.2.1, (t2.1.2.2.2.2.1, ()))))), ((), ((t2.2.2.1 ++ (List.replicate (Int.toNat ys4.1) (0 : Int))), ()))))
                (none))
              (none))
            (cond (decide ((0 : Int) ≤ (Min.min (Go.IntKind.wrap Go.IntKind.i64 (ys4.1 - (7 : Int))) (NatCast.natCast (List.length t2.1.1) : Int))))
              (cond (decide ((Min.min (Go.IntKind.wrap Go.IntKind.i64 (ys4.1 - (7 : Int))) (NatCast.natCast (List.length t2.1.1) : Int)) ≤ (NatCast.natCast (List.length t2.1.1) : Int)))
                (Option.bind (F28 k0 (t2.1.2.2.1, (((Min.min (Go.IntKind.wrap Go.IntKind.i64 (ys4.1 - (7 : Int))) (NatCast.natCast (List.length t2.1.1) : Int)) == (NatCast.natCast (List.length t2.1.1) : Int)), ())))
                (fun (ys5 : (Int × Unit)) =>
                  Option.bind (F27 k0 (ys5.1, ((List.take (Int.toNat (Min.min (Go.IntKind.wrap Go.IntKind.i64 (ys4.1 - (7 : Int))) (NatCast.natCast (List.length t2.1.1) : Int))) t2.1.1), ())))
                  (fun (ys6 : ((List Int) × Unit)) =>
                    cond (decide ((((List.length t2.2.2.1) + (List.length ys6.1)) * (1 : Nat)) ≤ (140737488355328 : Nat)))
                      (cond (decide ((0 : Int) ≤ (Min.min (Go.IntKind.wrap Go.IntKind.i64 (ys4.1 - (7 : Int))) (NatCast.natCast (List.length t2.1.1) : Int))))
                        (cond (decide ((Min.min (Go.IntKind.wrap Go.IntKind.i64 (ys4.1 - (7 : Int))) (NatCast.natCast (List.length t2.1.1) : Int)) ≤ (NatCast.natCast (List.length t2.1.1) : Int)))
                          (next3 (((List.drop (Int.toNat (Min.min (Go.IntKind.wrap Go.IntKind.i64 (ys4.1 - (7 : Int))) (NatCast.natCast (List.length t2.1.1) : Int))) t2.1.1), ((), (false, (((Min.min (Go.IntKind.wrap Go.IntKind.i64 (ys4.1 - (7 : Int))) (NatCast.natCast (List.length t2.1.1) : Int)) == (NatCast.natCast (List.length t2.1.1) : Int)), (t2.1.2.2.2.2.1, ()))))), ((), ((t2.2.2.1 ++ ys6.1), ()))))
                          (none))
                        (none))
                      (none))))
                (none))
              (none))))
        (some (t2.2.2.1, ((0 : Int), ())))) k0 ((xs1.2.1, ((), (true, (false, ((Int.tmod (Max.max xs1.1 (0 : Int)) (64 : Int)), ()))))), ((), (([] : (List Int)), ()))))
/-- moraine/morainelaw5.known -/
def F10 : Nat → (Unit) → Option ((Bool) × Unit) := fun (k0 : Nat) =>
  fun (xs1 : Unit) =>
  Option.bind (F19 k0 ((0 : Int), (((97 : Int) :: ((98 : Int) :: ([] : (List Int)))), ())))
  (fun (ys2 : ((List Int) × (Int × Unit))) =>
    Option.bind (F11 k0 (ys2.1, ()))
    (fun (ys3 : ((List (List Int)) × (Int × Unit))) =>
      cond (ys2.2.1 == (0 : Int))
        (cond ((NatCast.natCast (List.length ys2.1) : Int) == (9 : Int))
          (cond (ys3.2.1 == (9 : Int))
            (cond ((NatCast.natCast (List.length ys3.1) : Int) == (1 : Int))
              (cond (decide ((0 : Int) < (NatCast.natCast (List.length ys3.1) : Int)))
                (some (((List.getD ys3.1 (0 : Nat) ([] : (List Int))) == ((97 : Int) :: ((98 : Int) :: ([] : (List Int))))), ()))
                (none))
              (some (false, ())))
            (some (false, ())))
          (some (false, ())))
        (some (false, ()))))
/-- moraine/moraineref2.Unfixed -/
def F32 : Nat → ((List (Int)) × ((Int) × ((Int) × Unit))) → Option ((Int) × Unit) := fun (k0 : Nat) =>
  fun (xs1 : ((List Int) × (Int × (Int × Unit)))) =>
  iter (R := (Int × Unit)) (τ := ((Int × (Int × ((List Int) × (Int × Unit)))) × (Unit × Unit))) (
    fun (t2 : ((Int × (Int × ((List Int) × (Int × Unit)))) × (Unit × Unit))) =>
    fun (next3 : (((Int × (Int × ((List Int) × (Int × Unit)))) × (Unit × Unit)) → (Option (Int × Unit)))) =>
    cond (decide ((0 : Int) ≤ t2.1.2.1))
      (cond (decide ((0 : Int) ≤ (Go.IntKind.wrap Go.IntKind.i64 (t2.1.2.2.2.1 + t2.1.2.1))))
        (cond (decide ((Go.IntKind.wrap Go.IntKind.i64 (t2.1.2.2.2.1 + t2.1.2.1)) < (NatCast.natCast (List.length t2.1.2.2.1) : Int)))
          (next3 (((Go.IntKind.wrap Go.IntKind.u64 ((Go.IntKind.wrap Go.IntKind.u64 ((256 : Int) * t2.1.1)) + (Go.IntKind.wrap Go.IntKind.u64 (List.getD t2.1.2.2.1 (Int.toNat (Go.IntKind.wrap Go.IntKind.i64 (t2.1.2.2.2.1 + t2.1.2.1))) (0 : Int))))), ((Go.IntKind.wrap Go.IntKind.i64 (t2.1.2.1 - (1 : Int))), (t2.1.2.2.1, (t2.1.2.2.2.1, ())))), ((), ())))
          (none))
        (none))
      (some (t2.1.1, ()))) k0 (((0 : Int), ((Go.IntKind.wrap Go.IntKind.i64 (xs1.2.2.1 - (1 : Int))), (xs1.1, (xs1.2.1, ())))), ((), ()))
/-- moraine/moraineref2.Sum -/
def F33 : Nat → ((List (Int)) × Unit) → Option ((Int) × Unit) := fun (k0 : Nat) =>
  fun (xs1 : ((List Int) × Unit)) =>
  iter (R := (Int × Unit)) (τ := ((Int × (Int × ((List Int) × Unit))) × (Unit × Unit))) (
    fun (t2 : ((Int × (Int × ((List Int) × Unit))) × (Unit × Unit))) =>
    fun (next3 : (((Int × (Int × ((List Int) × Unit))) × (Unit × Unit)) → (Option (Int × Unit)))) =>
    cond (decide (t2.1.2.1 < (NatCast.natCast (List.length t2.1.2.2.1) : Int)))
      (cond (decide ((0 : Int) ≤ t2.1.2.1))
        (cond (decide (t2.1.2.1 < (NatCast.natCast (List.length t2.1.2.2.1) : Int)))
          (iter (R := (Int × Unit)) (τ := ((Int × (Int × ((List Int) × (Int × Unit)))) × (Unit × Unit))) (
            fun (t4 : ((Int × (Int × ((List Int) × (Int × Unit)))) × (Unit × Unit))) =>
            fun (next5 : (((Int × (Int × ((List Int) × (Int × Unit)))) × (Unit × Unit)) → (Option (Int × Unit)))) =>
            cond (decide (t4.1.2.1 < (8 : Int)))
              (cond ((Int.tmod t4.1.1 (2 : Int)) == (1 : Int))
                (next5 (((Go.bits Go.BinOp.xor Go.IntKind.u32 (Go.IntKind.wrap Go.IntKind.u32 (Int.tdiv t4.1.1 (2 : Int))) (2197175160 : Int)), ((Go.IntKind.wrap Go.IntKind.i64 (t4.1.2.1 + (1 : Int))), (t4.1.2.2.1, (t4.1.2.2.2.1, ())))), ((), ())))
                (next5 (((Go.IntKind.wrap Go.IntKind.u32 (Int.tdiv t4.1.1 (2 : Int))), ((Go.IntKind.wrap Go.IntKind.i64 (t4.1.2.1 + (1 : Int))), (t4.1.2.2.1, (t4.1.2.2.2.1, ())))), ((), ()))))
              (next3 ((t4.1.1, ((Go.IntKind.wrap Go.IntKind.i64 (t4.1.2.2.2.1 + (1 : Int))), (t4.1.2.2.1, ()))), ((), ())))) k0 (((Go.bits Go.BinOp.xor Go.IntKind.u32 t2.1.1 (Go.IntKind.wrap Go.IntKind.u32 (List.getD t2.1.2.2.1 (Int.toNat t2.1.2.1) (0 : Int)))), ((0 : Int), (t2.1.2.2.1, (t2.1.2.1, ())))), ((), ())))
          (none))
        (none))
      (some ((Go.bits Go.BinOp.xor Go.IntKind.u32 (4294967295 : Int) t2.1.1), ()))) k0 (((4294967295 : Int), ((0 : Int), (xs1.1, ()))), ((), ()))
/-- moraine/moraineref5.one -/
def F25 : Nat → ((List (Int)) × ((Int) × Unit)) → Option ((List (Int)) × ((Int) × ((Bool) × Unit))) := fun (k0 : Nat) =>
  fun (xs1 : ((List Int) × (Int × Unit))) =>
  iter (R := ((List Int) × (Int × (Bool × Unit)))) (τ := ((Int × (Unit × (Bool × ((List Int) × Unit)))) × (Unit × ((List Int) × Unit)))) (
    fun (t2 : ((Int × (Unit × (Bool × ((List Int) × Unit)))) × (Unit × ((List Int) × Unit)))) =>
    fun (next3 : (((Int × (Unit × (Bool × ((List Int) × Unit)))) × (Unit × ((List Int) × Unit))) → (Option ((List Int) × (Int × (Bool × Unit)))))) =>
    cond (decide ((Go.IntKind.wrap Go.IntKind.i64 ((64 : Int) - (Int.tmod t2.1.1 (64 : Int)))) < (7 : Int)))
      (cond (decide ((NatCast.natCast (List.length t2.1.2.2.2.1) : Int) < (Go.IntKind.wrap Go.IntKind.i64 (t2.1.1 + (Go.IntKind.wrap Go.IntKind.i64 ((64 : Int) - (Int.tmod t2.1.1 (64 : Int))))))))
        (some (([] : (List Int)), ((0 : Int), (false, ()))))
        (iter (R := ((List Int) × (Int × (Bool × Unit)))) (τ := ((Int × ((List Int) × (Int × (Unit × (Bool × (Int × Unit)))))) × (Unit × ((List Int) × Unit)))) (
          fun (t4 : ((Int × ((List Int) × (Int × (Unit × (Bool × (Int × Unit)))))) × (Unit × ((List Int) × Unit)))) =>
          fun (next5 : (((Int × ((List Int) × (Int × (Unit × (Bool × (Int × Unit)))))) × (Unit × ((List Int) × Unit))) → (Option ((List Int) × (Int × (Bool × Unit)))))) =>
          cond (decide (t4.1.1 < t4.1.2.2.2.2.2.1))
            (cond (decide ((0 : Int) ≤ (Go.IntKind.wrap Go.IntKind.i64 (t4.1.2.2.1 + t4.1.1))))
              (cond (decide ((Go.IntKind.wrap Go.IntKind.i64 (t4.1.2.2.1 + t4.1.1)) < (NatCast.natCast (List.length t4.1.2.1) : Int)))
                (cond (bne (List.getD t4.1.2.1 (Int.toNat (Go.IntKind.wrap Go.IntKind.i64 (t4.1.2.2.1 + t4.1.1))) (0 : Int)) (0 : Int))
                  (some (([] : (List Int)), ((0 : Int), (false, ()))))
                  (next5 (((Go.IntKind.wrap Go.IntKind.i64 (t4.1.1 + (1 : Int))), (t4.1.2.1, (t4.1.2.2.1, ((), (t4.1.2.2.2.2.1, (t4.1.2.2.2.2.2.1, ())))))), ((), (t4.2.2.1, ())))))
                (none))
              (none))
            (next3 (((Go.IntKind.wrap Go.IntKind.i64 (t4.1.2.2.1 + t4.1.2.2.2.2.2.1)), ((), (t4.1.2.2.2.2.1, (t4.1.2.1, ())))), ((), (t4.2.2.1, ()))))) k0 (((0 : Int), (t2.1.2.2.2.1, (t2.1.1, ((), (t2.1.2.2.1, ((Go.IntKind.wrap Go.IntKind.i64 ((64 : Int) - (Int.tmod t2.1.1 (64 : Int)))), ())))))), ((), (t2.2.2.1, ())))))
      (cond (decide ((NatCast.natCast (List.length t2.1.2.2.2.1) : Int) < (Go.IntKind.wrap Go.IntKind.i64 (t2.1.1 + (7 : Int)))))
        (some (([] : (List Int)), ((0 : Int), (false, ()))))
        (cond (decide ((0 : Int) ≤ (Go.IntKind.wrap Go.IntKind.i64 (t2.1.1 + (4 : Int)))))
          (cond (decide ((Go.IntKind.wrap Go.IntKind.i64 (t2.1.1 + (4 : Int))) < (NatCast.natCast (List.length t2.1.2.2.2.1) : Int)))
            (cond (decide ((0 : Int) ≤ (Go.IntKind.wrap Go.IntKind.i64 (t2.1.1 + (5 : Int)))))
              (cond (decide ((Go.IntKind.wrap Go.IntKind.i64 (t2.1.1 + (5 : Int))) < (NatCast.natCast (List.length t2.1.2.2.2.1) : Int)))
                (cond (decide ((0 : Int) ≤ (Go.IntKind.wrap Go.IntKind.i64 (t2.1.1 + (6 : Int)))))
                  (cond (decide ((Go.IntKind.wrap Go.IntKind.i64 (t2.1.1 + (6 : Int))) < (NatCast.natCast (List.length t2.1.2.2.2.1) : Int)))
                    (cond (decide ((Go.IntKind.wrap Go.IntKind.i64 ((Go.IntKind.wrap Go.IntKind.i64 ((64 : Int) - (Int.tmod t2.1.1 (64 : Int)))) - (7 : Int))) < (Go.IntKind.wrap Go.IntKind.i64 ((Go.IntKind.wrap Go.IntKind.i64 (List.getD t2.1.2.2.2.1 (Int.toNat (Go.IntKind.wrap Go.IntKind.i64 (t2.1.1 + (4 : Int)))) (0 : Int))) + (Go.IntKind.wrap Go.IntKind.i64 ((256 : Int) * (Go.IntKind.wrap Go.IntKind.i64 (List.getD t2.1.2.2.2.1 (Int.toNat (Go.IntKind.wrap Go.IntKind.i64 (t2.1.1 + (5 : Int)))) (0 : Int)))))))))
                      (some (([] : (List Int)), ((0 : Int), (false, ()))))
                      (cond (decide ((NatCast.natCast (List.length t2.1.2.2.2.1) : Int) < (Go.IntKind.wrap Go.IntKind.i64 ((Go.IntKind.wrap Go.IntKind.i64 (t2.1.1 + (7 : Int))) + (Go.IntKind.wrap Go.IntKind.i64 ((Go.IntKind.wrap Go.IntKind.i64 (List.getD t2.1.2.2.2.1 (Int.toNat (Go.IntKind.wrap Go.IntKind.i64 (t2.1.1 + (4 : Int)))) (0 : Int))) + (Go.IntKind.wrap Go.IntKind.i64 ((256 : Int) * (Go.IntKind.wrap Go.IntKind.i64 (List.getD t2.1.2.2.2.1 (Int.toNat (Go.IntKind.wrap Go.IntKind.i64 (t2.1.1 + (5 : Int)))) (0 : Int)))))))))))
                        (some (([] : (List Int)), ((0 : Int), (false, ()))))
                        (cond (decide ((0 : Int) ≤ (Go.IntKind.wrap Go.IntKind.i64 (t2.1.1 + (6 : Int)))))
                          (cond (decide ((Go.IntKind.wrap Go.IntKind.i64 (t2.1.1 + (6 : Int))) ≤ (Go.IntKind.wrap Go.IntKind.i64 ((Go.IntKind.wrap Go.IntKind.i64 (t2.1.1 + (7 : Int))) + (Go.IntKind.wrap Go.IntKind.i64 ((Go.IntKind.wrap Go.IntKind.i64 (List.getD t2.1.2.2.2.1 (Int.toNat (Go.IntKind.wrap Go.IntKind.i64 (t2.1.1 + (4 : Int)))) (0 : Int))) + (Go.IntKind.wrap Go.IntKind.i64 ((256 : Int) * (Go.IntKind.wrap Go.IntKind.i64 (List.getD t2.1.2.2.2.1 (Int.toNat (Go.IntKind.wrap Go.IntKind.i64 (t2.1.1 + (5 : Int)))) (0 : Int)))))))))))
                            (cond (decide ((Go.IntKind.wrap Go.IntKind.i64 ((Go.IntKind.wrap Go.IntKind.i64 (t2.1.1 + (7 : Int))) + (Go.IntKind.wrap Go.IntKind.i64 ((Go.IntKind.wrap Go.IntKind.i64 (List.getD t2.1.2.2.2.1 (Int.toNat (Go.IntKind.wrap Go.IntKind.i64 (t2.1.1 + (4 : Int)))) (0 : Int))) + (Go.IntKind.wrap Go.IntKind.i64 ((256 : Int) * (Go.IntKind.wrap Go.IntKind.i64 (List.getD t2.1.2.2.2.1 (Int.toNat (Go.IntKind.wrap Go.IntKind.i64 (t2.1.1 + (5 : Int)))) (0 : Int))))))))) ≤ (NatCast.natCast (List.length t2.1.2.2.2.1) : Int)))
                              (Option.bind (F32 k0 (t2.1.2.2.2.1, (t2.1.1, ((4 : Int), ()))))
                              (fun (ys4 : (Int × Unit)) =>
                                Option.bind (F33 k0 ((List.drop (Int.toNat (Go.IntKind.wrap Go.IntKind.i64 (t2.1.1 + (6 : Int)))) (List.take (Int.toNat (Go.IntKind.wrap Go.IntKind.i64 ((Go.IntKind.wrap Go.IntKind.i64 (t2.1.1 + (7 : Int))) + (Go.IntKind.wrap Go.IntKind.i64 ((Go.IntKind.wrap Go.IntKind.i64 (List.getD t2.1.2.2.2.1 (Int.toNat (Go.IntKind.wrap Go.IntKind.i64 (t2.1.1 + (4 : Int)))) (0 : Int))) + (Go.IntKind.wrap Go.IntKind.i64 ((256 : Int) * (Go.IntKind.wrap Go.IntKind.i64 (List.getD t2.1.2.2.2.1 (Int.toNat (Go.IntKind.wrap Go.IntKind.i64 (t2.1.1 + (5 : Int)))) (0 : Int)))))))))) t2.1.2.2.2.1)), ()))
                                (fun (ys5 : (Int × Unit)) =>
                                  cond (bne ys4.1 (Go.IntKind.wrap Go.IntKind.u64 ys5.1))
                                    (some (([] : (List Int)), ((0 : Int), (false, ()))))
                                    (cond ((Go.IntKind.wrap Go.IntKind.i64 (List.getD t2.1.2.2.2.1 (Int.toNat (Go.IntKind.wrap Go.IntKind.i64 (t2.1.1 + (6 : Int)))) (0 : Int))) == (3 : Int))
                                      (cond (!(t2.1.2.2.1 == true))
                                        (some (([] : (List Int)), ((0 : Int), (false, ()))))
                                        (cond (decide ((Go.IntKind.wrap Go.IntKind.i64 (List.getD t2.1.2.2.2.1 (Int.toNat (Go.IntKind.wrap Go.IntKind.i64 (t2.1.1 + (6 : Int)))) (0 : Int))) < (1 : Int)))
                                          (some (([] : (List Int)), ((0 : Int), (false, ()))))
                                          (cond (decide ((4 : Int) < (Go.IntKind.wrap Go.IntKind.i64 (List.getD t2.1.2.2.2.1 (Int.toNat (Go.IntKind.wrap Go.IntKind.i64 (t2.1.1 + (6 : Int)))) (0 : Int)))))
                                            (some (([] : (List Int)), ((0 : Int), (false, ()))))
                                            (cond ((Go.IntKind.wrap Go.IntKind.i64 (List.getD t2.1.2.2.2.1 (Int.toNat (Go.IntKind.wrap Go.IntKind.i64 (t2.1.1 + (6 : Int)))) (0 : Int))) == (1 : Int))
                                              (cond (decide ((0 : Int) ≤ (Go.IntKind.wrap Go.IntKind.i64 (t2.1.1 + (7 : Int)))))
                                                (cond (decide ((Go.IntKind.wrap Go.IntKind.i64 (t2.1.1 + (7 : Int))) ≤ (Go.IntKind.wrap Go.IntKind.i64 ((Go.IntKind.wrap Go.IntKind.i64 (t2.1.1 + (7 : Int))) + (Go.IntKind.wrap Go.IntKind.i64 ((Go.IntKind.wrap Go.IntKind.i64 (List.getD t2.1.2.2.2.1 (Int.toNat (Go.IntKind.wrap Go.IntKind.i64 (t2.1.1 + (4 : Int)))) (0 : Int))) + (Go.IntKind.wrap Go.IntKind.i64 ((256 : Int) * (Go.IntKind.wrap Go.IntKind.i64 (List.getD t2.1.2.2.2.1 (Int.toNat (Go.IntKind.wrap Go.IntKind.i64 (t2.1.1 + (5 : Int)))) (0 : Int)))))))))))
                                                  (cond (decide ((Go.IntKind.wrap Go.IntKind.i64 ((Go.IntKind.wrap Go.IntKind.i64 (t2.1.1 + (7 : Int))) + (Go.IntKind.wrap Go.IntKind.i64 ((Go.IntKind.wrap Go.IntKind.i64 (List.getD t2.1.2.2.2.1 (Int.toNat (Go.IntKind.wrap Go.IntKind.i64 (t2.1.1 + (4 : Int)))) (0 : Int))) + (Go.IntKind.wrap Go.IntKind.i64 ((256 : Int) * (Go.IntKind.wrap Go.IntKind.i64 (List.getD t2.1.2.2.2.1 (Int.toNat (Go.IntKind.wrap Go.IntKind.i64 (t2.1.1 + (5 : Int)))) (0 : Int))))))))) ≤ (NatCast.natCast (List.length t2.1.2.2.2.1) : Int)))
                                                    (cond (decide ((((List.length t2.2.2.1) + (List.length (List.drop (Int.toNat (Go.IntKind.wrap Go.IntKind.i64 (t2.1.1 + (7 : Int)))) (List.take (Int.toNat (Go.IntKind.wrap Go.IntKind.i64 ((Go.IntKind.wrap Go.IntKind.i64 (t2.1.1 + (7 : Int))) + (Go.IntKind.wrap Go.IntKind.i64 ((Go.IntKind.wrap Go.IntKind.i64 (List.getD t2.1.2.2.2.1 (Int.toNat (Go.IntKind.wrap Go.IntKind.i64 (t2.1.1 + (4 : Int)))) (0 : Int))) + (Go.IntKind.wrap Go.IntKind.i64 ((256 : Int) * (Go.IntKind.wrap Go.IntKind.i64 (List.getD t2.1.2.2.2.1 (Int.toNat (Go.IntKind.wrap Go.IntKind.i64 (t2.1.1 + (5 : Int)))) (0 : Int)))))))))) t2.1.2.2.2.1)))) * (1 : Nat)) ≤ (140737488355328 : Nat)))
                                                      (cond (decide ((4194304 : Int) < (NatCast.natCast (List.length (t2.2.2.1 ++ (List.drop (Int.toNat (Go.IntKind.wrap Go.IntKind.i64 (t2.1.1 + (7 : Int)))) (List.take (Int.toNat (Go.IntKind.wrap Go.IntKind.i64 ((Go.IntKind.wrap Go.IntKind.i64 (t2.1.1 + (7 : Int))) + (Go.IntKind.wrap Go.IntKind.i64 ((Go.IntKind.wrap Go.IntKind.i64 (List.getD t2.1.2.2.2.1 (Int.toNat (Go.IntKind.wrap Go.IntKind.i64 (t2.1.1 + (4 : Int)))) (0 : Int))) + (Go.IntKind.wrap Go.IntKind.i64 ((256 : Int) * (Go.IntKind.wrap Go.IntKind.i64 (List.getD t2.1.2.2.2.1 (Int.toNat (Go.IntKind.wrap Go.IntKind.i64 (t2.1.1 + (5 : Int)))) (0 : Int)))))))))) t2.1.2.2.2.1)))) : Int)))
                                                        (some (([] : (List Int)), ((0 : Int), (false, ()))))
                                                        (some ((t2.2.2.1 ++ (List.drop (Int.toNat (Go.IntKind.wrap Go.IntKind.i64 (t2.1.1 + (7 : Int)))) (List.take (Int.toNat (Go.IntKind.wrap Go.IntKind.i64 ((Go.IntKind.wrap Go.IntKind.i64 (t2.1.1 + (7 : Int))) + (Go.IntKind.wrap Go.IntKind.i64 ((Go.IntKind.wrap Go.IntKind.i64 (List.getD t2.1.2.2.2.1 (Int.toNat (Go.IntKind.wrap Go.IntKind.i64 (t2.1.1 + (4 : Int)))) (0 : Int))) + (Go.IntKind.wrap Go.IntKind.i64 ((256 : Int) * (Go.IntKind.wrap Go.IntKind.i64 (List.getD t2.1.2.2.2.1 (Int.toNat (Go.IntKind.wrap Go.IntKind.i64 (t2.1.1 + (5 : Int)))) (0 : Int)))))))))) t2.1.2.2.2.1))), ((Go.IntKind.wrap Go.IntKind.i64 ((Go.IntKind.wrap Go.IntKind.i64 (t2.1.1 + (7 : Int))) + (Go.IntKind.wrap Go.IntKind.i64 ((Go.IntKind.wrap Go.IntKind.i64 (List.getD t2.1.2.2.2.1 (Int.toNat (Go.IntKind.wrap Go.IntKind.i64 (t2.1.1 + (4 : Int)))) (0 : Int))) + (Go.IntKind.wrap Go.IntKind.i64 ((256 : Int) * (Go.IntKind.wrap Go.IntKind.i64 (List.getD t2.1.2.2.2.1 (Int.toNat (Go.IntKind.wrap Go.IntKind.i64 (t2.1.1 + (5 : Int)))) (0 : Int))))))))), (true, ())))))
                                                      (none))
                                                    (none))
                                                  (none))
                                                (none))
                                              (cond (!((Go.IntKind.wrap Go.IntKind.i64 (List.getD t2.1.2.2.2.1 (Int.toNat (Go.IntKind.wrap Go.IntKind.i64 (t2.1.1 + (6 : Int)))) (0 : Int))) == (4 : Int)))
                                                (cond (decide ((Go.IntKind.wrap Go.IntKind.i64 ((Go.IntKind.wrap Go.IntKind.i64 (List.getD t2.1.2.2.2.1 (Int.toNat (Go.IntKind.wrap Go.IntKind.i64 (t2.1.1 + (4 : Int)))) (0 : Int))) + (Go.IntKind.wrap Go.IntKind.i64 ((256 : Int) * (Go.IntKind.wrap Go.IntKind.i64 (List.getD t2.1.2.2.2.1 (Int.toNat (Go.IntKind.wrap Go.IntKind.i64 (t2.1.1 + (5 : Int)))) (0 : Int))))))) < (Go.IntKind.wrap Go.IntKind.i64 ((Go.IntKind.wrap Go.IntKind.i64 ((64 : Int) - (Int.tmod t2.1.1 (64 : Int)))) - (7 : Int)))))
                                                  (some (([] : (List Int)), ((0 : Int), (false, ()))))
                                                  (cond (decide ((0 : Int) ≤ (Go.IntKind.wrap Go.IntKind.i64 (t2.1.1 + (7 : Int)))))
                                                    (cond (decide ((Go.IntKind.wrap Go.IntKind.i64 (t2.1.1 + (7 : Int))) ≤ (Go.IntKind.wrap Go.IntKind.i64 ((Go.IntKind.wrap Go.IntKind.i64 (t2.1.1 + (7 : Int))) + (Go.IntKind.wrap Go.IntKind.i64 ((Go.IntKind.wrap Go.IntKind.i64 (List.getD t2.1.2.2.2.1 (Int.toNat (Go.IntKind.wrap Go.IntKind.i64 (t2.1.1 + (4 : Int)))) (0 : Int))) + (Go.IntKind.wrap Go.IntKind.i64 ((256 : Int) * (Go.IntKind.wrap Go.IntKind.i64 (List.getD t2.1.2.2.2.1 (Int.toNat (Go.IntKind.wrap Go.IntKind.i64 (t2.1.1 + (5 : Int)))) (0 : Int)))))))))))
                                                      (cond (decide ((Go.IntKind.wrap Go.IntKind.i64 ((Go.IntKind.wrap Go.IntKind.i64 (t2.1.1 + (7 : Int))) + (Go.IntKind.wrap Go.IntKind.i64 ((Go.IntKind.wrap Go.IntKind.i64 (List.getD t2.1.2.2.2.1 (Int.toNat (Go.IntKind.wrap Go.IntKind.i64 (t2.1.1 + (4 : Int)))) (0 : Int))) + (Go.IntKind.wrap Go.IntKind.i64 ((256 : Int) * (Go.IntKind.wrap Go.IntKind.i64 (List.getD t2.1.2.2.2.1 (Int.toNat (Go.IntKind.wrap Go.IntKind.i64 (t2.1.1 + (5 : Int)))) (0 : Int))))))))) ≤ (NatCast.natCast (List.length t2.1.2.2.2.1) : Int)))
                                                        (cond (decide ((((List.length t2.2.2.1) + (List.length (List.drop (Int.toNat (Go.IntKind.wrap Go.IntKind.i64 (t2.1.1 + (7 : Int)))) (List.take (Int.toNat (Go.IntKind.wrap Go.IntKind.i64 ((Go.IntKind.wrap Go.IntKind.i64 (t2.1.1 + (7 : Int))) + (Go.IntKind.wrap Go.IntKind.i64 ((Go.IntKind.wrap Go.IntKind.i64 (List.getD t2.1.2.2.2.1 (Int.toNat (Go.IntKind.wrap Go.IntKind.i64 (t2.1.1 + (4 : Int)))) (0 : Int))) + (Go.IntKind.wrap Go.IntKind.i64 ((256 : Int) * (Go.IntKind.wrap Go.IntKind.i64 (List.getD t2.1.2.2.2.1 (Int.toNat (Go.IntKind.wrap Go.IntKind.i64 (t2.1.1 + (5 : Int)))) (0 : Int)))))))))) t2.1.2.2.2.1)))) * (1 : Nat)) ≤ (140737488355328 : Nat)))
                                                          (cond (decide ((4194304 : Int) < (NatCast.natCast (List.length (t2.2.2.1 ++ (List.drop (Int.toNat (Go.IntKind.wrap Go.IntKind.i64 (t2.1.1 + (7 : Int)))) (List.take (Int.toNat (Go.IntKind.wrap Go.IntKind.i64 ((Go.IntKind.wrap Go.IntKind.i64 (t2.1.1 + (7 : Int))) + (Go.IntKind.wrap Go.IntKind.i64 ((Go.IntKind.wrap Go.IntKind.i64 (List.getD t2.1.2.2.2.1 (Int.toNat (Go.IntKind.wrap Go.IntKind.i64 (t2.1.1 + (4 : Int)))) (0 : Int))) + (Go.IntKind.wrap Go.IntKind.i64 ((256 : Int) * (Go.IntKind.wrap Go.IntKind.i64 (List.getD t2.1.2.2.2.1 (Int.toNat (Go.IntKind.wrap Go.IntKind.i64 (t2.1.1 + (5 : Int)))) (0 : Int)))))))))) t2.1.2.2.2.1)))) : Int)))
                                                            (some (([] : (List Int)), ((0 : Int), (false, ()))))
                                                            (cond ((Go.IntKind.wrap Go.IntKind.i64 (List.getD t2.1.2.2.2.1 (Int.toNat (Go.IntKind.wrap Go.IntKind.i64 (t2.1.1 + (6 : Int)))) (0 : Int))) == (4 : Int))
                                                              (some ((t2.2.2.1 ++ (List.drop (Int.toNat (Go.IntKind.wrap Go.IntKind.i64 (t2.1.1 + (7 : Int)))) (List.take (Int.toNat (Go.IntKind.wrap Go.IntKind.i64 ((Go.IntKind.wrap Go.IntKind.i64 (t2.1.1 + (7 : Int))) + (Go.IntKind.wrap Go.IntKind.i64 ((Go.IntKind.wrap Go.IntKind.i64 (List.getD t2.1.2.2.2.1 (Int.toNat (Go.IntKind.wrap Go.IntKind.i64 (t2.1.1 + (4 : Int)))) (0 : Int))) + (Go.IntKind.wrap Go.IntKind.i64 ((256 : Int) * (Go.IntKind.wrap Go.IntKind.i64 (List.getD t2.1.2.2.2.1 (Int.toNat (Go.IntKind.wrap Go.IntKind.i64 (t2.1.1 + (5 : Int)))) (0 : Int)))))))))) t2.1.2.2.2.1))), ((Go.IntKind.wrap Go.IntKind.i64 ((Go.IntKind.wrap Go.IntKind.i64 (t2.1.1 + (7 : Int))) + (Go.IntKind.wrap Go.IntKind.i64 ((Go.IntKind.wrap Go.IntKind.i64 (List.getD t2.1.2.2.2.1 (Int.toNat (Go.IntKind.wrap Go.IntKind.i64 (t2.1.1 + (4 : Int)))) (0 : Int))) + (Go.IntKind.wrap Go.IntKind.i64 ((256 : Int) * (Go.IntKind.wrap Go.IntKind.i64 (List.getD t2.1.2.2.2.1 (Int.toNat (Go.IntKind.wrap Go.IntKind.i64 (t2.1.1 + (5 : Int)))) (0 : Int))))))))), (true, ()))))
                                                              (next3 (((Go.IntKind.wrap Go.IntKind.i64 ((Go.IntKind.wrap Go.IntKind.i64 (t2.1.1 + (7 : Int))) + (Go.IntKind.wrap Go.IntKind.i64 ((Go.IntKind.wrap Go.IntKind.i64 (List.getD t2.1.2.2.2.1 (Int.toNat (Go.IntKind.wrap Go.IntKind.i64 (t2.1.1 + (4 : Int)))) (0 : Int))) + (Go.IntKind.wrap Go.IntKind.i64 ((256 : Int) * (Go.IntKind.wrap Go.IntKind.i64 (List.getD t2.1.2.2.2.1 (Int.toNat (Go.IntKind.wrap Go.IntKind.i64 (t2.1.1 + (5 : Int)))) (0 : Int))))))))), ((), (true, (t2.1.2.2.2.1, ())))), ((), ((t2.2.2.1 ++ (List.drop (Int.toNat (Go.IntKind.wrap Go.IntKind.i64 (t2.1.1 + (7 : Int)))) (List.take (Int.toNat (Go.IntKind.wrap Go.IntKind.i64 ((Go.IntKind.wrap Go.IntKind.i64 (t2.1.1 + (7 : Int))) + (Go.IntKind.wrap Go.IntKind.i64 ((Go.IntKind.wrap Go.IntKind.i64 (List.getD t2.1.2.2.2.1 (Int.toNat (Go.IntKind.wrap Go.IntKind.i64 (t2.1.1 + (4 : Int)))) (0 : Int))) + (Go.IntKind.wrap Go.IntKind.i64 ((256 : Int) * (Go.IntKind.wrap Go.IntKind.i64 (List.getD t2.1.2.2.2.1 (Int.toNat (Go.IntKind.wrap Go.IntKind.i64 (t2.1.1 + (5 : Int)))) (0 : Int)))))))))) t2.1.2.2.2.1))), ()))))))
                                                          (none))
                                                        (none))
                                                      (none))
                                                    (none)))
                                                (cond (decide ((0 : Int) ≤ (Go.IntKind.wrap Go.IntKind.i64 (t2.1.1 + (7 : Int)))))
                                                  (cond (decide ((Go.IntKind.wrap Go.IntKind.i64 (t2.1.1 + (7 : Int))) ≤ (Go.IntKind.wrap Go.IntKind.i64 ((Go.IntKind.wrap Go.IntKind.i64 (t2.1.1 + (7 : Int))) + (Go.IntKind.wrap Go.IntKind.i64 ((Go.IntKind.wrap Go.IntKind.i64 (List.getD t2.1.2.2.2.1 (Int.toNat (Go.IntKind.wrap Go.IntKind.i64 (t2.1.1 + (4 : Int)))) (0 : Int))) + (Go.IntKind.wrap Go.IntKind.i64 ((256 : Int) * (Go.IntKind.wrap Go.IntKind.i64 (List.getD t2.1.2.2.2.1 (Int.toNat (Go.IntKind.wrap Go.IntKind.i64 (t2.1.1 + (5 : Int)))) (0 : Int)))))))))))
                                                    (cond (decide ((Go.IntKind.wrap Go.IntKind.i64 ((Go.IntKind.wrap Go.IntKind.i64 (t2.1.1 + (7 : Int))) + (Go.IntKind.wrap Go.IntKind.i64 ((Go.IntKind.wrap Go.IntKind.i64 (List.getD t2.1.2.2.2.1 (Int.toNat (Go.IntKind.wrap Go.IntKind.i64 (t2.1.1 + (4 : Int)))) (0 : Int))) + (Go.IntKind.wrap Go.IntKind.i64 ((256 : Int) * (Go.IntKind.wrap Go.IntKind.i64 (List.getD t2.1.2.2.2.1 (Int.toNat (Go.IntKind.wrap Go.IntKind.i64 (t2.1.1 + (5 : Int)))) (0 : Int))))))))) ≤ (NatCast.natCast (List.length t2.1.2.2.2.1) : Int)))
                                                      (cond (decide ((((List.length t2.2.2.1) + (List.length (List.drop (Int.toNat (Go.IntKind.wrap Go.IntKind.i64 (t2.1.1 + (7 : Int)))) (List.take (Int.toNat (Go.IntKind.wrap Go.IntKind.i64 ((Go.IntKind.wrap Go.IntKind.i64 (t2.1.1 + (7 : Int))) + (Go.IntKind.wrap Go.IntKind.i64 ((Go.IntKind.wrap Go.IntKind.i64 (List.getD t2.1.2.2.2.1 (Int.toNat (Go.IntKind.wrap Go.IntKind.i64 (t2.1.1 + (4 : Int)))) (0 : Int))) + (Go.IntKind.wrap Go.IntKind.i64 ((256 : Int) * (Go.IntKind.wrap Go.IntKind.i64 (List.getD t2.1.2.2.2.1 (Int.toNat (Go.IntKind.wrap Go.IntKind.i64 (t2.1.1 + (5 : Int)))) (0 : Int)))))))))) t2.1.2.2.2.1)))) * (1 : Nat)) ≤ (140737488355328 : Nat)))
                                                        (cond (decide ((4194304 : Int) < (NatCast.natCast (List.length (t2.2.2.1 ++ (List.drop (Int.toNat (Go.IntKind.wrap Go.IntKind.i64 (t2.1.1 + (7 : Int)))) (List.take (Int.toNat (Go.IntKind.wrap Go.IntKind.i64 ((Go.IntKind.wrap Go.IntKind.i64 (t2.1.1 + (7 : Int))) + (Go.IntKind.wrap Go.IntKind.i64 ((Go.IntKind.wrap Go.IntKind.i64 (List.getD t2.1.2.2.2.1 (Int.toNat (Go.IntKind.wrap Go.IntKind.i64 (t2.1.1 + (4 : Int)))) (0 : Int))) + (Go.IntKind.wrap Go.IntKind.i64 ((256 : Int) * (Go.IntKind.wrap Go.IntKind.i64 (List.getD t2.1.2.2.2.1 (Int.toNat (Go.IntKind.wrap Go.IntKind.i64 (t2.1.1 + (5 : Int)))) (0 : Int)))))))))) t2.1.2.2.2.1)))) : Int)))
                                                          (some (([] : (List Int)), ((0 : Int), (false, ()))))
                                                          (cond ((Go.IntKind.wrap Go.IntKind.i64 (List.getD t2.1.2.2.2.1 (Int.toNat (Go.IntKind.wrap Go.IntKind.i64 (t2.1.1 + (6 : Int)))) (0 : Int))) == (4 : Int))
                                                            (some ((t2.2.2.1 ++ (List.drop (Int.toNat (Go.IntKind.wrap Go.IntKind.i64 (t2.1.1 + (7 : Int)))) (List.take (Int.toNat (Go.IntKind.wrap Go.IntKind.i64 ((Go.IntKind.wrap Go.IntKind.i64 (t2.1.1 + (7 : Int))) + (Go.IntKind.wrap Go.IntKind.i64 ((Go.IntKind.wrap Go.IntKind.i64 (List.getD t2.1.2.2.2.1 (Int.toNat (Go.IntKind.wrap Go.IntKind.i64 (t2.1.1 + (4 : Int)))) (0 : Int))) + (Go.IntKind.wrap Go.IntKind.i64 ((256 : Int) * (Go.IntKind.wrap Go.IntKind.i64 (List.getD t2.1.2.2.2.1 (Int.toNat (Go.IntKind.wrap Go.IntKind.i64 (t2.1.1 + (5 : Int)))) (0 : Int)))))))))) t2.1.2.2.2.1))), ((Go.IntKind.wrap Go.IntKind.i64 ((Go.IntKind.wrap Go.IntKind.i64 (t2.1.1 + (7 : Int))) + (Go.IntKind.wrap Go.IntKind.i64 ((Go.IntKind.wrap Go.IntKind.i64 (List.getD t2.1.2.2.2.1 (Int.toNat (Go.IntKind.wrap Go.IntKind.i64 (t2.1.1 + (4 : Int)))) (0 : Int))) + (Go.IntKind.wrap Go.IntKind.i64 ((256 : Int) * (Go.IntKind.wrap Go.IntKind.i64 (List.getD t2.1.2.2.2.1 (Int.toNat (Go.IntKind.wrap Go.IntKind.i64 (t2.1.1 + (5 : Int)))) (0 : Int))))))))), (true, ()))))
                                                            (next3 (((Go.IntKind.wrap Go.IntKind.i64 ((Go.IntKind.wrap Go.IntKind.i64 (t2.1.1 + (7 : Int))) + (Go.IntKind.wrap Go.IntKind.i64 ((Go.IntKind.wrap Go.IntKind.i64 (List.getD t2.1.2.2.2.1 (Int.toNat (Go.IntKind.wrap Go.IntKind.i64 (t2.1.1 + (4 : Int)))) (0 : Int))) + (Go.IntKind.wrap Go.IntKind.i64 ((256 : Int) * (Go.IntKind.wrap Go.IntKind.i64 (List.getD t2.1.2.2.2.1 (Int.toNat (Go.IntKind.wrap Go.IntKind.i64 (t2.1.1 + (5 : Int)))) (0 : Int))))))))), ((), (true, (t2.1.2.2.2.1, ())))), ((), ((t2.2.2.1 ++ (List.drop (Int.toNat (Go.IntKind.wrap Go.IntKind.i64 (t2.1.1 + (7 : Int)))) (List.take (Int.toNat (Go.IntKind.wrap Go.IntKind.i64 ((Go.IntKind.wrap Go.IntKind.i64 (t2.1.1 + (7 : Int))) + (Go.IntKind.wrap Go.IntKind.i64 ((Go.IntKind.wrap Go.IntKind.i64 (List.getD t2.1.2.2.2.1 (Int.toNat (Go.IntKind.wrap Go.IntKind.i64 (t2.1.1 + (4 : Int)))) (0 : Int))) + (Go.IntKind.wrap Go.IntKind.i64 ((256 : Int) * (Go.IntKind.wrap Go.IntKind.i64 (List.getD t2.1.2.2.2.1 (Int.toNat (Go.IntKind.wrap Go.IntKind.i64 (t2.1.1 + (5 : Int)))) (0 : Int)))))))))) t2.1.2.2.2.1))), ()))))))
                                                        (none))
                                                      (none))
                                                    (none))
                                                  (none)))))))
                                      (cond (!(t2.1.2.2.1 == ((Go.IntKind.wrap Go.IntKind.i64 (List.getD t2.1.2.2.2.1 (Int.toNat (Go.IntKind.wrap Go.IntKind.i64 (t2.1.1 + (6 : Int)))) (0 : Int))) == (4 : Int))))
                                        (some (([] : (List Int)), ((0 : Int), (false, ()))))
                                        (cond (decide ((Go.IntKind.wrap Go.IntKind.i64 (List.getD t2.1.2.2.2.1 (Int.toNat (Go.IntKind.wrap Go.IntKind.i64 (t2.1.1 + (6 : Int)))) (0 : Int))) < (1 : Int)))
                                          (some (([] : (List Int)), ((0 : Int), (false, ()))))
                                          (cond (decide ((4 : Int) < (Go.IntKind.wrap Go.IntKind.i64 (List.getD t2.1.2.2.2.1 (Int.toNat (Go.IntKind.wrap Go.IntKind.i64 (t2.1.1 + (6 : Int)))) (0 : Int)))))
                                            (some (([] : (List Int)), ((0 : Int), (false, ()))))
                                            (cond ((Go.IntKind.wrap Go.IntKind.i64 (List.getD t2.1.2.2.2.1 (Int.toNat (Go.IntKind.wrap Go.IntKind.i64 (t2.1.1 + (6 : Int)))) (0 : Int))) == (1 : Int))
                                              (cond (decide ((0 : Int) ≤ (Go.IntKind.wrap Go.IntKind.i64 (t2.1.1 + (7 : Int)))))
                                                (cond (decide ((Go.IntKind.wrap Go.IntKind.i64 (t2.1.1 + (7 : Int))) ≤ (Go.IntKind.wrap Go.IntKind.i64 ((Go.IntKind.wrap Go.IntKind.i64 (t2.1.1 + (7 : Int))) + (Go.IntKind.wrap Go.IntKind.i64 ((Go.IntKind.wrap Go.IntKind.i64 (List.getD t2.1.2.2.2.1 (Int.toNat (Go.IntKind.wrap Go.IntKind.i64 (t2.1.1 + (4 : Int)))) (0 : Int))) + (Go.IntKind.wrap Go.IntKind.i64 ((256 : Int) * (Go.IntKind.wrap Go.IntKind.i64 (List.getD t2.1.2.2.2.1 (Int.toNat (Go.IntKind.wrap Go.IntKind.i64 (t2.1.1 + (5 : Int)))) (0 : Int)))))))))))
                                                  (cond (decide ((Go.IntKind.wrap Go.IntKind.i64 ((Go.IntKind.wrap Go.IntKind.i64 (t2.1.1 + (7 : Int))) + (Go.IntKind.wrap Go.IntKind.i64 ((Go.IntKind.wrap Go.IntKind.i64 (List.getD t2.1.2.2.2.1 (Int.toNat (Go.IntKind.wrap Go.IntKind.i64 (t2.1.1 + (4 : Int)))) (0 : Int))) + (Go.IntKind.wrap Go.IntKind.i64 ((256 : Int) * (Go.IntKind.wrap Go.IntKind.i64 (List.getD t2.1.2.2.2.1 (Int.toNat (Go.IntKind.wrap Go.IntKind.i64 (t2.1.1 + (5 : Int)))) (0 : Int))))))))) ≤ (NatCast.natCast (List.length t2.1.2.2.2.1) : Int)))
                                                    (cond (decide ((((List.length t2.2.2.1) + (List.length (List.drop (Int.toNat (Go.IntKind.wrap Go.IntKind.i64 (t2.1.1 + (7 : Int)))) (List.take (Int.toNat (Go.IntKind.wrap Go.IntKind.i64 ((Go.IntKind.wrap Go.IntKind.i64 (t2.1.1 + (7 : Int))) + (Go.IntKind.wrap Go.IntKind.i64 ((Go.IntKind.wrap Go.IntKind.i64 (List.getD t2.1.2.2.2.1 (Int.toNat (Go.IntKind.wrap Go.IntKind.i64 (t2.1.1 + (4 : Int)))) (0 : Int))) + (Go.IntKind.wrap Go.IntKind.i64 ((256 : Int) * (Go.IntKind.wrap Go.IntKind.i64 (List.getD t2.1.2.2.2.1 (Int.toNat (Go.IntKind.wrap Go.IntKind.i64 (t2.1.1 + (5 : Int)))) (0 : Int)))))))))) t2.1.2.2.2.1)))) * (1 : Nat)) ≤ (140737488355328 : Nat)))
                                                      (cond (decide ((4194304 : Int) < (NatCast.natCast (List.length (t2.2.2.1 ++ (List.drop (Int.toNat (Go.IntKind.wrap Go.IntKind.i64 (t2.1.1 + (7 : Int)))) (List.take (Int.toNat (Go.IntKind.wrap Go.IntKind.i64 ((Go.IntKind.wrap Go.IntKind.i64 (t2.1.1 + (7 : Int))) + (Go.IntKind.wrap Go.IntKind.i64 ((Go.IntKind.wrap Go.IntKind.i64 (List.getD t2.1.2.2.2.1 (Int.toNat (Go.IntKind.wrap Go.IntKind.i64 (t2.1.1 + (4 : Int)))) (0 : Int))) + (Go.IntKind.wrap Go.IntKind.i64 ((256 : Int) * (Go.IntKind.wrap Go.IntKind.i64 (List.getD t2.1.2.2.2.1 (Int.toNat (Go.IntKind.wrap Go.IntKind.i64 (t2.1.1 + (5 : Int)))) (0 : Int)))))))))) t2.1.2.2.2.1)))) : Int)))
                                                        (some (([] : (List Int)), ((0 : Int), (false, ()))))
                                                        (some ((t2.2.2.1 ++ (List.drop (Int.toNat (Go.IntKind.wrap Go.IntKind.i64 (t2.1.1 + (7 : Int)))) (List.take (Int.toNat (Go.IntKind.wrap Go.IntKind.i64 ((Go.IntKind.wrap Go.IntKind.i64 (t2.1.1 + (7 : Int))) + (Go.IntKind.wrap Go.IntKind.i64 ((Go.IntKind.wrap Go.IntKind.i64 (List.getD t2.1.2.2.2.1 (Int.toNat (Go.IntKind.wrap Go.IntKind.i64 (t2.1.1 + (4 : Int)))) (0 : Int))) + (Go.IntKind.wrap Go.IntKind.i64 ((256 : Int) * (Go.IntKind.wrap Go.IntKind.i64 (List.getD t2.1.2.2.2.1 (Int.toNat (Go.IntKind.wrap Go.IntKind.i64 (t2.1.1 + (5 : Int)))) (0 : Int)))))))))) t2.1.2.2.2.1))), ((Go.IntKind.wrap Go.IntKind.i64 ((Go.IntKind.wrap Go.IntKind.i64 (t2.1.1 + (7 : Int))) + (Go.IntKind.wrap Go.IntKind.i64 ((Go.IntKind.wrap Go.IntKind.i64 (List.getD t2.1.2.2.2.1 (Int.toNat (Go.IntKind.wrap Go.IntKind.i64 (t2.1.1 + (4 : Int)))) (0 : Int))) + (Go.IntKind.wrap Go.IntKind.i64 ((256 : Int) * (Go.IntKind.wrap Go.IntKind.i64 (List.getD t2.1.2.2.2.1 (Int.toNat (Go.IntKind.wrap Go.IntKind.i64 (t2.1.1 + (5 : Int)))) (0 : Int))))))))), (true, ())))))
                                                      (none))
                                                    (none))
                                                  (none))
                                                (none))
                                              (cond (!((Go.IntKind.wrap Go.IntKind.i64 (List.getD t2.1.2.2.2.1 (Int.toNat (Go.IntKind.wrap Go.IntKind.i64 (t2.1.1 + (6 : Int)))) (0 : Int))) == (4 : Int)))
                                                (cond (decide ((Go.IntKind.wrap Go.IntKind.i64 ((Go.IntKind.wrap Go.IntKind.i64 (List.getD t2.1.2.2.2.1 (Int.toNat (Go.IntKind.wrap Go.IntKind.i64 (t2.1.1 + (4 : Int)))) (0 : Int))) + (Go.IntKind.wrap Go.IntKind.i64 ((256 : Int) * (Go.IntKind.wrap Go.IntKind.i64 (List.getD t2.1.2.2.2.1 (Int.toNat (Go.IntKind.wrap Go.IntKind.i64 (t2.1.1 + (5 : Int)))) (0 : Int))))))) < (Go.IntKind.wrap Go.IntKind.i64 ((Go.IntKind.wrap Go.IntKind.i64 ((64 : Int) - (Int.tmod t2.1.1 (64 : Int)))) - (7 : Int)))))
                                                  (some (([] : (List Int)), ((0 : Int), (false, ()))))
                                                  (cond (decide ((0 : Int) ≤ (Go.IntKind.wrap Go.IntKind.i64 (t2.1.1 + (7 : Int)))))
                                                    (cond (decide ((Go.IntKind.wrap Go.IntKind.i64 (t2.1.1 + (7 : Int))) ≤ (Go.IntKind.wrap Go.IntKind.i64 ((Go.IntKind.wrap Go.IntKind.i64 (t2.1.1 + (7 : Int))) + (Go.IntKind.wrap Go.IntKind.i64 ((Go.IntKind.wrap Go.IntKind.i64 (List.getD t2.1.2.2.2.1 (Int.toNat (Go.IntKind.wrap Go.IntKind.i64 (t2.1.1 + (4 : Int)))) (0 : Int))) + (Go.IntKind.wrap Go.IntKind.i64 ((256 : Int) * (Go.IntKind.wrap Go.IntKind.i64 (List.getD t2.1.2.2.2.1 (Int.toNat (Go.IntKind.wrap Go.IntKind.i64 (t2.1.1 + (5 : Int)))) (0 : Int)))))))))))
                                                      (cond (decide ((Go.IntKind.wrap Go.IntKind.i64 ((Go.IntKind.wrap Go.IntKind.i64 (t2.1.1 + (7 : Int))) + (Go.IntKind.wrap Go.IntKind.i64 ((Go.IntKind.wrap Go.IntKind.i64 (List.getD t2.1.2.2.2.1 (Int.toNat (Go.IntKind.wrap Go.IntKind.i64 (t2.1.1 + (4 : Int)))) (0 : Int))) + (Go.IntKind.wrap Go.IntKind.i64 ((256 : Int) * (Go.IntKind.wrap Go.IntKind.i64 (List.getD t2.1.2.2.2.1 (Int.toNat (Go.IntKind.wrap Go.IntKind.i64 (t2.1.1 + (5 : Int)))) (0 : Int))))))))) ≤ (NatCast.natCast (List.length t2.1.2.2.2.1) : Int)))
                                                        (cond (decide ((((List.length t2.2.2.1) + (List.length (List.drop (Int.toNat (Go.IntKind.wrap Go.IntKind.i64 (t2.1.1 + (7 : Int)))) (List.take (Int.toNat (Go.IntKind.wrap Go.IntKind.i64 ((Go.IntKind.wrap Go.IntKind.i64 (t2.1.1 + (7 : Int))) + (Go.IntKind.wrap Go.IntKind.i64 ((Go.IntKind.wrap Go.IntKind.i64 (List.getD t2.1.2.2.2.1 (Int.toNat (Go.IntKind.wrap Go.IntKind.i64 (t2.1.1 + (4 : Int)))) (0 : Int))) + (Go.IntKind.wrap Go.IntKind.i64 ((256 : Int) * (Go.IntKind.wrap Go.IntKind.i64 (List.getD t2.1.2.2.2.1 (Int.toNat (Go.IntKind.wrap Go.IntKind.i64 (t2.1.1 + (5 : Int)))) (0 : Int)))))))))) t2.1.2.2.2.1)))) * (1 : Nat)) ≤ (140737488355328 : Nat)))
                                                          (cond (decide ((4194304 : Int) < (NatCast.natCast (List.length (t2.2.2.1 ++ (List.drop (Int.toNat (Go.IntKind.wrap Go.IntKind.i64 (t2.1.1 + (7 : Int)))) (List.take (Int.toNat (Go.IntKind.wrap Go.IntKind.i64 ((Go.IntKind.wrap Go.IntKind.i64 (t2.1.1 + (7 : Int))) + (Go.IntKind.wrap Go.IntKind.i64 ((Go.IntKind.wrap Go.IntKind.i64 (List.getD t2.1.2.2.2.1 (Int.toNat (Go.IntKind.wrap Go.IntKind.i64 (t2.1.1 + (4 : Int)))) (0 : Int))) + (Go.IntKind.wrap Go.IntKind.i64 ((256 : Int) * (Go.IntKind.wrap Go.IntKind.i64 (List.getD t2.1.2.2.2.1 (Int.toNat (Go.IntKind.wrap Go.IntKind.i64 (t2.1.1 + (5 : Int)))) (0 : Int)))))))))) t2.1.2.2.2.1)))) : Int)))
                                                            (some (([] : (List Int)), ((0 : Int), (false, ()))))
                                                            (cond ((Go.IntKind.wrap Go.IntKind.i64 (List.getD t2.1.2.2.2.1 (Int.toNat (Go.IntKind.wrap Go.IntKind.i64 (t2.1.1 + (6 : Int)))) (0 : Int))) == (4 : Int))
                                                              (some ((t2.2.2.1 ++ (List.drop (Int.toNat (Go.IntKind.wrap Go.IntKind.i64 (t2.1.1 + (7 : Int)))) (List.take (Int.toNat (Go.IntKind.wrap Go.IntKind.i64 ((Go.IntKind.wrap Go.IntKind.i64 (t2.1.1 + (7 : Int))) + (Go.IntKind.wrap Go.IntKind.i64 ((Go.IntKind.wrap Go.IntKind.i64 (List.getD t2.1.2.2.2.1 (Int.toNat (Go.IntKind.wrap Go.IntKind.i64 (t2.1.1 + (4 : Int)))) (0 : Int))) + (Go.IntKind.wrap Go.IntKind.i64 ((256 : Int) * (Go.IntKind.wrap Go.IntKind.i64 (List.getD t2.1.2.2.2.1 (Int.toNat (Go.IntKind.wrap Go.IntKind.i64 (t2.1.1 + (5 : Int)))) (0 : Int)))))))))) t2.1.2.2.2.1))), ((Go.IntKind.wrap Go.IntKind.i64 ((Go.IntKind.wrap Go.IntKind.i64 (t2.1.1 + (7 : Int))) + (Go.IntKind.wrap Go.IntKind.i64 ((Go.IntKind.wrap Go.IntKind.i64 (List.getD t2.1.2.2.2.1 (Int.toNat (Go.IntKind.wrap Go.IntKind.i64 (t2.1.1 + (4 : Int)))) (0 : Int))) + (Go.IntKind.wrap Go.IntKind.i64 ((256 : Int) * (Go.IntKind.wrap Go.IntKind.i64 (List.getD t2.1.2.2.2.1 (Int.toNat (Go.IntKind.wrap Go.IntKind.i64 (t2.1.1 + (5 : Int)))) (0 : Int))))))))), (true, ()))))
                                                              (next3 (((Go.IntKind.wrap Go.IntKind.i64 ((Go.IntKind.wrap Go.IntKind.i64 (t2.1.1 + (7 : Int))) + (Go.IntKind.wrap Go.IntKind.i64 ((Go.IntKind.wrap Go.IntKind.i64 (List.getD t2.1.2.2.2.1 (Int.toNat (Go.IntKind.wrap Go.IntKind.i64 (t2.1.1 + (4 : Int)))) (0 : Int))) + (Go.IntKind.wrap Go.IntKind.i64 ((256 : Int) * (Go.IntKind.wrap Go.IntKind.i64 (List.getD t2.1.2.2.2.1 (Int.toNat (Go.IntKind.wrap Go.IntKind.i64 (t2.1.1 + (5 : Int)))) (0 : Int))))))))), ((), (true, (t2.1.2.2.2.1, ())))), ((), ((t2.2.2.1 ++ (List.drop (Int.toNat (Go.IntKind.wrap Go.IntKind.i64 (t2.1.1 + (7 : Int)))) (List.take (Int.toNat (Go.IntKind.wrap Go.IntKind.i64 ((Go.IntKind.wrap Go.IntKind.i64 (t2.1.1 + (7 : Int))) + (Go.IntKind.wrap Go.IntKind.i64 ((Go.IntKind.wrap Go.IntKind.i64 (List.getD t2.1.2.2.2.1 (Int.toNat (Go.IntKind.wrap Go.IntKind.i64 (t2.1.1 + (4 : Int)))) (0 : Int))) + (Go.IntKind.wrap Go.IntKind.i64 ((256 : Int) * (Go.IntKind.wrap Go.IntKind.i64 (List.getD t2.1.2.2.2.1 (Int.toNat (Go.IntKind.wrap Go.IntKind.i64 (t2.1.1 + (5 : Int)))) (0 : Int)))))))))) t2.1.2.2.2.1))), ()))))))
                                                          (none))
                                                        (none))
                                                      (none))
                                                    (none)))
                                                (cond (decide ((0 : Int) ≤ (Go.IntKind.wrap Go.IntKind.i64 (t2.1.1 + (7 : Int)))))
                                                  (cond (decide ((Go.IntKind.wrap Go.IntKind.i64 (t2.1.1 + (7 : Int))) ≤ (Go.IntKind.wrap Go.IntKind.i64 ((Go.IntKind.wrap Go.IntKind.i64 (t2.1.1 + (7 : Int))) + (Go.IntKind.wrap Go.IntKind.i64 ((Go.IntKind.wrap Go.IntKind.i64 (List.getD t2.1.2.2.2.1 (Int.toNat (Go.IntKind.wrap Go.IntKind.i64 (t2.1.1 + (4 : Int)))) (0 : Int))) + (Go.IntKind.wrap Go.IntKind.i64 ((256 : Int) * (Go.IntKind.wrap Go.IntKind.i64 (List.getD t2.1.2.2.2.1 (Int.toNat (Go.IntKind.wrap Go.IntKind.i64 (t2.1.1 + (5 : Int)))) (0 : Int)))))))))))
                                                    (cond (decide ((Go.IntKind.wrap Go.IntKind.i64 ((Go.IntKind.wrap Go.IntKind.i64 (t2.1.1 + (7 : Int))) + (Go.IntKind.wrap Go.IntKind.i64 ((Go.IntKind.wrap Go.IntKind.i64 (List.getD t2.1.2.2.2.1 (Int.toNat (Go.IntKind.wrap Go.IntKind.i64 (t2.1.1 + (4 : Int)))) (0 : Int))) + (Go.IntKind.wrap Go.IntKind.i64 ((256 : Int) * (Go.IntKind.wrap Go.IntKind.i64 (List.getD t2.1.2.2.2.1 (Int.toNat (Go.IntKind.wrap Go.IntKind.i64 (t2.1.1 + (5 : Int)))) (0 : Int))))))))) ≤ (NatCast.natCast (List.length t2.1.2.2.2.1) : Int)))
                                                      (cond (decide ((((List.length t2.2.2.1) + (List.length (List.drop (Int.toNat (Go.IntKind.wrap Go.IntKind.i64 (t2.1.1 + (7 : Int)))) (List.take (Int.toNat (Go.IntKind.wrap Go.IntKind.i64 ((Go.IntKind.wrap Go.IntKind.i64 (t2.1.1 + (7 : Int))) + (Go.IntKind.wrap Go.IntKind.i64 ((Go.IntKind.wrap Go.IntKind.i64 (List.getD t2.1.2.2.2.1 (Int.toNat (Go.IntKind.wrap Go.IntKind.i64 (t2.1.1 + (4 : Int)))) (0 : Int))) + (Go.IntKind.wrap Go.IntKind.i64 ((256 : Int) * (Go.IntKind.wrap Go.IntKind.i64 (List.getD t2.1.2.2.2.1 (Int.toNat (Go.IntKind.wrap Go.IntKind.i64 (t2.1.1 + (5 : Int)))) (0 : Int)))))))))) t2.1.2.2.2.1)))) * (1 : Nat)) ≤ (140737488355328 : Nat)))
                                                        (cond (decide ((4194304 : Int) < (NatCast.natCast (List.length (t2.2.2.1 ++ (List.drop (Int.toNat (Go.IntKind.wrap Go.IntKind.i64 (t2.1.1 + (7 : Int)))) (List.take (Int.toNat (Go.IntKind.wrap Go.IntKind.i64 ((Go.IntKind.wrap Go.IntKind.i64 (t2.1.1 + (7 : Int))) + (Go.IntKind.wrap Go.IntKind.i64 ((Go.IntKind.wrap Go.IntKind.i64 (List.getD t2.1.2.2.2.1 (Int.toNat (Go.IntKind.wrap Go.IntKind.i64 (t2.1.1 + (4 : Int)))) (0 : Int))) + (Go.IntKind.wrap Go.IntKind.i64 ((256 : Int) * (Go.IntKind.wrap Go.IntKind.i64 (List.getD t2.1.2.2.2.1 (Int.toNat (Go.IntKind.wrap Go.IntKind.i64 (t2.1.1 + (5 : Int)))) (0 : Int)))))))))) t2.1.2.2.2.1)))) : Int)))
                                                          (some (([] : (List Int)), ((0 : Int), (false, ()))))
                                                          (cond ((Go.IntKind.wrap Go.IntKind.i64 (List.getD t2.1.2.2.2.1 (Int.toNat (Go.IntKind.wrap Go.IntKind.i64 (t2.1.1 + (6 : Int)))) (0 : Int))) == (4 : Int))
                                                            (some ((t2.2.2.1 ++ (List.drop (Int.toNat (Go.IntKind.wrap Go.IntKind.i64 (t2.1.1 + (7 : Int)))) (List.take (Int.toNat (Go.IntKind.wrap Go.IntKind.i64 ((Go.IntKind.wrap Go.IntKind.i64 (t2.1.1 + (7 : Int))) + (Go.IntKind.wrap Go.IntKind.i64 ((Go.IntKind.wrap Go.IntKind.i64 (List.getD t2.1.2.2.2.1 (Int.toNat (Go.IntKind.wrap Go.IntKind.i64 (t2.1.1 + (4 : Int)))) (0 : Int))) + (Go.IntKind.wrap Go.IntKind.i64 ((256 : Int) * (Go.IntKind.wrap Go.IntKind.i64 (List.getD t2.1.2.2.2.1 (Int.toNat (Go.IntKind.wrap Go.IntKind.i64 (t2.1.1 + (5 : Int)))) (0 : Int)))))))))) t2.1.2.2.2.1))), ((Go.IntKind.wrap Go.IntKind.i64 ((Go.IntKind.wrap Go.IntKind.i64 (t2.1.1 + (7 : Int))) + (Go.IntKind.wrap Go.IntKind.i64 ((Go.IntKind.wrap Go.IntKind.i64 (List.getD t2.1.2.2.2.1 (Int.toNat (Go.IntKind.wrap Go.IntKind.i64 (t2.1.1 + (4 : Int)))) (0 : Int))) + (Go.IntKind.wrap Go.IntKind.i64 ((256 : Int) * (Go.IntKind.wrap Go.IntKind.i64 (List.getD t2.1.2.2.2.1 (Int.toNat (Go.IntKind.wrap Go.IntKind.i64 (t2.1.1 + (5 : Int)))) (0 : Int))))))))), (true, ()))))
                                                            (next3 (((Go.IntKind.wrap Go.IntKind.i64 ((Go.IntKind.wrap Go.IntKind.i64 (t2.1.1 + (7 : Int))) + (Go.IntKind.wrap Go.IntKind.i64 ((Go.IntKind.wrap Go.IntKind.i64 (List.getD t2.1.2.2.2.1 (Int.toNat (Go.IntKind.wrap Go.IntKind.i64 (t2.1.1 + (4 : Int)))) (0 : Int))) + (Go.IntKind.wrap Go.IntKind.i64 ((256 : Int) * (Go.IntKind.wrap Go.IntKind.i64 (List.getD t2.1.2.2.2.1 (Int.toNat (Go.IntKind.wrap Go.IntKind.i64 (t2.1.1 + (5 : Int)))) (0 : Int))))))))), ((), (true, (t2.1.2.2.2.1, ())))), ((), ((t2.2.2.1 ++ (List.drop (Int.toNat (Go.IntKind.wrap Go.IntKind.i64 (t2.1.1 + (7 : Int)))) (List.take (Int.toNat (Go.IntKind.wrap Go.IntKind.i64 ((Go.IntKind.wrap Go.IntKind.i64 (t2.1.1 + (7 : Int))) + (Go.IntKind.wrap Go.IntKind.i64 ((Go.IntKind.wrap Go.IntKind.i64 (List.getD t2.1.2.2.2.1 (Int.toNat (Go.IntKind.wrap Go.IntKind.i64 (t2.1.1 + (4 : Int)))) (0 : Int))) + (Go.IntKind.wrap Go.IntKind.i64 ((256 : Int) * (Go.IntKind.wrap Go.IntKind.i64 (List.getD t2.1.2.2.2.1 (Int.toNat (Go.IntKind.wrap Go.IntKind.i64 (t2.1.1 + (5 : Int)))) (0 : Int)))))))))) t2.1.2.2.2.1))), ()))))))
                                                        (none))
                                                      (none))
                                                    (none))
                                                  (none)))))))))))
                              (none))
                            (none))
                          (none))))
                    (none))
                  (none))
                (none))
              (none))
            (none))
          (none)))) k0 ((xs1.2.1, ((), (false, (xs1.1, ())))), ((), (([] : (List Int)), ())))
/-- moraine/moraineref5.Read -/
def F12 : Nat → ((List (Int)) × Unit) → Option ((List (List (Int))) × ((Int) × Unit)) := fun (k0 : Nat) =>
  fun (xs1 : ((List Int) × Unit)) =>
  iter (R := ((List (List Int)) × (Int × Unit))) (τ := ((Unit × (Int × ((List Int) × Unit))) × (Unit × ((List (List Int)) × Unit)))) (
    fun (t2 : ((Unit × (Int × ((List Int) × Unit))) × (Unit × ((List (List Int)) × Unit)))) =>
    fun (next3 : (((Unit × (Int × ((List Int) × Unit))) × (Unit × ((List (List Int)) × Unit))) → (Option ((List (List Int)) × (Int × Unit))))) =>
    cond (decide (t2.1.2.1 < (NatCast.natCast (List.length t2.1.2.2.1) : Int)))
      (Option.bind (F25 k0 (t2.1.2.2.1, (t2.1.2.1, ())))
      (fun (ys4 : ((List Int) × (Int × (Bool × Unit)))) =>
        cond (!ys4.2.2.1)
          (some (t2.2.2.1, (t2.1.2.1, ())))
          (cond (decide ((((List.length t2.2.2.1) + (List.length (ys4.1 :: ([] : (List (List Int)))))) * (24 : Nat)) ≤ (140737488355328 : Nat)))
            (next3 (((), (ys4.2.1, (t2.1.2.2.1, ()))), ((), ((t2.2.2.1 ++ (ys4.1 :: ([] : (List (List Int))))), ()))))
            (none))))
      (some (t2.2.2.1, (t2.1.2.1, ())))) k0 (((), ((0 : Int), (xs1.1, ()))), ((), (([] : (List (List Int))), ())))
/-- moraine/morainehelp.Lists -/
def F13 : Nat → ((List (List (Int))) × ((List (List (Int))) × Unit)) → Option ((Bool) × Unit) := fun (k0 : Nat) =>
  fun (xs1 : ((List (List Int)) × ((List (List Int)) × Unit))) =>
  cond (bne (NatCast.natCast (List.length xs1.1) : Int) (NatCast.natCast (List.length xs1.2.1) : Int))
    (some (false, ()))
    (iter (R := (Bool × Unit)) (τ := ((Int × ((List (List Int)) × ((List (List Int)) × Unit))) × (Unit × Unit))) (
      fun (t2 : ((Int × ((List (List Int)) × ((List (List Int)) × Unit))) × (Unit × Unit))) =>
      fun (next3 : (((Int × ((List (List Int)) × ((List (List Int)) × Unit))) × (Unit × Unit)) → (Option (Bool × Unit)))) =>
      cond (decide (t2.1.1 < (NatCast.natCast (List.length t2.1.2.1) : Int)))
        (cond (decide ((0 : Int) ≤ t2.1.1))
          (cond (decide (t2.1.1 < (NatCast.natCast (List.length t2.1.2.1) : Int)))
            (cond (decide ((0 : Int) ≤ t2.1.1))
              (cond (decide (t2.1.1 < (NatCast.natCast (List.length t2.1.2.2.1) : Int)))
                (cond (!((List.getD t2.1.2.1 (Int.toNat t2.1.1) ([] : (List Int))) == (List.getD t2.1.2.2.1 (Int.toNat t2.1.1) ([] : (List Int)))))
                  (some (false, ()))
                  (next3 (((Go.IntKind.wrap Go.IntKind.i64 (t2.1.1 + (1 : Int))), (t2.1.2.1, (t2.1.2.2.1, ()))), ((), ()))))
                (none))
              (none))
            (none))
          (none))
        (some (true, ()))) k0 (((0 : Int), (xs1.1, (xs1.2.1, ()))), ((), ())))
/-- moraine/morainehelp.Bytes -/
def F14 : Nat → ((List (Int)) × ((List (Int)) × Unit)) → Option ((Bool) × Unit) := fun (k0 : Nat) =>
  fun (xs1 : ((List Int) × ((List Int) × Unit))) =>
  some ((xs1.1 == xs1.2.1), ())
/-- moraine/morainelaw5.WalReads -/
def F3 : Nat → ((List (Int)) × Unit) → Option ((Bool) × Unit) := fun (k0 : Nat) =>
  fun (xs1 : ((List Int) × Unit)) =>
  Option.bind (F10 1000 ())
  (fun (ys2 : (Bool × Unit)) =>
    cond (!ys2.1)
      (some (false, ()))
      (cond (decide ((5000 : Int) < (NatCast.natCast (List.length xs1.1) : Int)))
        (some (true, ()))
        (cond (decide (((List.length xs1.1) * (1 : Nat)) ≤ (140737488355328 : Nat)))
          (Option.bind (F11 k0 (xs1.1, ()))
          (fun (ys3 : ((List (List Int)) × (Int × Unit))) =>
            Option.bind (F12 k0 (xs1.1, ()))
            (fun (ys4 : ((List (List Int)) × (Int × Unit))) =>
              cond (bne ys3.2.1 ys4.2.1)
                (some (false, ()))
                (Option.bind (F13 k0 (ys3.1, (ys4.1, ())))
                (fun (ys5 : (Bool × Unit)) =>
                  cond (!ys5.1)
                    (some (false, ()))
                    (Option.bind (F14 k0 (xs1.1, (xs1.1, ())))
                    (fun (ys6 : (Bool × Unit)) =>
                      cond (!ys6.1)
                        (some (false, ()))
                        (iter (R := (Bool × Unit)) (τ := ((Int × (Unit × Unit)) × ((Unit × ((List (List Int)) × ((List (List Int)) × (Unit × Unit)))) × ((List Int) × Unit)))) (
                          fun (t7 : ((Int × (Unit × Unit)) × ((Unit × ((List (List Int)) × ((List (List Int)) × (Unit × Unit)))) × ((List Int) × Unit)))) =>
                          fun (next8 : (((Int × (Unit × Unit)) × ((Unit × ((List (List Int)) × ((List (List Int)) × (Unit × Unit)))) × ((List Int) × Unit))) → (Option (Bool × Unit)))) =>
                          cond (decide (t7.1.1 < (NatCast.natCast (List.length t7.2.2.1) : Int)))
                            (cond (decide ((0 : Int) ≤ t7.1.1))
                              (cond (decide (t7.1.1 < (NatCast.natCast (List.length t7.2.2.1) : Int)))
                                (next8 (((Go.IntKind.wrap Go.IntKind.i64 (t7.1.1 + (1 : Int))), ((), ())), (((), (t7.2.1.2.1, (t7.2.1.2.2.1, ((), ())))), ((List.set t7.2.2.1 (Int.toNat t7.1.1) (238 : Int)), ()))))
                                (none))
                              (none))
                            (Option.bind (F13 k0 (t7.2.1.2.1, (t7.2.1.2.2.1, ())))
                            (fun (ys9 : (Bool × Unit)) =>
                              some (ys9.1, ())))) k0 (((0 : Int), ((), ())), (((), (ys3.1, (ys4.1, ((), ())))), (xs1.1, ())))))))))))
          (none))))
/-- moraine/morainelaw5.few -/
def F16 : Nat → ((List (List (Int))) × Unit) → Option ((Bool) × Unit) := fun (k0 : Nat) =>
  fun (xs1 : ((List (List Int)) × Unit)) =>
  iter (R := (Bool × Unit)) (τ := ((Int × (Int × ((List (List Int)) × Unit))) × (Unit × Unit))) (
    fun (t2 : ((Int × (Int × ((List (List Int)) × Unit))) × (Unit × Unit))) =>
    fun (next3 : (((Int × (Int × ((List (List Int)) × Unit))) × (Unit × Unit)) → (Option (Bool × Unit)))) =>
    cond (decide (t2.1.2.1 < (NatCast.natCast (List.length t2.1.2.2.1) : Int)))
      (cond (decide (t2.1.1 ≤ (3000 : Int)))
        (cond (decide ((0 : Int) ≤ t2.1.2.1))
          (cond (decide (t2.1.2.1 < (NatCast.natCast (List.length t2.1.2.2.1) : Int)))
            (next3 (((Go.IntKind.wrap Go.IntKind.i64 (t2.1.1 + (NatCast.natCast (List.length (List.getD t2.1.2.2.1 (Int.toNat t2.1.2.1) ([] : (List Int)))) : Int))), ((Go.IntKind.wrap Go.IntKind.i64 (t2.1.2.1 + (1 : Int))), (t2.1.2.2.1, ()))), ((), ())))
            (none))
          (none))
        (cond (decide ((NatCast.natCast (List.length t2.1.2.2.1) : Int) ≤ (30 : Int)))
          (some ((decide (t2.1.1 ≤ (3000 : Int))), ()))
          (some (false, ()))))
      (cond (decide ((NatCast.natCast (List.length t2.1.2.2.1) : Int) ≤ (30 : Int)))
        (some ((decide (t2.1.1 ≤ (3000 : Int))), ()))
        (some (false, ())))) k0 (((0 : Int), ((0 : Int), (xs1.1, ()))), ((), ()))
/-- moraine/morainelaw5.log -/
def F17 : Nat → ((List (List (Int))) × Unit) → Option ((List (Int)) × ((List (Int)) × ((Bool) × Unit))) := fun (k0 : Nat) =>
  fun (xs1 : ((List (List Int)) × Unit)) =>
  iter (R := ((List Int) × ((List Int) × (Bool × Unit)))) (τ := ((Unit × (Unit × (Int × ((List (List Int)) × Unit)))) × (Unit × ((List Int) × ((List Int) × Unit))))) (
    fun (t2 : ((Unit × (Unit × (Int × ((List (List Int)) × Unit)))) × (Unit × ((List Int) × ((List Int) × Unit))))) =>
    fun (next3 : (((Unit × (Unit × (Int × ((List (List Int)) × Unit)))) × (Unit × ((List Int) × ((List Int) × Unit)))) → (Option ((List Int) × ((List Int) × (Bool × Unit)))))) =>
    cond (decide (t2.1.2.2.1 < (NatCast.natCast (List.length t2.1.2.2.2.1) : Int)))
      (cond (decide ((0 : Int) ≤ t2.1.2.2.1))
        (cond (decide (t2.1.2.2.1 < (NatCast.natCast (List.length t2.1.2.2.2.1) : Int)))
          (Option.bind (F19 k0 ((NatCast.natCast (List.length t2.2.2.2.1) : Int), ((List.getD t2.1.2.2.2.1 (Int.toNat t2.1.2.2.1) ([] : (List Int))), ())))
          (fun (ys4 : ((List Int) × (Int × Unit))) =>
            cond (bne ys4.2.1 (0 : Int))
              (some (([] : (List Int)), (([] : (List Int)), (false, ()))))
              (cond (decide ((((List.length t2.2.2.2.1) + (List.length ys4.1)) * (1 : Nat)) ≤ (140737488355328 : Nat)))
                (cond (decide ((((List.length t2.2.2.1) + (List.length ((NatCast.natCast (List.length (t2.2.2.2.1 ++ ys4.1)) : Int) :: ([] : (List Int))))) * (8 : Nat)) ≤ (140737488355328 : Nat)))
                  (next3 (((), ((), ((Go.IntKind.wrap Go.IntKind.i64 (t2.1.2.2.1 + (1 : Int))), (t2.1.2.2.2.1, ())))), ((), ((t2.2.2.1 ++ ((NatCast.natCast (List.length (t2.2.2.2.1 ++ ys4.1)) : Int) :: ([] : (List Int)))), ((t2.2.2.2.1 ++ ys4.1), ())))))
                  (none))
                (none))))
          (none))
        (none))
      (some (t2.2.2.2.1, (t2.2.2.1, (true, ()))))) k0 (((), ((), ((0 : Int), (xs1.1, ())))), ((), (([] : (List Int)), (([] : (List Int)), ()))))
/-- moraine/morainelaw5.WalWhole -/
def F4 : Nat → ((List (List (Int))) × ((Int) × Unit)) → Option ((Bool) × Unit) := fun (k0 : Nat) =>
  fun (xs1 : ((List (List Int)) × (Int × Unit))) =>
  Option.bind (F10 1000 ())
  (fun (ys2 : (Bool × Unit)) =>
    cond (!ys2.1)
      (some (false, ()))
      (Option.bind (F16 k0 (xs1.1, ()))
      (fun (ys3 : (Bool × Unit)) =>
        cond (!ys3.1)
          (some (true, ()))
          (Option.bind (F17 k0 (xs1.1, ()))
          (fun (ys4 : ((List Int) × ((List Int) × (Bool × Unit)))) =>
            cond (!ys4.2.2.1)
              (some (false, ()))
              (Option.bind (F11 k0 (ys4.1, ()))
              (fun (ys5 : ((List (List Int)) × (Int × Unit))) =>
                cond (bne ys5.2.1 (NatCast.natCast (List.length ys4.1) : Int))
                  (some (false, ()))
                  (Option.bind (F13 k0 (ys5.1, (xs1.1, ())))
                  (fun (ys6 : (Bool × Unit)) =>
                    cond (!ys6.1)
                      (some (false, ()))
                      (cond (decide (xs1.2.1 < (0 : Int)))
                        (some (true, ()))
                        (cond (decide ((NatCast.natCast (List.length ys4.1) : Int) < xs1.2.1))
                          (some (true, ()))
                          (iter (R := (Bool × Unit)) (τ := ((Int × (Int × ((List (List Int)) × (Int × (Unit × ((List Int) × Unit)))))) × (Unit × ((List Int) × Unit)))) (
                            fun (t7 : ((Int × (Int × ((List (List Int)) × (Int × (Unit × ((List Int) × Unit)))))) × (Unit × ((List Int) × Unit)))) =>
                            fun (next8 : (((Int × (Int × ((List (List Int)) × (Int × (Unit × ((List Int) × Unit)))))) × (Unit × ((List Int) × Unit))) → (Option (Bool × Unit)))) =>
                            cond (decide (t7.1.1 < (NatCast.natCast (List.length t7.1.2.2.2.2.2.1) : Int)))
                              (cond (decide ((0 : Int) ≤ t7.1.1))
                                (cond (decide (t7.1.1 < (NatCast.natCast (List.length t7.1.2.2.2.2.2.1) : Int)))
                                  (cond (decide ((List.getD t7.1.2.2.2.2.2.1 (Int.toNat t7.1.1) (0 : Int)) ≤ t7.1.2.2.2.1))
                                    (cond (decide ((0 : Int) ≤ t7.1.1))
                                      (cond (decide (t7.1.1 < (NatCast.natCast (List.length t7.1.2.2.2.2.2.1) : Int)))
                                        (next8 (((Go.IntKind.wrap Go.IntKind.i64 (t7.1.1 + (1 : Int))), ((List.getD t7.1.2.2.2.2.2.1 (Int.toNat t7.1.1) (0 : Int)), (t7.1.2.2.1, (t7.1.2.2.2.1, ((), (t7.1.2.2.2.2.2.1, ())))))), ((), (t7.2.2.1, ()))))
                                        (none))
                                      (none))
                                    (cond (decide ((0 : Int) ≤ t7.1.2.2.2.1))
                                      (cond (decide (t7.1.2.2.2.1 ≤ (NatCast.natCast (List.length t7.2.2.1) : Int)))
                                        (cond (decide (((List.length (List.take (Int.toNat t7.1.2.2.2.1) t7.2.2.1)) * (1 : Nat)) ≤ (140737488355328 : Nat)))
                                          (Option.bind (F11 k0 ((List.take (Int.toNat t7.1.2.2.2.1) t7.2.2.1), ()))
                                          (fun (ys9 : ((List (List Int)) × (Int × Unit))) =>
                                            cond (ys9.2.1 == t7.1.2.1)
                                              (cond (decide ((0 : Int) ≤ t7.1.1))
                                                (cond (decide (t7.1.1 ≤ (NatCast.natCast (List.length t7.1.2.2.1) : Int)))
                                                  (Option.bind (F13 k0 (ys9.1, ((List.take (Int.toNat t7.1.1) t7.1.2.2.1), ())))
                                                  (fun (ys10 : (Bool × Unit)) =>
                                                    some (ys10.1, ())))
                                                  (none))
                                                (none))
                                              (some (false, ()))))
                                          (none))
                                        (none))
                                      (none)))
                                  (none))
                                (none))
                              (cond (decide ((0 : Int) ≤ t7.1.2.2.2.1))
                                (cond (decide (t7.1.2.2.2.1 ≤ (NatCast.natCast (List.length t7.2.2.1) : Int)))
                                  (cond (decide (((List.length (List.take (Int.toNat t7.1.2.2.2.1) t7.2.2.1)) * (1 : Nat)) ≤ (140737488355328 : Nat)))
                                    (Option.bind (F11 k0 ((List.take (Int.toNat t7.1.2.2.2.1) t7.2.2.1), ()))
                                    (fun (ys9 : ((List (List Int)) × (Int × Unit))) =>
                                      cond (ys9.2.1 == t7.1.2.1)
                                        (cond (decide ((0 : Int) ≤ t7.1.1))
                                          (cond (decide (t7.1.1 ≤ (NatCast.natCast (List.length t7.1.2.2.1) : Int)))
                                            (Option.bind (F13 k0 (ys9.1, ((List.take (Int.toNat t7.1.1) t7.1.2.2.1), ())))
                                            (fun (ys10 : (Bool × Unit)) =>
                                              some (ys10.1, ())))
                                            (none))
                                          (none))
                                        (some (false, ()))))
                                    (none))
                                  (none))
                                (none))) k0 (((0 : Int), ((0 : Int), (xs1.1, (xs1.2.1, ((), (ys4.2.1, ())))))), ((), (ys4.1, ())))))))))))))))
/-- moraine/morainelaw5.lengths -/
def F18 : Nat → ((List (Int)) × Unit) → Option ((List (Bool)) × Unit) := fun (k0 : Nat) =>
  fun (xs1 : ((List Int) × Unit)) =>
  cond (decide ((NatCast.natCast (List.length xs1.1) : Int) = (NatCast.natCast (List.length xs1.1) : Int)))
    (cond (decide (((Int.toNat (NatCast.natCast (List.length xs1.1) : Int)) * (1 : Nat)) ≤ (140737488355328 : Nat)))
      (iter (R := ((List Bool) × Unit)) (τ := ((Int × ((List Int) × (Unit × Unit))) × (Unit × ((List Bool) × Unit)))) (
        fun (t2 : ((Int × ((List Int) × (Unit × Unit))) × (Unit × ((List Bool) × Unit)))) =>
        fun (next3 : (((Int × ((List Int) × (Unit × Unit))) × (Unit × ((List Bool) × Unit))) → (Option ((List Bool) × Unit)))) =>
        cond (decide ((Go.IntKind.wrap Go.IntKind.i64 (t2.1.1 + (7 : Int))) ≤ (NatCast.natCast (List.length t2.1.2.1) : Int)))
          (cond (decide ((Go.IntKind.wrap Go.IntKind.i64 ((64 : Int) - (Int.tmod t2.1.1 (64 : Int)))) < (7 : Int)))
            (next3 (((Go.IntKind.wrap Go.IntKind.i64 (t2.1.1 + (Go.IntKind.wrap Go.IntKind.i64 ((64 : Int) - (Int.tmod t2.1.1 (64 : Int)))))), (t2.1.2.1, ((), ()))), ((), (t2.2.2.1, ()))))
            (cond (decide ((0 : Int) ≤ (Go.IntKind.wrap Go.IntKind.i64 (t2.1.1 + (4 : Int)))))
              (cond (decide ((Go.IntKind.wrap Go.IntKind.i64 (t2.1.1 + (4 : Int))) < (NatCast.natCast (List.length t2.2.2.1) : Int)))
                (cond (decide ((0 : Int) ≤ (Go.IntKind.wrap Go.IntKind.i64 (t2.1.1 + (5 : Int)))))
                  (cond (decide ((Go.IntKind.wrap Go.IntKind.i64 (t2.1.1 + (5 : Int))) < (NatCast.natCast (List.length (List.set t2.2.2.1 (Int.toNat (Go.IntKind.wrap Go.IntKind.i64 (t2.1.1 + (4 : Int)))) true)) : Int)))
                    (cond (decide ((0 : Int) ≤ (Go.IntKind.wrap Go.IntKind.i64 (t2.1.1 + (4 : Int)))))
                      (cond (decide ((Go.IntKind.wrap Go.IntKind.i64 (t2.1.1 + (4 : Int))) < (NatCast.natCast (List.length t2.1.2.1) : Int)))
                        (cond (decide ((0 : Int) ≤ (Go.IntKind.wrap Go.IntKind.i64 (t2.1.1 + (5 : Int)))))
                          (cond (decide ((Go.IntKind.wrap Go.IntKind.i64 (t2.1.1 + (5 : Int))) < (NatCast.natCast (List.length t2.1.2.1) : Int)))
                            (next3 (((Go.IntKind.wrap Go.IntKind.i64 ((Go.IntKind.wrap Go.IntKind.i64 ((Go.IntKind.wrap Go.IntKind.i64 (t2.1.1 + (7 : Int))) + (Go.IntKind.wrap Go.IntKind.i64 (List.getD t2.1.2.1 (Int.toNat (Go.IntKind.wrap Go.IntKind.i64 (t2.1.1 + (4 : Int)))) (0 : Int))))) + (Go.IntKind.wrap Go.IntKind.i64 ((256 : Int) * (Go.IntKind.wrap Go.IntKind.i64 (List.getD t2.1.2.1 (Int.toNat (Go.IntKind.wrap Go.IntKind.i64 (t2.1.1 + (5 : Int)))) (0 : Int))))))), (t2.1.2.1, ((), ()))), ((), ((List.set (List.set t2.2.2.1 (Int.toNat (Go.IntKind.wrap Go.IntKind.i64 (t2.1.1 + (4 : Int)))) true) (Int.toNat (Go.IntKind.wrap Go.IntKind.i64 (t2.1.1 + (5 : Int)))) true), ()))))
                            (none))
                          (none))
                        (none))
                      (none))
                    (none))
                  (none))
                (none))
              (none)))
          (some (t2.2.2.1, ()))) k0 (((0 : Int), (xs1.1, ((), ()))), ((), ((List.replicate (Int.toNat (NatCast.natCast (List.length xs1.1) : Int)) false), ()))))
      (none))
    (none)
/-- moraine/morainelaw5.WalHurt -/
def F5 : Nat → ((List (List (Int))) × ((Int) × ((Int) × Unit))) → Option ((Bool) × Unit) := fun (k0 : Nat) =>
  fun (xs1 : ((List (List Int)) × (Int × (Int × Unit)))) =>
  Option.bind (F10 1000 ())
  (fun (ys2 : (Bool × Unit)) =>
    cond (!ys2.1)
      (some (false, ()))
      (Option.bind (F16 k0 (xs1.1, ()))
      (fun (ys3 : (Bool × Unit)) =>
        cond (!ys3.1)
          (some (true, ()))
          (cond (xs1.2.2.1 == (0 : Int))
            (some (true, ()))
            (Option.bind (F17 k0 (xs1.1, ()))
            (fun (ys4 : ((List Int) × ((List Int) × (Bool × Unit)))) =>
              cond (!ys4.2.2.1)
                (some (ys4.2.2.1, ()))
                (cond (decide (xs1.2.1 < (0 : Int)))
                  (some (ys4.2.2.1, ()))
                  (cond (decide ((NatCast.natCast (List.length ys4.1) : Int) ≤ xs1.2.1))
                    (some (ys4.2.2.1, ()))
                    (Option.bind (F18 k0 (ys4.1, ()))
                    (fun (ys5 : ((List Bool) × Unit)) =>
                      cond (decide ((0 : Int) ≤ xs1.2.1))
                        (cond (decide (xs1.2.1 < (NatCast.natCast (List.length ys5.1) : Int)))
                          (cond (List.getD ys5.1 (Int.toNat xs1.2.1) false)
                            (some (ys4.2.2.1, ()))
                            (cond (decide ((0 : Int) ≤ xs1.2.1))
                              (cond (decide (xs1.2.1 < (NatCast.natCast (List.length ys4.1) : Int)))
                                (cond (decide ((0 : Int) ≤ xs1.2.1))
                                  (cond (decide (xs1.2.1 < (NatCast.natCast (List.length ys4.1) : Int)))
                                    (iter (R := (Bool × Unit)) (τ := ((Int × (Int × ((List (List Int)) × (Int × (Unit × ((List Int) × Unit)))))) × (Unit × ((List Int) × Unit)))) (
                                      fun (t6 : ((Int × (Int × ((List (List Int)) × (Int × (Unit × ((List Int) × Unit)))))) × (Unit × ((List Int) × Unit)))) =>
                                      fun (next7 : (((Int × (Int × ((List (List Int)) × (Int × (Unit × ((List Int) × Unit)))))) × (Unit × ((List Int) × Unit))) → (Option (Bool × Unit)))) =>
                                      cond (decide (t6.1.1 < (NatCast.natCast (List.length t6.1.2.2.2.2.2.1) : Int)))
                                        (cond (decide ((0 : Int) ≤ t6.1.1))
                                          (cond (decide (t6.1.1 < (NatCast.natCast (List.length t6.1.2.2.2.2.2.1) : Int)))
                                            (cond (decide ((List.getD t6.1.2.2.2.2.2.1 (Int.toNat t6.1.1) (0 : Int)) ≤ t6.1.2.2.2.1))
                                              (cond (decide ((0 : Int) ≤ t6.1.1))
                                                (cond (decide (t6.1.1 < (NatCast.natCast (List.length t6.1.2.2.2.2.2.1) : Int)))
                                                  (next7 (((Go.IntKind.wrap Go.IntKind.i64 (t6.1.1 + (1 : Int))), ((List.getD t6.1.2.2.2.2.2.1 (Int.toNat t6.1.1) (0 : Int)), (t6.1.2.2.1, (t6.1.2.2.2.1, ((), (t6.1.2.2.2.2.2.1, ())))))), ((), (t6.2.2.1, ()))))
                                                  (none))
                                                (none))
                                              (Option.bind (F11 k0 (t6.2.2.1, ()))
                                              (fun (ys8 : ((List (List Int)) × (Int × Unit))) =>
                                                cond (ys8.2.1 == t6.1.2.1)
                                                  (cond (decide ((0 : Int) ≤ t6.1.1))
                                                    (cond (decide (t6.1.1 ≤ (NatCast.natCast (List.length t6.1.2.2.1) : Int)))
                                                      (Option.bind (F13 k0 (ys8.1, ((List.take (Int.toNat t6.1.1) t6.1.2.2.1), ())))
                                                      (fun (ys9 : (Bool × Unit)) =>
                                                        some (ys9.1, ())))
                                                      (none))
                                                    (none))
                                                  (some (false, ())))))
                                            (none))
                                          (none))
                                        (Option.bind (F11 k0 (t6.2.2.1, ()))
                                        (fun (ys8 : ((List (List Int)) × (Int × Unit))) =>
                                          cond (ys8.2.1 == t6.1.2.1)
                                            (cond (decide ((0 : Int) ≤ t6.1.1))
                                              (cond (decide (t6.1.1 ≤ (NatCast.natCast (List.length t6.1.2.2.1) : Int)))
                                                (Option.bind (F13 k0 (ys8.1, ((List.take (Int.toNat t6.1.1) t6.1.2.2.1), ())))
                                                (fun (ys9 : (Bool × Unit)) =>
                                                  some (ys9.1, ())))
                                                (none))
                                              (none))
                                            (some (false, ()))))) k0 (((0 : Int), ((0 : Int), (xs1.1, (xs1.2.1, ((), (ys4.2.1, ())))))), ((), ((List.set ys4.1 (Int.toNat xs1.2.1) (Go.bits Go.BinOp.xor Go.IntKind.u8 (List.getD ys4.1 (Int.toNat xs1.2.1) (0 : Int)) xs1.2.2.1)), ()))))
                                    (none))
                                  (none))
                                (none))
                              (none)))
                          (none))
                        (none)))))))))))
/-- moraine/morainehelp.CopyLists -/
def F20 : Nat → ((List (List (Int))) × Unit) → Option ((List (List (Int))) × Unit) := fun (k0 : Nat) =>
  fun (xs1 : ((List (List Int)) × Unit)) =>
  iter (R := ((List (List Int)) × Unit)) (τ := ((Unit × (Int × ((List (List Int)) × Unit))) × (Unit × ((List (List Int)) × Unit)))) (
    fun (t2 : ((Unit × (Int × ((List (List Int)) × Unit))) × (Unit × ((List (List Int)) × Unit)))) =>
    fun (next3 : (((Unit × (Int × ((List (List Int)) × Unit))) × (Unit × ((List (List Int)) × Unit))) → (Option ((List (List Int)) × Unit)))) =>
    cond (decide (t2.1.2.1 < (NatCast.natCast (List.length t2.1.2.2.1) : Int)))
      (cond (decide ((0 : Int) ≤ t2.1.2.1))
        (cond (decide (t2.1.2.1 < (NatCast.natCast (List.length t2.1.2.2.1) : Int)))
          (cond (decide (((List.length (List.getD t2.1.2.2.1 (Int.toNat t2.1.2.1) ([] : (List Int)))) * (1 : Nat)) ≤ (140737488355328 : Nat)))
            (cond (decide ((((List.length t2.2.2.1) + (List.length ((List.getD t2.1.2.2.1 (Int.toNat t2.1.2.1) ([] : (List Int))) :: ([] : (List (List Int)))))) * (24 : Nat)) ≤ (140737488355328 : Nat)))
              (next3 (((), ((Go.IntKind.wrap Go.IntKind.i64 (t2.1.2.1 + (1 : Int))), (t2.1.2.2.1, ()))), ((), ((t2.2.2.1 ++ ((List.getD t2.1.2.2.1 (Int.toNat t2.1.2.1) ([] : (List Int))) :: ([] : (List (List Int))))), ()))))
              (none))
            (none))
          (none))
        (none))
      (some (t2.2.2.1, ()))) k0 (((), ((0 : Int), (xs1.1, ()))), ((), (([] : (List (List Int))), ())))
/-- moraine/morainelaw5.WalGoesOn -/
def F6 : Nat → ((List (List (Int))) × ((Int) × ((List (List (Int))) × Unit))) → Option ((Bool) × Unit) := fun (k0 : Nat) =>
  fun (xs1 : ((List (List Int)) × (Int × ((List (List Int)) × Unit)))) =>
  Option.bind (F10 1000 ())
  (fun (ys2 : (Bool × Unit)) =>
    cond (!ys2.1)
      (some (false, ()))
      (Option.bind (F16 k0 (xs1.1, ()))
      (fun (ys3 : (Bool × Unit)) =>
        cond (!ys3.1)
          (some (true, ()))
          (Option.bind (F16 k0 (xs1.2.2.1, ()))
          (fun (ys4 : (Bool × Unit)) =>
            cond (!ys4.1)
              (some (true, ()))
              (Option.bind (F17 k0 (xs1.1, ()))
              (fun (ys5 : ((List Int) × ((List Int) × (Bool × Unit)))) =>
                cond (!ys5.2.2.1)
                  (some (ys5.2.2.1, ()))
                  (cond (decide (xs1.2.1 < (0 : Int)))
                    (some (ys5.2.2.1, ()))
                    (cond (decide ((NatCast.natCast (List.length ys5.1) : Int) < xs1.2.1))
                      (some (ys5.2.2.1, ()))
                      (cond (decide ((0 : Int) ≤ xs1.2.1))
                        (cond (decide (xs1.2.1 ≤ (NatCast.natCast (List.length ys5.1) : Int)))
                          (cond (decide (((List.length (List.take (Int.toNat xs1.2.1) ys5.1)) * (1 : Nat)) ≤ (140737488355328 : Nat)))
                            (Option.bind (F11 k0 ((List.take (Int.toNat xs1.2.1) ys5.1), ()))
                            (fun (ys6 : ((List (List Int)) × (Int × Unit))) =>
                              cond (decide ((0 : Int) ≤ ys6.2.1))
                                (cond (decide (ys6.2.1 ≤ (NatCast.natCast (List.length ys5.1) : Int)))
                                  (cond (decide (((List.length (List.take (Int.toNat ys6.2.1) ys5.1)) * (1 : Nat)) ≤ (140737488355328 : Nat)))
                                    (iter (R := (Bool × Unit)) (τ := ((Unit × (Int × ((List (List Int)) × ((List (List Int)) × Unit)))) × (Unit × ((List Int) × Unit)))) (
                                      fun (t7 : ((Unit × (Int × ((List (List Int)) × ((List (List Int)) × Unit)))) × (Unit × ((List Int) × Unit)))) =>
                                      fun (next8 : (((Unit × (Int × ((List (List Int)) × ((List (List Int)) × Unit)))) × (Unit × ((List Int) × Unit))) → (Option (Bool × Unit)))) =>
                                      cond (decide (t7.1.2.1 < (NatCast.natCast (List.length t7.1.2.2.1) : Int)))
                                        (cond (decide ((0 : Int) ≤ t7.1.2.1))
                                          (cond (decide (t7.1.2.1 < (NatCast.natCast (List.length t7.1.2.2.1) : Int)))
                                            (Option.bind (F19 k0 ((NatCast.natCast (List.length t7.2.2.1) : Int), ((List.getD t7.1.2.2.1 (Int.toNat t7.1.2.1) ([] : (List Int))), ())))
                                            (fun (ys9 : ((List Int) × (Int × Unit))) =>
                                              cond (bne ys9.2.1 (0 : Int))
                                                (some (false, ()))
                                                (cond (decide ((((List.length t7.2.2.1) + (List.length ys9.1)) * (1 : Nat)) ≤ (140737488355328 : Nat)))
                                                  (next8 (((), ((Go.IntKind.wrap Go.IntKind.i64 (t7.1.2.1 + (1 : Int))), (t7.1.2.2.1, (t7.1.2.2.2.1, ())))), ((), ((t7.2.2.1 ++ ys9.1), ()))))
                                                  (none))))
                                            (none))
                                          (none))
                                        (Option.bind (F11 k0 (t7.2.2.1, ()))
                                        (fun (ys9 : ((List (List Int)) × (Int × Unit))) =>
                                          cond (ys9.2.1 == (NatCast.natCast (List.length t7.2.2.1) : Int))
                                            (Option.bind (F20 k0 (t7.1.2.2.2.1, ()))
                                            (fun (ys10 : ((List (List Int)) × Unit)) =>
                                              cond (decide ((((List.length ys10.1) + (List.length t7.1.2.2.1)) * (24 : Nat)) ≤ (140737488355328 : Nat)))
                                                (Option.bind (F13 k0 (ys9.1, ((ys10.1 ++ t7.1.2.2.1), ())))
                                                (fun (ys11 : (Bool × Unit)) =>
                                                  some (ys11.1, ())))
                                                (none)))
                                            (some (false, ()))))) k0 (((), ((0 : Int), (xs1.2.2.1, (ys6.1, ())))), ((), ((List.take (Int.toNat ys6.2.1) ys5.1), ()))))
                                    (none))
                                  (none))
                                (none)))
                            (none))
                          (none))
                        (none)))))))))))
/-- moraine/moraineref2.Fixed -/
def F40 : Nat → ((Int) × ((Int) × Unit)) → Option ((List (Int)) × Unit) := fun (k0 : Nat) =>
  fun (xs1 : (Int × (Int × Unit))) =>
  iter (R := ((List Int) × Unit)) (τ := ((Unit × (Int × (Int × (Int × Unit)))) × (Unit × ((List Int) × Unit)))) (
    fun (t2 : ((Unit × (Int × (Int × (Int × Unit)))) × (Unit × ((List Int) × Unit)))) =>
    fun (next3 : (((Unit × (Int × (Int × (Int × Unit)))) × (Unit × ((List Int) × Unit))) → (Option ((List Int) × Unit)))) =>
    cond (decide (t2.1.2.1 < t2.1.2.2.2.1))
      (cond (decide ((0 : Int) ≤ (Go.IntKind.wrap Go.IntKind.i64 ((8 : Int) * t2.1.2.1))))
        (cond (decide ((((List.length t2.2.2.1) + (List.length ((Go.IntKind.wrap Go.IntKind.u8 (ishr Go.IntKind.u64 t2.1.2.2.1 (Go.IntKind.wrap Go.IntKind.i64 ((8 : Int) * t2.1.2.1)))) :: ([] : (List Int))))) * (1 : Nat)) ≤ (140737488355328 : Nat)))
          (next3 (((), ((Go.IntKind.wrap Go.IntKind.i64 (t2.1.2.1 + (1 : Int))), (t2.1.2.2.1, (t2.1.2.2.2.1, ())))), ((), ((t2.2.2.1 ++ ((Go.IntKind.wrap Go.IntKind.u8 (ishr Go.IntKind.u64 t2.1.2.2.1 (Go.IntKind.wrap Go.IntKind.i64 ((8 : Int) * t2.1.2.1)))) :: ([] : (List Int)))), ()))))
          (none))
        (none))
      (some (t2.2.2.1, ()))) k0 (((), ((0 : Int), (xs1.1, (xs1.2.1, ())))), ((), (([] : (List Int)), ())))
/-- moraine/moraineref2.Summed -/
def F36 : Nat → ((List (Int)) × Unit) → Option ((List (Int)) × Unit) := fun (k0 : Nat) =>
  fun (xs1 : ((List Int) × Unit)) =>
  Option.bind (F33 k0 (xs1.1, ()))
  (fun (ys2 : (Int × Unit)) =>
    Option.bind (F40 k0 ((Go.IntKind.wrap Go.IntKind.u64 ys2.1), ((4 : Int), ())))
    (fun (ys3 : ((List Int) × Unit)) =>
      some (ys3.1, ())))
/-- moraine/moraineref5.fragment -/
def F29 : Nat → ((Int) × ((List (Int)) × Unit)) → Option ((List (Int)) × Unit) := fun (k0 : Nat) =>
  fun (xs1 : (Int × ((List Int) × Unit))) =>
  cond (decide ((((List.length ((Go.IntKind.wrap Go.IntKind.u8 xs1.1) :: ([] : (List Int)))) + (List.length xs1.2.1)) * (1 : Nat)) ≤ (140737488355328 : Nat)))
    (Option.bind (F36 k0 ((((Go.IntKind.wrap Go.IntKind.u8 xs1.1) :: ([] : (List Int))) ++ xs1.2.1), ()))
    (fun (ys2 : ((List Int) × Unit)) =>
      cond (decide ((((List.length ys2.1) + (List.length ((Go.IntKind.wrap Go.IntKind.u8 (Int.tmod (NatCast.natCast (List.length xs1.2.1) : Int) (256 : Int))) :: ((Go.IntKind.wrap Go.IntKind.u8 (Go.IntKind.wrap Go.IntKind.i64 (Int.tdiv (NatCast.natCast (List.length xs1.2.1) : Int) (256 : Int)))) :: ((Go.IntKind.wrap Go.IntKind.u8 xs1.1) :: ([] : (List Int))))))) * (1 : Nat)) ≤ (140737488355328 : Nat)))
        (cond (decide ((((List.length (ys2.1 ++ ((Go.IntKind.wrap Go.IntKind.u8 (Int.tmod (NatCast.natCast (List.length xs1.2.1) : Int) (256 : Int))) :: ((Go.IntKind.wrap Go.IntKind.u8 (Go.IntKind.wrap Go.IntKind.i64 (Int.tdiv (NatCast.natCast (List.length xs1.2.1) : Int) (256 : Int)))) :: ((Go.IntKind.wrap Go.IntKind.u8 xs1.1) :: ([] : (List Int))))))) + (List.length xs1.2.1)) * (1 : Nat)) ≤ (140737488355328 : Nat)))
          (some (((ys2.1 ++ ((Go.IntKind.wrap Go.IntKind.u8 (Int.tmod (NatCast.natCast (List.length xs1.2.1) : Int) (256 : Int))) :: ((Go.IntKind.wrap Go.IntKind.u8 (Go.IntKind.wrap Go.IntKind.i64 (Int.tdiv (NatCast.natCast (List.length xs1.2.1) : Int) (256 : Int)))) :: ((Go.IntKind.wrap Go.IntKind.u8 xs1.1) :: ([] : (List Int)))))) ++ xs1.2.1), ()))
          (none))
        (none)))
    (none)
/-- moraine/moraineref5.Append -/
def F21 : Nat → ((Int) × ((List (Int)) × Unit)) → Option ((List (Int)) × ((Int) × Unit)) := fun (k0 : Nat) =>
  fun (xs1 : (Int × ((List Int) × Unit))) =>
  cond (decide ((4194304 : Int) < (NatCast.natCast (List.length xs1.2.1) : Int)))
    (some (([] : (List Int)), ((50 : Int), ())))
    (iter (R := ((List Int) × (Int × Unit))) (τ := ((Int × ((List Int) × (Unit × (Bool × Unit)))) × (Unit × ((List Int) × Unit)))) (
      fun (t2 : ((Int × ((List Int) × (Unit × (Bool × Unit)))) × (Unit × ((List Int) × Unit)))) =>
      fun (next3 : (((Int × ((List Int) × (Unit × (Bool × Unit)))) × (Unit × ((List Int) × Unit))) → (Option ((List Int) × (Int × Unit))))) =>
      cond (decide ((Go.IntKind.wrap Go.IntKind.i64 ((64 : Int) - t2.1.1)) < (7 : Int)))
        (cond (decide ((0 : Int) ≤ (Go.IntKind.wrap Go.IntKind.i64 ((64 : Int) - t2.1.1))))
          (cond (decide ((((List.length t2.2.2.1) + (Int.toNat (Go.IntKind.wrap Go.IntKind.i64 ((64 : Int) - t2.1.1)))) * (1 : Nat)) ≤ (140737488355328 : Nat)))
            (next3 (((0 : Int), (t2.1.2.1, ((), (t2.1.2.2.2.1, ())))), ((), ((t2.2.2.1 ++ (List.replicate (Int.toNat (Go.IntKind.wrap Go.IntKind.i64 ((64 : Int) - t2.1.1))) (0 : Int))), ()))))
            (none))
          (none))
        (ajoin (τ := ((Int × (Int × ((List Int) × (Unit × (Int × (Bool × Unit)))))) × (Unit × ((List Int) × Unit)))) (R := ((List Int) × (Int × Unit))) (
          fun (k4 : (((Int × (Int × ((List Int) × (Unit × (Int × (Bool × Unit)))))) × (Unit × ((List Int) × Unit))) → (Option ((List Int) × (Int × Unit))))) =>
          cond (!t2.1.2.2.2.1)
            (cond ((Min.min (Go.IntKind.wrap Go.IntKind.i64 ((Go.IntKind.wrap Go.IntKind.i64 ((64 : Int) - t2.1.1)) - (7 : Int))) (NatCast.natCast (List.length t2.1.2.1) : Int)) == (NatCast.natCast (List.length t2.1.2.1) : Int))
              (k4 (((1 : Int), (t2.1.1, (t2.1.2.1, ((), ((Min.min (Go.IntKind.wrap Go.IntKind.i64 ((Go.IntKind.wrap Go.IntKind.i64 ((64 : Int) - t2.1.1)) - (7 : Int))) (NatCast.natCast (List.length t2.1.2.1) : Int)), (((Min.min (Go.IntKind.wrap Go.IntKind.i64 ((Go.IntKind.wrap Go.IntKind.i64 ((64 : Int) - t2.1.1)) - (7 : Int))) (NatCast.natCast (List.length t2.1.2.1) : Int)) == (NatCast.natCast (List.length t2.1.2.1) : Int)), ())))))), ((), (t2.2.2.1, ()))))
              (cond (!t2.1.2.2.2.1)
                (k4 (((2 : Int), (t2.1.1, (t2.1.2.1, ((), ((Min.min (Go.IntKind.wrap Go.IntKind.i64 ((Go.IntKind.wrap Go.IntKind.i64 ((64 : Int) - t2.1.1)) - (7 : Int))) (NatCast.natCast (List.length t2.1.2.1) : Int)), (((Min.min (Go.IntKind.wrap Go.IntKind.i64 ((Go.IntKind.wrap Go.IntKind.i64 ((64 : Int) - t2.1.1)) - (7 : Int))) (NatCast.natCast (List.length t2.1.2.1) : Int)) == (NatCast.natCast (List.length t2.1.2.1) : Int)), ())))))), ((), (t2.2.2.1, ()))))
                (cond ((Min.min (Go.IntKind.wrap Go.IntKind.i64 ((Go.IntKind.wrap Go.IntKind.i64 ((64 : Int) - t2.1.1)) - (7 : Int))) (NatCast.natCast (List.length t2.1.2.1) : Int)) == (NatCast.natCast (List.length t2.1.2.1) : Int))
                  (k4 (((4 : Int), (t2.1.1, (t2.1.2.1, ((), ((Min.min (Go.IntKind.wrap Go.IntKind.i64 ((Go.IntKind.wrap Go.IntKind.i64 ((64 : Int) - t2.1.1)) - (7 : Int))) (NatCast.natCast (List.length t2.1.2.1) : Int)), (((Min.min (Go.IntKind.wrap Go.IntKind.i64 ((Go.IntKind.wrap Go.IntKind.i64 ((64 : Int) - t2.1.1)) - (7 : Int))) (NatCast.natCast (List.length t2.1.2.1) : Int)) == (NatCast.natCast (List.length t2.1.2.1) : Int)), ())))))), ((), (t2.2.2.1, ()))))
                  (k4 (((3 : Int), (t2.1.1, (t2.1.2.1, ((), ((Min.min (Go.IntKind.wrap Go.IntKind.i64 ((Go.IntKind.wrap Go.IntKind.i64 ((64 : Int) - t2.1.1)) - (7 : Int))) (NatCast.natCast (List.length t2.1.2.1) : Int)), (((Min.min (Go.IntKind.wrap Go.IntKind.i64 ((Go.IntKind.wrap Go.IntKind.i64 ((64 : Int) - t2.1.1)) - (7 : Int))) (NatCast.natCast (List.length t2.1.2.1) : Int)) == (NatCast.natCast (List.length t2.1.2.1) : Int)), ())))))), ((), (t2.2.2.1, ())))))))
            (cond (!t2.1.2.2.2.1)
              (k4 (((2 : Int), (t2.1.1, (t2.1.2.1, ((), ((Min.min (Go.IntKind.wrap Go.IntKind.i64 ((Go.IntKind.wrap Go.IntKind.i64 ((64 : Int) - t2.1.1)) - (7 : Int))) (NatCast.natCast (List.length t2.1.2.1) : Int)), (((Min.min (Go.IntKind.wrap Go.IntKind.i64 ((Go.IntKind.wrap Go.IntKind.i64 ((64 : Int) - t2.1.1)) - (7 : Int))) (NatCast.natCast (List.length t2.1.2.1) : Int)) == (NatCast.natCast (List.length t2.1.2.1) : Int)), ())))))), ((), (t2.2.2.1, ()))))
              (cond ((Min.min (Go.IntKind.wrap Go.IntKind.i64 ((Go.IntKind.wrap Go.IntKind.i64 ((64 : Int) - t2.1.1)) - (7 : Int))) (NatCast.natCast (List.length t2.1.2.1) : Int)) == (NatCast.natCast (List.length t2.1.2.1) : Int))
                (k4 (((4 : Int), (t2.1.1, (t2.1.2.1, ((), ((Min.min (Go.IntKind.wrap Go.IntKind.i64 ((Go.IntKind.wrap Go.IntKind.i64 ((64 : Int) - t2.1.1)) - (7 : Int))) (NatCast.natCast (List.length t2.1.2.1) : Int)), (((Min.min (Go.IntKind.wrap Go.IntKind.i64 ((Go.IntKind.wrap Go.IntKind.i64 ((64 : Int) - t2.1.1)) - (7 : Int))) (NatCast.natCast (List.length t2.1.2.1) : Int)) == (NatCast.natCast (List.length t2.1.2.1) : Int)), ())))))), ((), (t2.2.2.1, ()))))
                (k4 (((3 : Int), (t2.1.1, (t2.1.2.1, ((), ((Min.min (Go.IntKind.wrap Go.IntKind.i64 ((Go.IntKind.wrap Go.IntKind.i64 ((64 : Int) - t2.1.1)) - (7 : Int))) (NatCast.natCast (List.length t2.1.2.1) : Int)), (((Min.min (Go.IntKind.wrap Go.IntKind.i64 ((Go.IntKind.wrap Go.IntKind.i64 ((64 : Int) - t2.1.1)) - (7 : Int))) (NatCast.natCast (List.length t2.1.2.1) : Int)) == (NatCast.natCast (List.length t2.1.2.1) : Int)), ())))))), ((), (t2.2.2.1, ())))))))
        (fun (t4 : ((Int × (Int × ((List Int) × (Unit × (Int × (Bool × Unit)))))) × (Unit × ((List Int) × Unit)))) =>
          cond (decide ((0 : Int) ≤ t4.1.2.2.2.2.1))
            (cond (decide (t4.1.2.2.2.2.1 ≤ (NatCast.natCast (List.length t4.1.2.2.1) : Int)))
              (Option.bind (F29 k0 (t4.1.1, ((List.take (Int.toNat t4.1.2.2.2.2.1) t4.1.2.2.1), ())))
              (fun (ys5 : ((List Int) × Unit)) =>
                cond (decide ((((List.length t4.2.2.1) + (List.length ys5.1)) * (1 : Nat)) ≤ (140737488355328 : Nat)))
                  (cond (decide ((0 : Int) ≤ t4.1.2.2.2.2.1))
                    (cond (decide (t4.1.2.2.2.2.1 ≤ (NatCast.natCast (List.length t4.1.2.2.1) : Int)))
                      (cond t4.1.2.2.2.2.2.1
                        (some ((t4.2.2.1 ++ ys5.1), ((0 : Int), ())))
                        (next3 (((Int.tmod (Go.IntKind.wrap Go.IntKind.i64 ((Go.IntKind.wrap Go.IntKind.i64 (t4.1.2.1 + (7 : Int))) + t4.1.2.2.2.2.1)) (64 : Int)), ((List.drop (Int.toNat t4.1.2.2.2.2.1) t4.1.2.2.1), ((), (true, ())))), ((), ((t4.2.2.1 ++ ys5.1), ())))))
                      (none))
                    (none))
                  (none)))
              (none))
            (none)))) k0 (((Int.tmod (Max.max xs1.1 (0 : Int)) (64 : Int)), (xs1.2.1, ((), (false, ())))), ((), (([] : (List Int)), ()))))
/-- moraine/wal.Length -/
def F22 : Nat → ((Int) × ((Int) × Unit)) → Option ((Int) × Unit) := fun (k0 : Nat) =>
  fun (xs1 : (Int × (Int × Unit))) =>
  cond (decide (xs1.2.1 < (0 : Int)))
    (some ((0 : Int), ()))
    (cond (decide ((4194304 : Int) < xs1.2.1))
      (some ((0 : Int), ()))
      (cond (decide (xs1.2.1 = xs1.2.1))
        (cond (decide ((0 : Int) ≤ xs1.2.1))
          (cond (decide (((Int.toNat xs1.2.1) * (1 : Nat)) ≤ (140737488355328 : Nat)))
            (Option.bind (F19 k0 (xs1.1, ((List.replicate (Int.toNat xs1.2.1) (0 : Int)), ())))
            (fun (ys2 : ((List Int) × (Int × Unit))) =>
              some ((NatCast.natCast (List.length ys2.1) : Int), ())))
            (none))
          (none))
        (none)))
/-- moraine/moraineref5.Length -/
def F23 : Nat → ((Int) × ((Int) × Unit)) → Option ((Int) × Unit) := fun (k0 : Nat) =>
  fun (xs1 : (Int × (Int × Unit))) =>
  cond (decide (xs1.2.1 < (0 : Int)))
    (some ((0 : Int), ()))
    (cond (decide ((4194304 : Int) < xs1.2.1))
      (some ((0 : Int), ()))
      (cond (decide (xs1.2.1 = xs1.2.1))
        (cond (decide ((0 : Int) ≤ xs1.2.1))
          (cond (decide (((Int.toNat xs1.2.1) * (1 : Nat)) ≤ (140737488355328 : Nat)))
            (Option.bind (F21 k0 (xs1.1, ((List.replicate (Int.toNat xs1.2.1) (0 : Int)), ())))
            (fun (ys2 : ((List Int) × (Int × Unit))) =>
              some ((NatCast.natCast (List.length ys2.1) : Int), ())))
            (none))
          (none))
        (none)))
/-- moraine/morainelaw5.WalAppends -/
def F7 : Nat → ((Int) × ((List (Int)) × ((Int) × Unit))) → Option ((Bool) × Unit) := fun (k0 : Nat) =>
  fun (xs1 : (Int × ((List Int) × (Int × Unit)))) =>
  Option.bind (F10 1000 ())
  (fun (ys2 : (Bool × Unit)) =>
    cond (!ys2.1)
      (some (false, ()))
      (cond (decide ((3000 : Int) < (NatCast.natCast (List.length xs1.2.1) : Int)))
        (some (true, ()))
        (Option.bind (F19 k0 (xs1.1, (xs1.2.1, ())))
        (fun (ys3 : ((List Int) × (Int × Unit))) =>
          Option.bind (F21 k0 (xs1.1, (xs1.2.1, ())))
          (fun (ys4 : ((List Int) × (Int × Unit))) =>
            cond (bne ys3.2.1 ys4.2.1)
              (some (false, ()))
              (Option.bind (F14 k0 (ys3.1, (ys4.1, ())))
              (fun (ys5 : (Bool × Unit)) =>
                cond (!ys5.1)
                  (some (false, ()))
                  (cond (decide ((5000 : Int) < xs1.2.2.1))
                    (cond (decide (xs1.2.2.1 ≤ (4194304 : Int)))
                      (Option.bind (F22 k0 (xs1.1, ((NatCast.natCast (List.length xs1.2.1) : Int), ())))
                      (fun (ys6 : (Int × Unit)) =>
                        some ((ys6.1 == (NatCast.natCast (List.length ys4.1) : Int)), ())))
                      (Option.bind (F22 k0 (xs1.1, ((NatCast.natCast (List.length xs1.2.1) : Int), ())))
                      (fun (ys6 : (Int × Unit)) =>
                        cond (ys6.1 == (NatCast.natCast (List.length ys4.1) : Int))
                          (Option.bind (F22 k0 (xs1.1, (xs1.2.2.1, ())))
                          (fun (ys7 : (Int × Unit)) =>
                            Option.bind (F23 k0 (xs1.1, (xs1.2.2.1, ())))
                            (fun (ys8 : (Int × Unit)) =>
                              some ((ys7.1 == ys8.1), ()))))
                          (some (false, ())))))
                    (Option.bind (F22 k0 (xs1.1, ((NatCast.natCast (List.length xs1.2.1) : Int), ())))
                    (fun (ys6 : (Int × Unit)) =>
                      cond (ys6.1 == (NatCast.natCast (List.length ys4.1) : Int))
                        (Option.bind (F22 k0 (xs1.1, (xs1.2.2.1, ())))
                        (fun (ys7 : (Int × Unit)) =>
                          Option.bind (F23 k0 (xs1.1, (xs1.2.2.1, ())))
                          (fun (ys8 : (Int × Unit)) =>
                            some ((ys7.1 == ys8.1), ()))))
                        (some (false, ()))))))))))))
/-- moraine/morainelaw5.WalRoom -/
def F8 : Nat → ((Int) × ((Int) × Unit)) → Option ((Bool) × Unit) := fun (k0 : Nat) =>
  fun (xs1 : (Int × (Int × Unit))) =>
  Option.bind (F10 1000 ())
  (fun (ys2 : (Bool × Unit)) =>
    cond (!ys2.1)
      (some (false, ()))
      (cond (decide (xs1.1 < (0 : Int)))
        (some (true, ()))
        (cond (decide ((1048576 : Int) < xs1.1))
          (some (true, ()))
          (cond (decide (xs1.2.1 < (0 : Int)))
            (some (true, ()))
            (cond (decide ((20000 : Int) < xs1.2.1))
              (some (true, ()))
              (Option.bind (F22 k0 (xs1.1, (xs1.2.1, ())))
              (fun (ys3 : (Int × Unit)) =>
                cond (decide ((Go.IntKind.wrap Go.IntKind.i64 (xs1.2.1 + (7 : Int))) ≤ ys3.1))
                  (some ((decide (ys3.1 ≤ (Go.IntKind.wrap Go.IntKind.i64 ((Go.IntKind.wrap Go.IntKind.i64 (xs1.2.1 + (Go.IntKind.wrap Go.IntKind.i64 ((7 : Int) * (Go.IntKind.wrap Go.IntKind.i64 ((Go.IntKind.wrap Go.IntKind.i64 (Int.tdiv (Go.IntKind.wrap Go.IntKind.i64 ((Go.IntKind.wrap Go.IntKind.i64 ((Go.IntKind.wrap Go.IntKind.i64 ((Int.tmod xs1.1 (64 : Int)) + ys3.1)) + (64 : Int))) - (1 : Int))) (64 : Int))) + (1 : Int))))))) + (6 : Int))))), ()))
                  (some (false, ())))))))))
/-- moraine/morainelaw5.WalMany -/
def F9 : Nat → ((Int) × ((Int) × Unit)) → Option ((Bool) × Unit) := fun (k0 : Nat) =>
  fun (xs1 : (Int × (Int × Unit))) =>
  Option.bind (F10 1000 ())
  (fun (ys2 : (Bool × Unit)) =>
    cond (!ys2.1)
      (some (false, ()))
      (cond (decide (xs1.1 < (0 : Int)))
        (some (true, ()))
        (cond (decide ((60 : Int) < xs1.1))
          (some (true, ()))
          (cond (decide (xs1.2.1 < (0 : Int)))
            (some (true, ()))
            (cond (decide ((300 : Int) < xs1.2.1))
              (some (true, ()))
              (iter (R := (Bool × Unit)) (τ := ((Unit × (Unit × (Int × (Int × (Int × (Int × Unit)))))) × (Unit × ((List (List Int)) × ((List Int) × Unit))))) (
                fun (t3 : ((Unit × (Unit × (Int × (Int × (Int × (Int × Unit)))))) × (Unit × ((List (List Int)) × ((List Int) × Unit))))) =>
                fun (next4 : (((Unit × (Unit × (Int × (Int × (Int × (Int × Unit)))))) × (Unit × ((List (List Int)) × ((List Int) × Unit)))) → (Option (Bool × Unit)))) =>
                cond (decide (t3.1.2.2.2.1 < t3.1.2.2.2.2.1))
                  (cond (decide (t3.1.2.2.2.2.2.1 = t3.1.2.2.2.2.2.1))
                    (cond (decide ((0 : Int) ≤ t3.1.2.2.2.2.2.1))
                      (cond (decide (((Int.toNat t3.1.2.2.2.2.2.1) * (1 : Nat)) ≤ (140737488355328 : Nat)))
                        (iter (R := (Bool × Unit)) (τ := ((Int × (Int × (Int × (Unit × (Unit × (Int × (Int × (Unit × Unit)))))))) × (Unit × ((List Int) × ((List (List Int)) × ((List Int) × Unit)))))) (
                          fun (t5 : ((Int × (Int × (Int × (Unit × (Unit × (Int × (Int × (Unit × Unit)))))))) × (Unit × ((List Int) × ((List (List Int)) × ((List Int) × Unit)))))) =>
                          fun (next6 : (((Int × (Int × (Int × (Unit × (Unit × (Int × (Int × (Unit × Unit)))))))) × (Unit × ((List Int) × ((List (List Int)) × ((List Int) × Unit))))) → (Option (Bool × Unit)))) =>
                          cond (decide (t5.1.1 < t5.1.2.2.1))
                            (cond (decide ((0 : Int) ≤ t5.1.1))
                              (cond (decide (t5.1.1 < (NatCast.natCast (List.length t5.2.2.1) : Int)))
                                (next6 (((Go.IntKind.wrap Go.IntKind.i64 (t5.1.1 + (1 : Int))), (t5.1.2.1, (t5.1.2.2.1, ((), ((), (t5.1.2.2.2.2.2.1, (t5.1.2.2.2.2.2.2.1, ((), ())))))))), ((), ((List.set t5.2.2.1 (Int.toNat t5.1.1) (Go.IntKind.wrap Go.IntKind.u8 (Go.IntKind.wrap Go.IntKind.i64 (t5.1.2.2.2.2.2.2.1 + t5.1.1)))), (t5.2.2.2.1, (t5.2.2.2.2.1, ()))))))
                                (none))
                              (none))
                            (cond (decide ((((List.length t5.2.2.2.1) + (List.length (t5.2.2.1 :: ([] : (List (List Int)))))) * (24 : Nat)) ≤ (140737488355328 : Nat)))
                              (Option.bind (F19 k0 ((NatCast.natCast (List.length t5.2.2.2.2.1) : Int), (t5.2.2.1, ())))
                              (fun (ys7 : ((List Int) × (Int × Unit))) =>
                                Option.bind (F22 k0 (t5.1.2.2.2.2.2.1, (t5.1.2.2.1, ())))
                                (fun (ys8 : (Int × Unit)) =>
                                  cond (decide ((((List.length t5.2.2.2.2.1) + (List.length ys7.1)) * (1 : Nat)) ≤ (140737488355328 : Nat)))
                                    (cond (bne ys7.2.1 (0 : Int))
                                      (some (false, ()))
                                      (cond (bne (NatCast.natCast (List.length (t5.2.2.2.2.1 ++ ys7.1)) : Int) (Go.IntKind.wrap Go.IntKind.i64 (t5.1.2.2.2.2.2.1 + ys8.1)))
                                        (some (false, ()))
                                        (next4 (((), ((), ((Go.IntKind.wrap Go.IntKind.i64 (t5.1.2.2.2.2.2.1 + ys8.1)), ((Go.IntKind.wrap Go.IntKind.i64 (t5.1.2.2.2.2.2.2.1 + (1 : Int))), (t5.1.2.1, (t5.1.2.2.1, ())))))), ((), ((t5.2.2.2.1 ++ (t5.2.2.1 :: ([] : (List (List Int))))), ((t5.2.2.2.2.1 ++ ys7.1), ())))))))
                                    (none))))
                              (none))) k0 (((0 : Int), (t3.1.2.2.2.2.1, (t3.1.2.2.2.2.2.1, ((), ((), (t3.1.2.2.1, (t3.1.2.2.2.1, ((), ())))))))), ((), ((List.replicate (Int.toNat t3.1.2.2.2.2.2.1) (0 : Int)), (t3.2.2.1, (t3.2.2.2.1, ()))))))
                        (none))
                      (none))
                    (none))
                  (Option.bind (F11 k0 (t3.2.2.2.1, ()))
                  (fun (ys5 : ((List (List Int)) × (Int × Unit))) =>
                    cond (ys5.2.1 == (NatCast.natCast (List.length t3.2.2.2.1) : Int))
                      (Option.bind (F13 k0 (t3.2.2.1, (ys5.1, ())))
                      (fun (ys6 : (Bool × Unit)) =>
                        some (ys6.1, ())))
                      (some (false, ()))))) k0 (((), ((), ((0 : Int), ((0 : Int), (xs1.1, (xs1.2.1, ())))))), ((), (([] : (List (List Int))), (([] : (List Int)), ()))))))))))
end Go.Proofs.YtpgmkoaklpkecaaDoor.Eng
