/- Plans are drawn: randomPlan, linearPlan. -/
import Derived.Test.YtfcdnfbhoppefaaMS5
namespace Go.AM
set_option linter.unusedVariables false
set_option linter.unusedSimpArgs false
set_option maxRecDepth 100000
/- loop.example/dataflow/spec.randomPlan: number 226 -/
def spec_randomPlan.c3 : AC :=
 (.reg none [⟨0, (some 23), .move (.t 6), .any, none, []⟩,
   ⟨1, (some 24), .bin .sub (.t 23) (.c (.int .i64 (1))), .any, none, []⟩,
   ⟨2, (some 6), .move (.t 24), .any, none, []⟩])
def spec_randomPlan.c2 : AC :=
 (.seq (some [(5, .any), (6, (.int .i64))])
 (.block 1 (.reg none [⟨0, (some 25), .move (.t 5), .any, none, []⟩,
     ⟨1, (some 26), .call 225 [(.t 25), (.c (.bool false))], .any, none, []⟩]))
 (spec_randomPlan.c3))
def spec_randomPlan.c1 : AC :=
 (.seq (some [(5, .any), (6, (.int .i64))])
 (.seq none
  (.reg none [⟨0, (some 21), .move (.t 6), .any, none, []⟩,
     ⟨1, (some 22), .bin .gtr (.t 21) (.c (.int .i64 (0))), .any, none, []⟩])
  (.cond (.t 22)
  (.skip)
  (.exit 0)))
 (spec_randomPlan.c2))
def spec_randomPlan.c4 : AC :=
 (.seq none
 (.reg none [⟨0, (some 27), .move (.t 5), .any, none, []⟩,
    ⟨1, (some 28), .nilck (.t 27), .any, none, []⟩,
    ⟨2, (some 29), .fld 2 (.t 28), .any, none, []⟩,
    ⟨3, (some 30), .load none (.t 29), .any, none, []⟩,
    ⟨4, (some 4), .move (.t 30), .any, none, []⟩])
 (.ret))
def spec_randomPlan.ir : AF := ⟨[(0, .any), (1, .any)], 31, [.tmp 4],
 (.seq none
 (.reg none [⟨0, (some 4), .move (.c (.nils)), .any, none, []⟩])
 (.seq none
 (.reg none [⟨0, (some 7), .move (.t 0), .any, none, []⟩,
    ⟨1, (some 8), .move (.t 1), .any, none, []⟩,
    ⟨2, (some 9), .build [.nilp, .nils, .nils, .nils, .int .i64 0, .int .i64 0, .int .i64 0] [(0, 1, (.t 7)), (1, 1, (.t 8)), (4, 1, (.c (.int .i64 (1)))), (5, 1, (.c (.int .i64 (1)))), (6, 1, (.c (.int .i64 (1))))], .any, none, []⟩,
    ⟨3, (some 10), .box (.t 9), .any, none, []⟩,
    ⟨4, (some 5), .move (.t 10), .any, none, []⟩])
 (.seq none
 (.reg none [⟨0, (some 11), .move (.t 5), .any, none, []⟩,
    ⟨1, (some 12), .move (.t 0), .any, none, []⟩,
    ⟨2, (some 13), .move (.t 1), .any, none, []⟩,
    ⟨3, (some 14), .len (.t 13), .any, none, []⟩,
    ⟨4, (some 15), .call 37 [(.t 12), (.t 14)], (.int .i64), none, []⟩,
    ⟨5, (some 16), .build [.int .i64 0, .int .i64 0, .int .i64 0, .int .i64 0, .nils, .int .i64 0, .int .i64 0, .int .i64 0, .int .i64 0, .int .i64 0] [(0, 1, (.c (.int .i64 (1)))), (1, 1, (.t 15))], .any, none, []⟩,
    ⟨6, (some 17), .call 224 [(.t 11), (.t 16)], .any, none, []⟩])
 (.seq (some [(5, .any)])
 (.seq none
  (.reg none [⟨0, (some 18), .move (.t 0), .any, none, []⟩,
     ⟨1, (some 19), .call 37 [(.t 18), (.c (.int .i64 (8)))], (.int .i64), none, []⟩,
     ⟨2, (some 20), .bin .add (.c (.int .i64 (1))) (.t 19), .any, none, []⟩,
     ⟨3, (some 6), .move (.t 20), .any, none, []⟩])
  (.block 0 (.loop [(5, .any), (6, (.int .i64))] spec_randomPlan.c1)))
 (spec_randomPlan.c4)))))⟩
noncomputable abbrev spec_randomPlan.K4 (call : Nat → List AV → AH → O) (k : Nat) : KX := seqK (some [(5, .any)]) (exec call k spec_randomPlan.c4 (fin [.tmp 4])) (fin [.tmp 4])
noncomputable abbrev spec_randomPlan.K1 (call : Nat → List AV → AH → O) (k : Nat) (i1 : Nat) : KX := loopK [(5, .any), (6, (.int .i64))] (loopE (exec call k spec_randomPlan.c1) [(5, .any), (6, (.int .i64))] i1 (blockK 0 (spec_randomPlan.K4 call k))) (blockK 0 (spec_randomPlan.K4 call k))
noncomputable abbrev spec_randomPlan.K3 (call : Nat → List AV → AH → O) (k : Nat) (i1 : Nat) : KX := seqK (some [(5, .any), (6, (.int .i64))]) (exec call k spec_randomPlan.c3 (spec_randomPlan.K1 call k i1)) (spec_randomPlan.K1 call k i1)
noncomputable abbrev spec_randomPlan.K2 (call : Nat → List AV → AH → O) (k : Nat) (i1 : Nat) : KX := seqK (some [(5, .any), (6, (.int .i64))]) (exec call k spec_randomPlan.c2 (spec_randomPlan.K1 call k i1)) (spec_randomPlan.K1 call k i1)
noncomputable abbrev spec_randomPlan.J4 (call : Nat → List AV → AH → O) (k : Nat) (x5 : AV) (h : AH) : O := exec call k spec_randomPlan.c4 (fin [.tmp 4]) [.junk, .junk, .junk, .junk, .junk, x5, .junk, .junk, .junk, .junk, .junk, .junk, .junk, .junk, .junk, .junk, .junk, .junk, .junk, .junk, .junk, .junk, .junk, .junk, .junk, .junk, .junk, .junk, .junk, .junk, .junk] h
noncomputable abbrev spec_randomPlan.J3 (call : Nat → List AV → AH → O) (k : Nat) (i1 : Nat) (x5 : AV) (x6 : Int) (h : AH) : O := exec call k spec_randomPlan.c3 (spec_randomPlan.K1 call k i1) [.junk, .junk, .junk, .junk, .junk, x5, .int .i64 x6, .junk, .junk, .junk, .junk, .junk, .junk, .junk, .junk, .junk, .junk, .junk, .junk, .junk, .junk, .junk, .junk, .junk, .junk, .junk, .junk, .junk, .junk, .junk, .junk] h
noncomputable abbrev spec_randomPlan.J2 (call : Nat → List AV → AH → O) (k : Nat) (i1 : Nat) (x5 : AV) (x6 : Int) (h : AH) : O := exec call k spec_randomPlan.c2 (spec_randomPlan.K1 call k i1) [.junk, .junk, .junk, .junk, .junk, x5, .int .i64 x6, .junk, .junk, .junk, .junk, .junk, .junk, .junk, .junk, .junk, .junk, .junk, .junk, .junk, .junk, .junk, .junk, .junk, .junk, .junk, .junk, .junk, .junk, .junk, .junk] h
noncomputable abbrev spec_randomPlan.L1 (call : Nat → List AV → AH → O) (k : Nat) (i1 : Nat) (x5 : AV) (x6 : Int) (h : AH) : O := loopE (exec call k spec_randomPlan.c1) [(5, .any), (6, (.int .i64))] i1 (blockK 0 (spec_randomPlan.K4 call k)) [.junk, .junk, .junk, .junk, .junk, x5, .int .i64 x6, .junk, .junk, .junk, .junk, .junk, .junk, .junk, .junk, .junk, .junk, .junk, .junk, .junk, .junk, .junk, .junk, .junk, .junk, .junk, .junk, .junk, .junk, .junk, .junk] h
theorem spec_randomPlan.J4_eq (call : Nat → List AV → AH → O) (k : Nat) (x5 : AV) (h : AH) : spec_randomPlan.J4 call k x5 h =
 pNil x5 fun v11 =>
 pFld 2 v11 fun v12 =>
 pLd h none v12 fun v13 =>
 some (v13, h) := by kernel_rfl
theorem spec_randomPlan.J3_eq (call : Nat → List AV → AH → O) (k : Nat) (i1 : Nat) (x5 : AV) (x6 : Int) (h : AH) : spec_randomPlan.J3 call k i1 x5 x6 h =
 spec_randomPlan.L1 call k i1 x5 (IntKind.i64.wrap (x6 - (1))) h := by kernel_rfl
theorem spec_randomPlan.J2_eq (call : Nat → List AV → AH → O) (k : Nat) (i1 : Nat) (x5 : AV) (x6 : Int) (h : AH) : spec_randomPlan.J2 call k i1 x5 x6 h =
 pCall call 225 [x5, .bool false] h fun v17 h16 =>
 spec_randomPlan.J3 call k i1 x5 x6 h16 := by kernel_rfl
theorem spec_randomPlan.L1_zero (call : Nat → List AV → AH → O) (k : Nat) (x5 : AV) (x6 : Int) (h : AH) : spec_randomPlan.L1 call k 0 x5 x6 h = none := rfl
theorem spec_randomPlan.L1_succ (call : Nat → List AV → AH → O) (k : Nat) (i1 : Nat) (x5 : AV) (x6 : Int) (h : AH) : spec_randomPlan.L1 call k (i1 + 1) x5 x6 h =
 bif (decide (x6 > (0))) then (spec_randomPlan.J2 call k i1 x5 x6 h)
 else (spec_randomPlan.J4 call k x5 h) := by kernel_rfl
theorem spec_randomPlan_run (T : Nat → Option AF) (hT : T 226 = some spec_randomPlan.ir) (k : Nat) (a0 : AV) (a1 : AV) (h : AH) : run T (k + 1) 226 [a0, a1] h =
 (fun (call : Nat → List AV → AH → O) => pFill [.nilp, .nils, .nils, .nils, .int .i64 0, .int .i64 0, .int .i64 0] [(0, 1, a0), (1, 1, a1), (4, 1, .int .i64 (1)), (5, 1, .int .i64 (1)), (6, 1, .int .i64 (1))] fun c1 =>
 pCells ((.agg c1)) fun c2 =>
 pNew h c2 fun b3 h4 =>
 pLen a1 fun m5 =>
 pCallI call .i64 37 [a0, .int .i64 (m5 : Int)] h4 fun n7 h6 =>
 pFill [.int .i64 0, .int .i64 0, .int .i64 0, .int .i64 0, .nils, .int .i64 0, .int .i64 0, .int .i64 0, .int .i64 0, .int .i64 0] [(0, 1, .int .i64 (1)), (1, 1, .int .i64 n7)] fun c8 =>
 pCall call 224 [(.ptr b3 0), (.agg c8)] h6 fun v10 h9 =>
 pCallI call .i64 37 [a0, .int .i64 (8)] h9 fun n15 h14 =>
 spec_randomPlan.L1 call k k ((.ptr b3 0)) (IntKind.i64.wrap ((1) + n15)) h14) (run T k) := by unfold run; rw [hT]; kernel_rfl
/- loop.example/dataflow/spec.linearPlan: number 208 -/
def spec_linearPlan.c3 : AC :=
 (.reg none [⟨0, (some 25), .move (.t 6), .any, none, []⟩,
   ⟨1, (some 26), .bin .sub (.t 25) (.c (.int .i64 (1))), .any, none, []⟩,
   ⟨2, (some 6), .move (.t 26), .any, none, []⟩])
def spec_linearPlan.c2 : AC :=
 (.seq (some [(0, .any), (4, .any), (5, .any), (6, (.int .i64))])
 (.block 1 (.seq none
   (.reg none [⟨0, (some 27), .move (.t 5), .any, none, []⟩,
      ⟨1, (some 28), .call 225 [(.t 27), (.c (.bool true))], .any, none, []⟩])
   (.seq none
   (.reg none [⟨0, (some 29), .move (.t 0), .any, none, []⟩,
      ⟨1, (some 30), .call 37 [(.t 29), (.c (.int .i64 (4)))], (.int .i64), none, []⟩,
      ⟨2, (some 31), .bin .eql (.t 30) (.c (.int .i64 (0))), .any, none, []⟩])
   (.cond (.t 31)
   (.reg none [⟨0, (some 32), .move (.t 5), .any, none, []⟩,
      ⟨1, (some 33), .move (.t 0), .any, none, []⟩,
      ⟨2, (some 34), .move (.t 5), .any, none, []⟩,
      ⟨3, (some 35), .nilck (.t 34), .any, none, []⟩,
      ⟨4, (some 36), .fld 2 (.t 35), .any, none, []⟩,
      ⟨5, (some 37), .load none (.t 36), .any, none, []⟩,
      ⟨6, (some 38), .len (.t 37), .any, none, []⟩,
      ⟨7, (some 39), .call 37 [(.t 33), (.t 38)], (.int .i64), none, []⟩,
      ⟨8, (some 40), .build [.int .i64 0, .int .i64 0, .int .i64 0, .int .i64 0, .nils, .int .i64 0, .int .i64 0, .int .i64 0, .int .i64 0, .int .i64 0] [(0, 1, (.c (.int .i64 (5)))), (1, 1, (.t 39))], .any, none, []⟩,
      ⟨9, (some 41), .call 224 [(.t 32), (.t 40)], .any, none, []⟩])
   (.skip)))))
 (spec_linearPlan.c3))
def spec_linearPlan.c1 : AC :=
 (.seq (some [(0, .any), (4, .any), (5, .any), (6, (.int .i64))])
 (.seq none
  (.reg none [⟨0, (some 23), .move (.t 6), .any, none, []⟩,
     ⟨1, (some 24), .bin .gtr (.t 23) (.c (.int .i64 (0))), .any, none, []⟩])
  (.cond (.t 24)
  (.skip)
  (.exit 0)))
 (spec_linearPlan.c2))
def spec_linearPlan.c4 : AC :=
 (.seq none
 (.reg none [⟨0, (some 42), .move (.t 5), .any, none, []⟩,
    ⟨1, (some 43), .nilck (.t 42), .any, none, []⟩,
    ⟨2, (some 44), .fld 2 (.t 43), .any, none, []⟩,
    ⟨3, (some 45), .load none (.t 44), .any, none, []⟩,
    ⟨4, (some 46), .move (.t 4), .any, none, []⟩,
    ⟨5, (some 2), .move (.t 45), .any, none, []⟩,
    ⟨6, (some 3), .move (.t 46), .any, none, []⟩])
 (.ret))
def spec_linearPlan.ir : AF := ⟨[(0, .any)], 47, [.tmp 2, .tmp 3],
 (.seq none
 (.reg none [⟨0, (some 2), .move (.c (.nils)), .any, none, []⟩,
    ⟨1, (some 3), .move (.c (.nils)), .any, none, []⟩])
 (.seq none
 (.reg none [⟨0, (some 7), .move (.t 0), .any, none, []⟩,
    ⟨1, (some 8), .call 210 [(.t 7)], .any, none, []⟩,
    ⟨2, (some 4), .move (.t 8), .any, none, []⟩])
 (.seq none
 (.reg none [⟨0, (some 9), .move (.t 0), .any, none, []⟩,
    ⟨1, (some 10), .move (.t 4), .any, none, []⟩,
    ⟨2, (some 11), .build [.nilp, .nils, .nils, .nils, .int .i64 0, .int .i64 0, .int .i64 0] [(0, 1, (.t 9)), (1, 1, (.t 10)), (4, 1, (.c (.int .i64 (3))))], .any, none, []⟩,
    ⟨3, (some 12), .box (.t 11), .any, none, []⟩,
    ⟨4, (some 5), .move (.t 12), .any, none, []⟩])
 (.seq none
 (.reg none [⟨0, (some 13), .move (.t 5), .any, none, []⟩,
    ⟨1, (some 14), .move (.t 0), .any, none, []⟩,
    ⟨2, (some 15), .move (.t 4), .any, none, []⟩,
    ⟨3, (some 16), .len (.t 15), .any, none, []⟩,
    ⟨4, (some 17), .call 37 [(.t 14), (.t 16)], (.int .i64), none, []⟩,
    ⟨5, (some 18), .build [.int .i64 0, .int .i64 0, .int .i64 0, .int .i64 0, .nils, .int .i64 0, .int .i64 0, .int .i64 0, .int .i64 0, .int .i64 0] [(0, 1, (.c (.int .i64 (1)))), (1, 1, (.t 17))], .any, none, []⟩,
    ⟨6, (some 19), .call 224 [(.t 13), (.t 18)], .any, none, []⟩])
 (.seq (some [(4, .any), (5, .any)])
 (.seq none
  (.reg none [⟨0, (some 20), .move (.t 0), .any, none, []⟩,
     ⟨1, (some 21), .call 37 [(.t 20), (.c (.int .i64 (6)))], (.int .i64), none, []⟩,
     ⟨2, (some 22), .bin .add (.c (.int .i64 (1))) (.t 21), .any, none, []⟩,
     ⟨3, (some 6), .move (.t 22), .any, none, []⟩])
  (.block 0 (.loop [(0, .any), (4, .any), (5, .any), (6, (.int .i64))] spec_linearPlan.c1)))
 (spec_linearPlan.c4))))))⟩
noncomputable abbrev spec_linearPlan.K4 (call : Nat → List AV → AH → O) (k : Nat) : KX := seqK (some [(4, .any), (5, .any)]) (exec call k spec_linearPlan.c4 (fin [.tmp 2, .tmp 3])) (fin [.tmp 2, .tmp 3])
noncomputable abbrev spec_linearPlan.K1 (call : Nat → List AV → AH → O) (k : Nat) (i1 : Nat) : KX := loopK [(0, .any), (4, .any), (5, .any), (6, (.int .i64))] (loopE (exec call k spec_linearPlan.c1) [(0, .any), (4, .any), (5, .any), (6, (.int .i64))] i1 (blockK 0 (spec_linearPlan.K4 call k))) (blockK 0 (spec_linearPlan.K4 call k))
noncomputable abbrev spec_linearPlan.K3 (call : Nat → List AV → AH → O) (k : Nat) (i1 : Nat) : KX := seqK (some [(0, .any), (4, .any), (5, .any), (6, (.int .i64))]) (exec call k spec_linearPlan.c3 (spec_linearPlan.K1 call k i1)) (spec_linearPlan.K1 call k i1)
noncomputable abbrev spec_linearPlan.K2 (call : Nat → List AV → AH → O) (k : Nat) (i1 : Nat) : KX := seqK (some [(0, .any), (4, .any), (5, .any), (6, (.int .i64))]) (exec call k spec_linearPlan.c2 (spec_linearPlan.K1 call k i1)) (spec_linearPlan.K1 call k i1)
noncomputable abbrev spec_linearPlan.J4 (call : Nat → List AV → AH → O) (k : Nat) (x4 : AV) (x5 : AV) (h : AH) : O := exec call k spec_linearPlan.c4 (fin [.tmp 2, .tmp 3]) [.junk, .junk, .junk, .junk, x4, x5, .junk, .junk, .junk, .junk, .junk, .junk, .junk, .junk, .junk, .junk, .junk, .junk, .junk, .junk, .junk, .junk, .junk, .junk, .junk, .junk, .junk, .junk, .junk, .junk, .junk, .junk, .junk, .junk, .junk, .junk, .junk, .junk, .junk, .junk, .junk, .junk, .junk, .junk, .junk, .junk, .junk] h
noncomputable abbrev spec_linearPlan.J3 (call : Nat → List AV → AH → O) (k : Nat) (i1 : Nat) (x0 : AV) (x4 : AV) (x5 : AV) (x6 : Int) (h : AH) : O := exec call k spec_linearPlan.c3 (spec_linearPlan.K1 call k i1) [x0, .junk, .junk, .junk, x4, x5, .int .i64 x6, .junk, .junk, .junk, .junk, .junk, .junk, .junk, .junk, .junk, .junk, .junk, .junk, .junk, .junk, .junk, .junk, .junk, .junk, .junk, .junk, .junk, .junk, .junk, .junk, .junk, .junk, .junk, .junk, .junk, .junk, .junk, .junk, .junk, .junk, .junk, .junk, .junk, .junk, .junk, .junk] h
noncomputable abbrev spec_linearPlan.J2 (call : Nat → List AV → AH → O) (k : Nat) (i1 : Nat) (x0 : AV) (x4 : AV) (x5 : AV) (x6 : Int) (h : AH) : O := exec call k spec_linearPlan.c2 (spec_linearPlan.K1 call k i1) [x0, .junk, .junk, .junk, x4, x5, .int .i64 x6, .junk, .junk, .junk, .junk, .junk, .junk, .junk, .junk, .junk, .junk, .junk, .junk, .junk, .junk, .junk, .junk, .junk, .junk, .junk, .junk, .junk, .junk, .junk, .junk, .junk, .junk, .junk, .junk, .junk, .junk, .junk, .junk, .junk, .junk, .junk, .junk, .junk, .junk, .junk, .junk] h
noncomputable abbrev spec_linearPlan.L1 (call : Nat → List AV → AH → O) (k : Nat) (i1 : Nat) (x0 : AV) (x4 : AV) (x5 : AV) (x6 : Int) (h : AH) : O := loopE (exec call k spec_linearPlan.c1) [(0, .any), (4, .any), (5, .any), (6, (.int .i64))] i1 (blockK 0 (spec_linearPlan.K4 call k)) [x0, .junk, .junk, .junk, x4, x5, .int .i64 x6, .junk, .junk, .junk, .junk, .junk, .junk, .junk, .junk, .junk, .junk, .junk, .junk, .junk, .junk, .junk, .junk, .junk, .junk, .junk, .junk, .junk, .junk, .junk, .junk, .junk, .junk, .junk, .junk, .junk, .junk, .junk, .junk, .junk, .junk, .junk, .junk, .junk, .junk, .junk, .junk] h
theorem spec_linearPlan.J4_eq (call : Nat → List AV → AH → O) (k : Nat) (x4 : AV) (x5 : AV) (h : AH) : spec_linearPlan.J4 call k x4 x5 h =
 pNil x5 fun v13 =>
 pFld 2 v13 fun v14 =>
 pLd h none v14 fun v15 =>
 some (.tup [v15, x4], h) := by kernel_rfl
theorem spec_linearPlan.J3_eq (call : Nat → List AV → AH → O) (k : Nat) (i1 : Nat) (x0 : AV) (x4 : AV) (x5 : AV) (x6 : Int) (h : AH) : spec_linearPlan.J3 call k i1 x0 x4 x5 x6 h =
 spec_linearPlan.L1 call k i1 x0 x4 x5 (IntKind.i64.wrap (x6 - (1))) h := by kernel_rfl
theorem spec_linearPlan.J2_eq (call : Nat → List AV → AH → O) (k : Nat) (i1 : Nat) (x0 : AV) (x4 : AV) (x5 : AV) (x6 : Int) (h : AH) : spec_linearPlan.J2 call k i1 x0 x4 x5 x6 h =
 pCall call 225 [x5, .bool true] h fun v19 h18 =>
 pCallI call .i64 37 [x0, .int .i64 (4)] h18 fun n21 h20 =>
 bif (n21 == (0)) then (pNil x5 fun v22 =>
 pFld 2 v22 fun v23 =>
 pLd h20 none v23 fun v24 =>
 pLen v24 fun m25 =>
 pCallI call .i64 37 [x0, .int .i64 (m25 : Int)] h20 fun n27 h26 =>
 pFill [.int .i64 0, .int .i64 0, .int .i64 0, .int .i64 0, .nils, .int .i64 0, .int .i64 0, .int .i64 0, .int .i64 0, .int .i64 0] [(0, 1, .int .i64 (5)), (1, 1, .int .i64 n27)] fun c28 =>
 pCall call 224 [x5, (.agg c28)] h26 fun v30 h29 =>
 spec_linearPlan.J3 call k i1 x0 x4 x5 x6 h29)
 else (spec_linearPlan.J3 call k i1 x0 x4 x5 x6 h20) := by kernel_rfl
theorem spec_linearPlan.L1_zero (call : Nat → List AV → AH → O) (k : Nat) (x0 : AV) (x4 : AV) (x5 : AV) (x6 : Int) (h : AH) : spec_linearPlan.L1 call k 0 x0 x4 x5 x6 h = none := rfl
theorem spec_linearPlan.L1_succ (call : Nat → List AV → AH → O) (k : Nat) (i1 : Nat) (x0 : AV) (x4 : AV) (x5 : AV) (x6 : Int) (h : AH) : spec_linearPlan.L1 call k (i1 + 1) x0 x4 x5 x6 h =
 bif (decide (x6 > (0))) then (spec_linearPlan.J2 call k i1 x0 x4 x5 x6 h)
 else (spec_linearPlan.J4 call k x4 x5 h) := by kernel_rfl
theorem spec_linearPlan_run (T : Nat → Option AF) (hT : T 208 = some spec_linearPlan.ir) (k : Nat) (a0 : AV) (h : AH) : run T (k + 1) 208 [a0] h =
 (fun (call : Nat → List AV → AH → O) => pCall call 210 [a0] h fun v2 h1 =>
 pFill [.nilp, .nils, .nils, .nils, .int .i64 0, .int .i64 0, .int .i64 0] [(0, 1, a0), (1, 1, v2), (4, 1, .int .i64 (3))] fun c3 =>
 pCells ((.agg c3)) fun c4 =>
 pNew h1 c4 fun b5 h6 =>
 pLen v2 fun m7 =>
 pCallI call .i64 37 [a0, .int .i64 (m7 : Int)] h6 fun n9 h8 =>
 pFill [.int .i64 0, .int .i64 0, .int .i64 0, .int .i64 0, .nils, .int .i64 0, .int .i64 0, .int .i64 0, .int .i64 0, .int .i64 0] [(0, 1, .int .i64 (1)), (1, 1, .int .i64 n9)] fun c10 =>
 pCall call 224 [(.ptr b5 0), (.agg c10)] h8 fun v12 h11 =>
 pCallI call .i64 37 [a0, .int .i64 (6)] h11 fun n17 h16 =>
 spec_linearPlan.L1 call k k a0 v2 ((.ptr b5 0)) (IntKind.i64.wrap ((1) + n17)) h16) (run T k) := by unfold run; rw [hT]; kernel_rfl
structure HasQ (T : Nat → Option AF) : Prop extends HasP T where
  f35 : T 35 = some spec_newReader.ir
  f56 : T 56 = some spec_reader_one.ir
  f75 : T 75 = some spec_copyInts.ir
  f210 : T 210 = some spec_randomWidths.ir
  f226 : T 226 = some spec_randomPlan.ir
def PS.start (wx : AV) (ws : List Int) (mw : Mem) (u j g : Int) : PS := ⟨wx, .nils, .nils, u, j, g, [], [], ws, [], [], mw⟩
theorem Pl.start {h : AH} {rb : Nat} {p : Int} {mw : Mem} {wx : AV} {ws : List Int} (r : Rd h rb p) (ok : Ok h) (sub : Sub mw h) (hr : mw rb = none) (hw : Ints mw wx ws) (hl : ws.length ≤ 1000) (u j g : Int) :
    Pl (fun _ => none) (h.new [.ptr rb 0, wx, .nils, .nils, .int .i64 u, .int .i64 j, .int .i64 g]) h.next rb p (PS.start wx ws mw u j g) where
  ok := ok.new
  sub := fun _ _ h => by cases h
  off := fun _ _ => rfl
  subw := sub.keep ok Ch.new (by simp)
  offw := fun f hf => by
    simp [PS.F, PS.start] at hf
    rcases hf with rfl | rfl
    · exact sub.fresh ok (Nat.le_refl _)
    · exact hr
  ne := by obtain ⟨_, _, _, e⟩ := r; have := ok _ _ e; omega
  nep := fun b hb => by cases hb
  new := fun b hb => by cases hb
  blk := AH.new_same ..
  rd := r.keep ok Ch.new (by simp)
  ws := hw
  wsl := hl
  rows := ⟨by simp [PS.start], .inl ⟨rfl, rfl, rfl⟩⟩
  node := fun r hr => by cases hr
  wide := ⟨by simp [PS.start], .inl ⟨rfl, rfl, rfl⟩⟩
  len := rfl
  small := by simp [PS.start]
theorem randomPlan_loop {T : Nat → Option AF} (H : HasP T) {k : Nat} (hk : 1000020 ≤ k) {m0 : Mem} {h0 : AH} {pb rb : Nat} {S0 : PS} : ∀ (d i1 : Nat) (n p : Int) (m : Mem) (h : AH) (S : PS) (c : Nat), n = d → d < i1 → d ≤ 100 → 0 ≤ p → p + 20 * d ≤ 1000000 → S0.rows.length + c + d ≤ 500 → Next c m0 h0 m h pb rb p S0 S →
    W (spec_randomPlan.L1 (run T k) k i1 (.ptr pb 0) n h) fun v h' => ∃ m' S' p', Next (c + d) m0 h0 m' h' pb rb p' S0 S' ∧ v = S'.px ∧ p ≤ p' ∧ p' ≤ p + 20 * d ∧ S.rows.length ≤ S'.rows.length := by
  intro d
  induction d with
  | zero =>
    intro i1 n p m h S c hn h1 h2 p0 p1 hc N
    obtain ⟨i1, rfl⟩ : ∃ j, i1 = j + 1 := ⟨i1 - 1, by omega⟩
    rw [spec_randomPlan.L1_succ]
    refine W.bif_ (fun c => ?_) fun c => ?_
    · have : 0 < n := by simpa using c
      omega
    · rw [spec_randomPlan.J4_eq]
      simp only [nil_at, fld_at, Nat.zero_add, ld_at N.pl.blk (o := 2) rfl]
      exact W.ret ⟨m, S, p, N, rfl, by omega, by omega, Nat.le_refl _⟩
  | succ d ih =>
    intro i1 n p m h S c hn h1 h2 p0 p1 hc N
    obtain ⟨i1, rfl⟩ : ∃ j, i1 = j + 1 := ⟨i1 - 1, by omega⟩
    rw [spec_randomPlan.L1_succ]
    refine W.bif_ (fun c => ?_) fun c => ?_
    · rw [spec_randomPlan.J2_eq]
      refine W.call_ (planner_node_ok H (by omega) N.pl (by have := N.less; omega) (by omega)) fun v h2 ⟨m2, S2, p2, N2, e1, e2⟩ => ?_
      rw [spec_randomPlan.J3_eq, wr (by omega) (by omega)]
      refine (ih i1 (n - 1) p2 m2 h2 S2 _ (by omega) (by omega) (by omega) (by omega) (by omega) (by omega) (N.trans N2)).mono fun v h3 ⟨m3, S3, p3, N3, e3, e4, e5, e6⟩ => ⟨m3, S3, p3, ?_, e3, by omega, by omega, by have := N2.more; omega⟩
      rw [Nat.add_assoc, Nat.add_comm 1 d] at N3
      exact N3
    · have : n ≤ 0 := by simpa using c
      omega
/-- A drawn plan. -/
structure PlanOut (h0 : AH) (mw : Mem) (rb : Nat) (p : Int) (v : AV) (h : AH) (m : Mem) (rows : List (List AV)) (B : List Nat) (p' : Int) : Prop where
  own : Own h 10 v rows B
  node : ∀ r, r ∈ rows → Node m r
  ne : rows ≠ []
  small : rows.length ≤ 1000
  rd : Rd h rb p'
  le : p ≤ p'
  le' : p' ≤ p + 10000
  sub : Sub m h
  subw : Sub mw h
  ok : Ok h
  ch : Ch [rb] h0 h
  fresh : ∀ b, b ∈ B → h0.next ≤ b ∧ m b = none ∧ mw b = none ∧ b ≠ rb
  mrb : m rb = none
  sep : ∀ b, b < h0.next → m b = none
theorem Next.out {c : Nat} {h : AH} {pb rb : Nat} {p : Int} {S' : PS} {h1 h' : AH} {m' : Mem} {p' : Int} {wx : AV} {ws : List Int} {mw : Mem} {u j g : Int} (N : Next c (fun _ => none) h1 m' h' pb rb p' (PS.start wx ws mw u j g) S') (hp : p ≤ p' ∧ p' ≤ p + 10000) (hn : S'.rows ≠ []) (k : Ch [rb] h h1) (hpb : h.next ≤ pb) :
    PlanOut h mw rb p S'.px h' m' S'.rows S'.Bp p' where
  own := N.pl.rows
  node := N.pl.node
  ne := hn
  small := N.pl.small
  rd := N.pl.rd
  le := hp.1
  le' := hp.2
  sub := N.pl.sub
  subw := by have := N.pl.subw; rw [N.mw] at this; exact this
  ok := N.pl.ok
  ch := k.trans N.ch fun x hx => by
    simp [PS.F, PS.start] at hx
    rcases hx with rfl | rfl
    · right; exact hpb
    · left; simp
  fresh := fun b hb => by
    have hF : b ∈ S'.F pb rb := by simp [PS.F, hb]
    refine ⟨?_, N.pl.off b hF, ?_, (N.pl.nep b hb).2⟩
    · rcases N.fresh b (List.mem_append_left _ hb) with h | h
      · simp [PS.start] at h
      · exact Nat.le_trans k.next h
    · have := N.pl.offw b hF; rw [N.mw] at this; exact this
  mrb := N.pl.off rb (by simp [PS.F])
  sep := fun b hb => N.old b (Nat.lt_of_lt_of_le hb k.next)
theorem first_node {T : Nat → Option AF} (H : HasP T) {k : Nat} (hk : 1000020 ≤ k) {m : Mem} {h : AH} {pb rb : Nat} {p : Int} {S : PS} (P : Pl m h pb rb p S) (hs : S.rows = []) (hw : S.ws ≠ []) (hw1 : ∀ x, x ∈ S.ws → 1 ≤ x) {n : Int} (h0 : 0 ≤ n) (h1 : n < S.ws.length ∨ n = 0) {K : AV → AH → O} {Q : AV → AH → Prop}
    (a : ∀ v h2 S2, Next 1 m h m h2 pb rb p S S2 → S2.rows.length = 1 → W (K v h2) Q) : W (pCall (run T k) 224 [.ptr pb 0, .agg [.int .i64 1, .int .i64 n, .int .i64 0, .int .i64 0, .nils, .int .i64 0, .int .i64 0, .int .i64 0, .int .i64 0, .int .i64 0]] h K) Q := by
  refine W.call_ (planner_add_ok H.f224 H.f240 H.f255 H.f256 H.f257 H.f49 (by omega) P (by rw [hs]; simp) (Node.mk0 _ _ _ _ _ _ _ _ _)) fun v h' ⟨S', N', _, e⟩ => a v h' S' N' ?_
  have := e n _ rfl h0 (by have := List.length_pos_iff.2 hw; omega) hw1
  rw [this, hs]; rfl
theorem randomPlan_ok {T : Nat → Option AF} (H : HasQ T) {k : Nat} (hk : 1000040 ≤ k) {h : AH} {rb : Nat} {p : Int} {mw : Mem} {wx : AV} {ws : List Int} (r : Rd h rb p) (ok : Ok h) (sub : Sub mw h) (hr : mw rb = none) (hw : Ints mw wx ws) (hl : ws.length ≤ 1000) (hw0 : ws ≠ []) (hw1 : ∀ x, x ∈ ws → 1 ≤ x) (hp : 0 ≤ p ∧ p ≤ 100000) :
    W (run T k 226 [.ptr rb 0, wx] h) fun v h' => ∃ m rows B p', PlanOut h mw rb p v h' m rows B p' ∧ p' ≤ p + 1000 := by
  obtain ⟨k, rfl⟩ : ∃ j, k = j + 1 := ⟨k - 1, by omega⟩
  rw [spec_randomPlan_run T H.f226]
  refine W.fill (cs := [.ptr rb 0, wx, .nils, .nils, .int .i64 1, .int .i64 1, .int .i64 1]) ?_ ?_
  · have h2 := hw.2
    cases wx with
    | nils => rfl
    | sl _ _ _ _ => rfl
    | ro _ _ => rfl
    | _ => exact h2.elim
  simp only [cells_agg, new_eq]
  have P := Pl.start r ok sub hr hw hl 1 1 1
  have k0 : Ch [rb] h (h.new [.ptr rb 0, wx, .nils, .nils, .int .i64 1, .int .i64 1, .int .i64 1]) := Ch.new.more (by simp)
  refine W.lenInts hw ?_
  have N := Next.refl P
  refine pick_arm H.toHasP (by omega) N (by omega) fun n h2 N2 _ n0 n1 => W.fill rfl ?_
  refine first_node H.toHasP (by omega) N2.pl rfl hw0 hw1 n0 n1 fun v h3 S3 N3 e3 => ?_
  have N3' := N2.trans N3
  refine W.callI (N3.pl.pick H.f37 (by omega) (by omega)) fun n h4 ⟨P4, c4, _, q0, q1⟩ => ?_
  have N4 := N3'.keep P4 c4 fun x hx => by simp at hx; right; left; exact hx
  obtain ⟨j, rfl⟩ := Int.eq_ofNat_of_zero_le q0
  rw [wr (by omega) (by omega)]
  refine (randomPlan_loop H.toHasP (by omega) (j + 1) k _ (p + 1 + 1) _ h4 S3 _ (by omega) (by omega) (by omega) (by omega) (by omega) (by simp [PS.start]; omega) N4).mono fun v h5 ⟨m5, S5, p5, N5, e5, e6, e7, e8⟩ => ?_
  subst e5
  refine ⟨m5, _, _, p5, N5.out (by omega) (fun h => ?_) k0 (Nat.le_refl _), by omega⟩
  rw [h, e3] at e8; simp at e8
theorem linearPlan_loop {T : Nat → Option AF} (H : HasP T) {k : Nat} (hk : 1000020 ≤ k) {m0 : Mem} {h0 : AH} {pb rb : Nat} {S0 : PS} {wv : AV} : ∀ (d i1 : Nat) (n p : Int) (m : Mem) (h : AH) (S : PS) (c : Nat), n = d → d < i1 → d ≤ 100 → 0 ≤ p → p + 30 * d ≤ 1000000 → S0.rows.length + c + 2 * d ≤ 500 → Next c m0 h0 m h pb rb p S0 S →
    W (spec_linearPlan.L1 (run T k) k i1 (.ptr rb 0) wv (.ptr pb 0) n h) fun v h' => ∃ m' S' p', Next (c + 2 * d) m0 h0 m' h' pb rb p' S0 S' ∧ v = .tup [S'.px, wv] ∧ p ≤ p' ∧ p' ≤ p + 30 * d ∧ S.rows.length ≤ S'.rows.length := by
  intro d
  induction d with
  | zero =>
    intro i1 n p m h S c hn h1 h2 p0 p1 hc N
    obtain ⟨i1, rfl⟩ : ∃ j, i1 = j + 1 := ⟨i1 - 1, by omega⟩
    rw [spec_linearPlan.L1_succ]
    refine W.bif_ (fun c => ?_) fun c => ?_
    · have : 0 < n := by simpa using c
      omega
    · rw [spec_linearPlan.J4_eq]
      simp only [nil_at, fld_at, Nat.zero_add, ld_at N.pl.blk (o := 2) rfl]
      exact W.ret ⟨m, S, p, N, rfl, by omega, by omega, Nat.le_refl _⟩
  | succ d ih =>
    intro i1 n p m h S c hn h1 h2 p0 p1 hc N
    obtain ⟨i1, rfl⟩ : ∃ j, i1 = j + 1 := ⟨i1 - 1, by omega⟩
    rw [spec_linearPlan.L1_succ]
    refine W.bif_ (fun _ => ?_) fun cc => ?_
    · rw [spec_linearPlan.J2_eq]
      refine W.call_ (planner_node_ok H (by omega) N.pl (by have := N.less; omega) (by omega)) fun v h2 ⟨m2, S2, p2, N2, e1, e2⟩ => ?_
      have go : ∀ (p3 : Int) (h3 : AH) (S3 : PS), Next (c + 2) m0 h0 m2 h3 pb rb p3 S0 S3 → p2 ≤ p3 → p3 ≤ p2 + 2 → S.rows.length ≤ S3.rows.length → W (spec_linearPlan.J3 (run T k) k i1 (.ptr rb 0) wv (.ptr pb 0) n h3) fun v h' => ∃ m' S' p', Next (c + 2 * (d + 1)) m0 h0 m' h' pb rb p' S0 S' ∧ v = .tup [S'.px, wv] ∧ p ≤ p' ∧ p' ≤ p + 30 * ((d + 1 : Nat) : Int) ∧ S.rows.length ≤ S'.rows.length := by
        intro p3 h3 S3 N3 f1 f2 f3
        rw [spec_linearPlan.J3_eq, wr (by omega) (by omega)]
        refine (ih i1 (n - 1) p3 m2 h3 S3 _ (by omega) (by omega) (by omega) (by omega) (by omega) (by omega) N3).mono fun v h3 ⟨m3, S3, p3, N3, e3, e4, e5, e6⟩ => ⟨m3, S3, p3, ?_, e3, by omega, by omega, by omega⟩
        have e : c + 2 + 2 * d = c + 2 * (d + 1) := by omega
        rw [e] at N3
        exact N3
      have up : ∀ {h3 : AH} {p3 : Int} {S3 : PS} {c' : Nat}, c' ≤ 2 → Next (c + c') m0 h0 m2 h3 pb rb p3 S0 S3 → Next (c + 2) m0 h0 m2 h3 pb rb p3 S0 S3 := fun hc N => ⟨N.pl, N.ch, N.le, N.more, by have := N.less; omega, N.ws, N.wx, N.mw, N.old, N.fresh⟩
      refine W.callI (N2.pl.pick H.f37 (by omega) (by omega)) fun n2 h3 ⟨P3, c3, _, _, _⟩ => ?_
      have N3 := (N.trans N2).keep P3 c3 fun x hx => by simp at hx; right; left; exact hx
      refine W.bif_ (fun c4 => ?_) fun c4 => go _ h3 S2 (up (by omega) N3) (by omega) (by omega) N2.more
      simp only [nil_at, fld_at, Nat.zero_add, ld_at P3.blk (o := 2) rfl]
      refine W.len P3.rows.sl ?_
      refine W.callI (P3.pick H.f37 (by omega) (by omega)) fun n4 h4 ⟨P4, c4, _, _, _⟩ => ?_
      have N4 := N3.keep P4 c4 fun x hx => by simp at hx; right; left; exact hx
      refine W.fill rfl ?_
      refine W.call_ (planner_add_ok H.f224 H.f240 H.f255 H.f256 H.f257 H.f49 (by omega) P4 (by have := N4.less; omega) (Node.mk0 _ _ _ _ _ _ _ _ _)) fun v h' ⟨S', N', _, e⟩ => ?_
      have N5 := N4.trans N'
      exact go _ _ S' (up (c' := 2) (by omega) N5) (by omega) (by omega) (by have := N2.more; have := N'.more; omega)
    · have : n ≤ 0 := by simpa using cc
      omega
theorem linearPlan_ok {T : Nat → Option AF} (H : HasQ T) (H208 : T 208 = some spec_linearPlan.ir) {k : Nat} (hk : 1000040 ≤ k) {h : AH} {rb : Nat} {p : Int} (r : Rd h rb p) (ok : Ok h) (hp : 0 ≤ p ∧ p ≤ 10000) :
    W (run T k 208 [.ptr rb 0] h) fun v h' => ∃ mw m rows B p' px wx, v = .tup [px, wx] ∧ PlanOut h mw rb p px h' m rows B p' ∧ p' ≤ p + 1000 ∧ ∃ ws Bx, Own h' 1 wx (ws.map fun (n : Int) => [.int .i64 n]) Bx ∧ (∀ x, x ∈ ws → 1 ≤ x) ∧ ws ≠ [] ∧ ws.length ≤ 10 ∧ ∀ b, b ∈ Bx → h.next ≤ b ∧ m b = none ∧ b ∉ B ∧ b ≠ rb := by
  obtain ⟨k, rfl⟩ : ∃ j, k = j + 1 := ⟨k - 1, by omega⟩
  rw [spec_linearPlan_run T H208]
  have hrb : rb < h.next := by obtain ⟨_, _, _, e⟩ := r; exact ok _ _ e
  refine W.call_ (randomWidths_ok H.f210 H.f37 (by omega) r (by omega) (by omega) ok) fun wx h1 ⟨ws, Bx, p1, r1, e1, e2, ok1, ow, c1, fx, w1, w0, wl⟩ => ?_
  have s0 : Sub (fun _ => none) h1 := fun _ _ h => by cases h
  have hmr : (Mem.add (fun _ => none) h1 Bx) rb = none := Mem.add_none rfl fun hb => by have := fx _ hb; omega
  refine W.fill (cs := [.ptr rb 0, wx, .nils, .nils, .int .i64 3, .int .i64 0, .int .i64 0]) ?_ ?_
  · rcases ow.2 with ⟨rfl, _⟩ | ⟨_, _, rfl, _⟩
    · rfl
    · rfl
  simp only [cells_agg, new_eq]
  have P := Pl.start r1 ok1 (s0.add Bx) hmr ow.add (by omega) 3 0 0
  have k0 : Ch [rb] h (h1.new [.ptr rb 0, wx, .nils, .nils, .int .i64 3, .int .i64 0, .int .i64 0]) := c1.trans Ch.new (by simp)
  have hpb := c1.next
  refine W.lenInts ow.sl ?_
  have N := Next.refl P
  refine pick_arm H.toHasP (by omega) N (by omega) fun n h2 N2 _ n0 n1 => W.fill rfl ?_
  refine first_node H.toHasP (by omega) N2.pl rfl w0 w1 n0 n1 fun v h3 S3 N3 e3 => ?_
  have N3' := N2.trans N3
  refine W.callI (N3.pl.pick H.f37 (by omega) (by omega)) fun n h4 ⟨P4, c4, _, q0, q1⟩ => ?_
  have N4 := N3'.keep P4 c4 fun x hx => by simp at hx; right; left; exact hx
  obtain ⟨j, rfl⟩ := Int.eq_ofNat_of_zero_le q0
  rw [wr (by omega) (by omega)]
  refine (linearPlan_loop H.toHasP (by omega) (j + 1) k _ (p1 + 1 + 1) _ h4 S3 _ (by omega) (by omega) (by omega) (by omega) (by omega) (by simp [PS.start]; omega) N4).mono fun v h5 ⟨m5, S5, p5, N5, e5, e6, e7, e8⟩ => ?_
  have out := N5.out (p := p) (by omega) (fun h => by rw [h, e3] at e8; simp at e8) k0 hpb
  have hx : ∀ b, b ∈ Bx → Mem.add (fun _ => none) h1 Bx b = h1.blk b := fun b hb => by unfold Mem.add; rw [if_pos hb]
  have hbx : ∀ b, b ∈ Bx → ∃ cs, h1.blk b = some cs := fun b hb => by
    rcases ow.2 with ⟨_, _, rfl⟩ | ⟨c, rfl, _, e⟩
    · cases hb
    · simp at hb; subst hb; exact ⟨_, e⟩
  refine ⟨_, m5, _, _, p5, _, _, e5, out, by omega, ws, Bx, ?_, w1, w0, wl, fun b hb => ?_⟩
  · refine ⟨ow.1, ?_⟩
    rcases ow.2 with ⟨h1, h2, h3⟩ | ⟨c, hc, h2, e⟩
    · exact .inl ⟨h1, h2, h3⟩
    · refine .inr ⟨c, hc, h2, out.subw c _ ?_⟩
      rw [hx c (by rw [hc]; simp)]; exact e
  · obtain ⟨cs, hcs⟩ := hbx b hb
    refine ⟨fx b hb, ?_, fun hB => ?_, fun e => ?_⟩
    · refine N5.old b ?_
      have := ok1 _ _ hcs
      show b < h1.next + 1
      omega
    · have := (out.fresh b hB).2.2.1
      rw [hx b hb, hcs] at this; cases this
    · have := fx b hb; omega
end Go.AM
