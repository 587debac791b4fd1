/- FnIsPositive over the machine. -/
import Derived.Test.YtfcdnfbhoppefaaMS8
namespace Go.AM
set_option linter.unusedVariables false
set_option linter.unusedSimpArgs false
set_option maxRecDepth 100000
/- loop.example/dataflow/spec.positivePlan: number 211 -/
def spec_positivePlan.c3 : AC :=
 (.reg none [⟨0, (some 23), .move (.t 6), .any, none, []⟩,
   ⟨1, (some 24), .bin .sub (.t 23) (.c (.int .i64 (1))), .any, none, []⟩,
   ⟨2, (some 6), .move (.t 24), .any, none, []⟩])
def spec_positivePlan.c2 : AC :=
 (.seq (some [(5, .any), (6, (.int .i64))])
 (.block 1 (.reg none [⟨0, (some 25), .move (.t 5), .any, none, []⟩,
     ⟨1, (some 26), .call 225 [(.t 25), (.c (.bool true))], .any, none, []⟩]))
 (spec_positivePlan.c3))
def spec_positivePlan.c1 : AC :=
 (.seq (some [(5, .any), (6, (.int .i64))])
 (.seq none
  (.reg none [⟨0, (some 21), .move (.t 6), .any, none, []⟩,
     ⟨1, (some 22), .bin .gtr (.t 21) (.c (.int .i64 (0))), .any, none, []⟩])
  (.cond (.t 22)
  (.skip)
  (.exit 0)))
 (spec_positivePlan.c2))
def spec_positivePlan.c4 : AC :=
 (.seq none
 (.reg none [⟨0, (some 27), .move (.t 5), .any, none, []⟩,
    ⟨1, (some 28), .nilck (.t 27), .any, none, []⟩,
    ⟨2, (some 29), .fld 2 (.t 28), .any, none, []⟩,
    ⟨3, (some 30), .load none (.t 29), .any, none, []⟩,
    ⟨4, (some 4), .move (.t 30), .any, none, []⟩])
 (.ret))
def spec_positivePlan.ir : AF := ⟨[(0, .any), (1, .any)], 31, [.tmp 4],
 (.seq none
 (.reg none [⟨0, (some 4), .move (.c (.nils)), .any, none, []⟩])
 (.seq none
 (.reg none [⟨0, (some 7), .move (.t 0), .any, none, []⟩,
    ⟨1, (some 8), .move (.t 1), .any, none, []⟩,
    ⟨2, (some 9), .build [.nilp, .nils, .nils, .nils, .int .i64 0, .int .i64 0, .int .i64 0] [(0, 1, (.t 7)), (1, 1, (.t 8)), (4, 1, (.c (.int .i64 (2)))), (5, 1, (.c (.int .i64 (2))))], .any, none, []⟩,
    ⟨3, (some 10), .box (.t 9), .any, none, []⟩,
    ⟨4, (some 5), .move (.t 10), .any, none, []⟩])
 (.seq none
 (.reg none [⟨0, (some 11), .move (.t 5), .any, none, []⟩,
    ⟨1, (some 12), .move (.t 0), .any, none, []⟩,
    ⟨2, (some 13), .move (.t 1), .any, none, []⟩,
    ⟨3, (some 14), .len (.t 13), .any, none, []⟩,
    ⟨4, (some 15), .call 37 [(.t 12), (.t 14)], (.int .i64), none, []⟩,
    ⟨5, (some 16), .build [.int .i64 0, .int .i64 0, .int .i64 0, .int .i64 0, .nils, .int .i64 0, .int .i64 0, .int .i64 0, .int .i64 0, .int .i64 0] [(0, 1, (.c (.int .i64 (1)))), (1, 1, (.t 15))], .any, none, []⟩,
    ⟨6, (some 17), .call 224 [(.t 11), (.t 16)], .any, none, []⟩])
 (.seq (some [(5, .any)])
 (.seq none
  (.reg none [⟨0, (some 18), .move (.t 0), .any, none, []⟩,
     ⟨1, (some 19), .call 37 [(.t 18), (.c (.int .i64 (7)))], (.int .i64), none, []⟩,
     ⟨2, (some 20), .bin .add (.c (.int .i64 (1))) (.t 19), .any, none, []⟩,
     ⟨3, (some 6), .move (.t 20), .any, none, []⟩])
  (.block 0 (.loop [(5, .any), (6, (.int .i64))] spec_positivePlan.c1)))
 (spec_positivePlan.c4)))))⟩
noncomputable abbrev spec_positivePlan.K4 (call : Nat → List AV → AH → O) (k : Nat) : KX := seqK (some [(5, .any)]) (exec call k spec_positivePlan.c4 (fin [.tmp 4])) (fin [.tmp 4])
noncomputable abbrev spec_positivePlan.K1 (call : Nat → List AV → AH → O) (k : Nat) (i1 : Nat) : KX := loopK [(5, .any), (6, (.int .i64))] (loopE (exec call k spec_positivePlan.c1) [(5, .any), (6, (.int .i64))] i1 (blockK 0 (spec_positivePlan.K4 call k))) (blockK 0 (spec_positivePlan.K4 call k))
noncomputable abbrev spec_positivePlan.K3 (call : Nat → List AV → AH → O) (k : Nat) (i1 : Nat) : KX := seqK (some [(5, .any), (6, (.int .i64))]) (exec call k spec_positivePlan.c3 (spec_positivePlan.K1 call k i1)) (spec_positivePlan.K1 call k i1)
noncomputable abbrev spec_positivePlan.K2 (call : Nat → List AV → AH → O) (k : Nat) (i1 : Nat) : KX := seqK (some [(5, .any), (6, (.int .i64))]) (exec call k spec_positivePlan.c2 (spec_positivePlan.K1 call k i1)) (spec_positivePlan.K1 call k i1)
noncomputable abbrev spec_positivePlan.J4 (call : Nat → List AV → AH → O) (k : Nat) (x5 : AV) (h : AH) : O := exec call k spec_positivePlan.c4 (fin [.tmp 4]) [.junk, .junk, .junk, .junk, .junk, x5, .junk, .junk, .junk, .junk, .junk, .junk, .junk, .junk, .junk, .junk, .junk, .junk, .junk, .junk, .junk, .junk, .junk, .junk, .junk, .junk, .junk, .junk, .junk, .junk, .junk] h
noncomputable abbrev spec_positivePlan.J3 (call : Nat → List AV → AH → O) (k : Nat) (i1 : Nat) (x5 : AV) (x6 : Int) (h : AH) : O := exec call k spec_positivePlan.c3 (spec_positivePlan.K1 call k i1) [.junk, .junk, .junk, .junk, .junk, x5, .int .i64 x6, .junk, .junk, .junk, .junk, .junk, .junk, .junk, .junk, .junk, .junk, .junk, .junk, .junk, .junk, .junk, .junk, .junk, .junk, .junk, .junk, .junk, .junk, .junk, .junk] h
noncomputable abbrev spec_positivePlan.J2 (call : Nat → List AV → AH → O) (k : Nat) (i1 : Nat) (x5 : AV) (x6 : Int) (h : AH) : O := exec call k spec_positivePlan.c2 (spec_positivePlan.K1 call k i1) [.junk, .junk, .junk, .junk, .junk, x5, .int .i64 x6, .junk, .junk, .junk, .junk, .junk, .junk, .junk, .junk, .junk, .junk, .junk, .junk, .junk, .junk, .junk, .junk, .junk, .junk, .junk, .junk, .junk, .junk, .junk, .junk] h
noncomputable abbrev spec_positivePlan.L1 (call : Nat → List AV → AH → O) (k : Nat) (i1 : Nat) (x5 : AV) (x6 : Int) (h : AH) : O := loopE (exec call k spec_positivePlan.c1) [(5, .any), (6, (.int .i64))] i1 (blockK 0 (spec_positivePlan.K4 call k)) [.junk, .junk, .junk, .junk, .junk, x5, .int .i64 x6, .junk, .junk, .junk, .junk, .junk, .junk, .junk, .junk, .junk, .junk, .junk, .junk, .junk, .junk, .junk, .junk, .junk, .junk, .junk, .junk, .junk, .junk, .junk, .junk] h
theorem spec_positivePlan.J4_eq (call : Nat → List AV → AH → O) (k : Nat) (x5 : AV) (h : AH) : spec_positivePlan.J4 call k x5 h =
 pNil x5 fun v11 =>
 pFld 2 v11 fun v12 =>
 pLd h none v12 fun v13 =>
 some (v13, h) := by kernel_rfl
theorem spec_positivePlan.J3_eq (call : Nat → List AV → AH → O) (k : Nat) (i1 : Nat) (x5 : AV) (x6 : Int) (h : AH) : spec_positivePlan.J3 call k i1 x5 x6 h =
 spec_positivePlan.L1 call k i1 x5 (IntKind.i64.wrap (x6 - (1))) h := by kernel_rfl
theorem spec_positivePlan.J2_eq (call : Nat → List AV → AH → O) (k : Nat) (i1 : Nat) (x5 : AV) (x6 : Int) (h : AH) : spec_positivePlan.J2 call k i1 x5 x6 h =
 pCall call 225 [x5, .bool true] h fun v17 h16 =>
 spec_positivePlan.J3 call k i1 x5 x6 h16 := by kernel_rfl
theorem spec_positivePlan.L1_zero (call : Nat → List AV → AH → O) (k : Nat) (x5 : AV) (x6 : Int) (h : AH) : spec_positivePlan.L1 call k 0 x5 x6 h = none := rfl
theorem spec_positivePlan.L1_succ (call : Nat → List AV → AH → O) (k : Nat) (i1 : Nat) (x5 : AV) (x6 : Int) (h : AH) : spec_positivePlan.L1 call k (i1 + 1) x5 x6 h =
 bif (decide (x6 > (0))) then (spec_positivePlan.J2 call k i1 x5 x6 h)
 else (spec_positivePlan.J4 call k x5 h) := by kernel_rfl
theorem spec_positivePlan_run (T : Nat → Option AF) (hT : T 211 = some spec_positivePlan.ir) (k : Nat) (a0 : AV) (a1 : AV) (h : AH) : run T (k + 1) 211 [a0, a1] h =
 (fun (call : Nat → List AV → AH → O) => pFill [.nilp, .nils, .nils, .nils, .int .i64 0, .int .i64 0, .int .i64 0] [(0, 1, a0), (1, 1, a1), (4, 1, .int .i64 (2)), (5, 1, .int .i64 (2))] fun c1 =>
 pCells ((.agg c1)) fun c2 =>
 pNew h c2 fun b3 h4 =>
 pLen a1 fun m5 =>
 pCallI call .i64 37 [a0, .int .i64 (m5 : Int)] h4 fun n7 h6 =>
 pFill [.int .i64 0, .int .i64 0, .int .i64 0, .int .i64 0, .nils, .int .i64 0, .int .i64 0, .int .i64 0, .int .i64 0, .int .i64 0] [(0, 1, .int .i64 (1)), (1, 1, .int .i64 n7)] fun c8 =>
 pCall call 224 [(.ptr b3 0), (.agg c8)] h6 fun v10 h9 =>
 pCallI call .i64 37 [a0, .int .i64 (7)] h9 fun n15 h14 =>
 spec_positivePlan.L1 call k k ((.ptr b3 0)) (IntKind.i64.wrap ((1) + n15)) h14) (run T k) := by unfold run; rw [hT]; kernel_rfl
/- loop.example/dataflow/spec.DrawIsPositive: number 188 -/
def spec_DrawIsPositive.c1 : AC :=
 (.seq none
 (.reg none [⟨0, (some 16), .move (.t 3), .any, none, []⟩,
    ⟨1, (some 17), .call 209 [(.t 16)], .any, none, []⟩,
    ⟨2, (some 15), .move (.t 17), .any, none, []⟩,
    ⟨3, (some 18), .extract (.t 15) 0, .any, none, []⟩,
    ⟨4, (some 19), .extract (.t 15) 1, .any, none, []⟩,
    ⟨5, (some 4), .move (.t 18), .any, none, []⟩,
    ⟨6, (some 5), .move (.t 19), .any, none, []⟩])
 (.seq none
 (.reg none [⟨0, (some 20), .move (.t 4), .any, none, []⟩,
    ⟨1, (some 2), .move (.t 20), .any, none, []⟩])
 (.ret)))
def spec_DrawIsPositive.ir : AF := ⟨[(0, .any)], 21, [.tmp 2],
 (.seq none
 (.reg none [⟨0, (some 2), .move (.c (.nils)), .any, none, []⟩])
 (.seq none
 (.reg none [⟨0, (some 6), .move (.t 0), .any, none, []⟩,
    ⟨1, (some 7), .call 35 [(.t 6)], .any, none, []⟩,
    ⟨2, (some 3), .move (.t 7), .any, none, []⟩])
 (.seq (some [(3, .any)])
 (.seq none
  (.reg none [⟨0, (some 8), .move (.t 3), .any, none, []⟩,
     ⟨1, (some 9), .call 37 [(.t 8), (.c (.int .i64 (2)))], (.int .i64), none, []⟩,
     ⟨2, (some 10), .bin .eql (.t 9) (.c (.int .i64 (0))), .any, none, []⟩])
  (.cond (.t 10)
  (.seq none
   (.reg none [⟨0, (some 11), .move (.t 3), .any, none, []⟩,
      ⟨1, (some 12), .move (.t 3), .any, none, []⟩,
      ⟨2, (some 13), .call 210 [(.t 12)], .any, none, []⟩,
      ⟨3, (some 14), .call 211 [(.t 11), (.t 13)], .any, none, []⟩,
      ⟨4, (some 2), .move (.t 14), .any, none, []⟩])
   (.ret))
  (.skip)))
 (spec_DrawIsPositive.c1))))⟩
noncomputable abbrev spec_DrawIsPositive.K1 (call : Nat → List AV → AH → O) (k : Nat) : KX := seqK (some [(3, .any)]) (exec call k spec_DrawIsPositive.c1 (fin [.tmp 2])) (fin [.tmp 2])
noncomputable abbrev spec_DrawIsPositive.J1 (call : Nat → List AV → AH → O) (k : Nat) (x3 : AV) (h : AH) : O := exec call k spec_DrawIsPositive.c1 (fin [.tmp 2]) [.junk, .junk, .junk, x3, .junk, .junk, .junk, .junk, .junk, .junk, .junk, .junk, .junk, .junk, .junk, .junk, .junk, .junk, .junk, .junk, .junk] h
theorem spec_DrawIsPositive.J1_eq (call : Nat → List AV → AH → O) (k : Nat) (x3 : AV) (h : AH) : spec_DrawIsPositive.J1 call k x3 h =
 pCall call 209 [x3] h fun v4 h3 =>
 pExtract v4 0 fun v5 =>
 pExtract v4 1 fun v6 =>
 some (v5, h3) := by kernel_rfl
theorem spec_DrawIsPositive_run (T : Nat → Option AF) (hT : T 188 = some spec_DrawIsPositive.ir) (k : Nat) (a0 : AV) (h : AH) : run T (k + 1) 188 [a0] h =
 (fun (call : Nat → List AV → AH → O) => pCall call 35 [a0] h fun v2 h1 =>
 pCallI call .i64 37 [v2, .int .i64 (2)] h1 fun n8 h7 =>
 bif (n8 == (0)) then (pCall call 210 [v2] h7 fun v10 h9 =>
 pCall call 211 [v2, v10] h9 fun v12 h11 =>
 some (v12, h11))
 else (spec_DrawIsPositive.J1 call k v2 h7)) (run T k) := by unfold run; rw [hT]; kernel_rfl
/- loop.example/dataflow/impl.IsPositive: number 189 -/
def impl_IsPositive.c3 : AC :=
 (.cond (.t 13)
 (.skip)
 (.seq none
  (.reg none [⟨0, (some 2), .move (.c (.bool false)), .any, none, []⟩])
  (.ret)))
def impl_IsPositive.c4 : AC :=
 (.reg none [⟨0, (some 19), .bin .add (.t 7) (.c (.int .i64 (1))), .any, none, []⟩,
   ⟨1, (some 7), .move (.t 19), .any, none, []⟩])
def impl_IsPositive.c2 : AC :=
 (.seq (some [(5, .any), (6, (.int .i64)), (7, (.int .i64))])
 (.block 1 (.seq none
   (.reg none [⟨0, (some 9), .idx 10 (.t 5) (.t 7), .any, none, []⟩,
      ⟨1, (some 10), .load (some 10) (.t 9), .any, none, []⟩,
      ⟨2, (some 4), .new [.int .i64 0, .int .i64 0, .int .i64 0, .int .i64 0, .nils, .int .i64 0, .int .i64 0, .int .i64 0, .int .i64 0, .int .i64 0], .any, none, []⟩,
      ⟨3, none, .store 10 (.t 4) (.t 10), .any, none, []⟩])
   (.seq none
   (.reg none [⟨0, (some 11), .fld 0 (.t 4), .any, none, []⟩,
      ⟨1, (some 12), .load none (.t 11), (.int .i64), none, []⟩])
   (.block 2 (.seq (some [(5, .any), (6, (.int .i64)), (7, (.int .i64)), (13, .bool)])
    (.seq none
     (.reg none [⟨0, (some 14), .bin .eql (.t 12) (.c (.int .i64 (1))), .any, none, []⟩,
        ⟨1, (some 13), .move (.t 14), .any, none, []⟩])
     (.cond (.t 13)
     (.skip)
     (.seq none
      (.reg none [⟨0, (some 15), .bin .eql (.t 12) (.c (.int .i64 (2))), .any, none, []⟩,
         ⟨1, (some 13), .move (.t 15), .any, none, []⟩])
      (.cond (.t 13)
      (.skip)
      (.seq none
       (.reg none [⟨0, (some 16), .bin .eql (.t 12) (.c (.int .i64 (3))), .any, none, []⟩,
          ⟨1, (some 13), .move (.t 16), .any, none, []⟩])
       (.cond (.t 13)
       (.skip)
       (.seq none
        (.reg none [⟨0, (some 17), .bin .eql (.t 12) (.c (.int .i64 (4))), .any, none, []⟩,
           ⟨1, (some 13), .move (.t 17), .any, none, []⟩])
        (.cond (.t 13)
        (.skip)
        (.reg none [⟨0, (some 18), .bin .eql (.t 12) (.c (.int .i64 (6))), .any, none, []⟩,
           ⟨1, (some 13), .move (.t 18), .any, none, []⟩])))))))))
    (impl_IsPositive.c3))))))
 (impl_IsPositive.c4))
def impl_IsPositive.c1 : AC :=
 (.seq none
 (.reg none [⟨0, (some 8), .bin .lss (.t 7) (.t 6), .any, none, []⟩])
 (.seq (some [(5, .any), (6, (.int .i64)), (7, (.int .i64))])
 (.cond (.t 8)
  (.skip)
  (.exit 0))
 (impl_IsPositive.c2)))
def impl_IsPositive.c5 : AC :=
 (.seq none
 (.reg none [⟨0, (some 2), .move (.c (.bool true)), .any, none, []⟩])
 (.ret))
def impl_IsPositive.ir : AF := ⟨[(0, .any)], 20, [.tmp 2],
 (.seq none
 (.reg none [⟨0, (some 2), .move (.c (.bool false)), .any, none, []⟩])
 (.seq (some [])
 (.seq none
  (.reg none [⟨0, (some 5), .move (.t 0), .any, none, []⟩,
     ⟨1, (some 6), .len (.t 5), .any, none, []⟩,
     ⟨2, (some 7), .move (.c (.int .i64 (0))), .any, none, []⟩])
  (.block 0 (.loop [(5, .any), (6, (.int .i64)), (7, (.int .i64))] impl_IsPositive.c1)))
 (impl_IsPositive.c5)))⟩
noncomputable abbrev impl_IsPositive.K5 (call : Nat → List AV → AH → O) (k : Nat) : KX := seqK (some []) (exec call k impl_IsPositive.c5 (fin [.tmp 2])) (fin [.tmp 2])
noncomputable abbrev impl_IsPositive.K1 (call : Nat → List AV → AH → O) (k : Nat) (i1 : Nat) : KX := loopK [(5, .any), (6, (.int .i64)), (7, (.int .i64))] (loopE (exec call k impl_IsPositive.c1) [(5, .any), (6, (.int .i64)), (7, (.int .i64))] i1 (blockK 0 (impl_IsPositive.K5 call k))) (blockK 0 (impl_IsPositive.K5 call k))
noncomputable abbrev impl_IsPositive.K4 (call : Nat → List AV → AH → O) (k : Nat) (i1 : Nat) : KX := seqK (some [(5, .any), (6, (.int .i64)), (7, (.int .i64))]) (exec call k impl_IsPositive.c4 (impl_IsPositive.K1 call k i1)) (impl_IsPositive.K1 call k i1)
noncomputable abbrev impl_IsPositive.K3 (call : Nat → List AV → AH → O) (k : Nat) (i1 : Nat) : KX := seqK (some [(5, .any), (6, (.int .i64)), (7, (.int .i64)), (13, .bool)]) (exec call k impl_IsPositive.c3 (blockK 2 (blockK 1 (impl_IsPositive.K4 call k i1)))) (blockK 2 (blockK 1 (impl_IsPositive.K4 call k i1)))
noncomputable abbrev impl_IsPositive.K2 (call : Nat → List AV → AH → O) (k : Nat) (i1 : Nat) : KX := seqK (some [(5, .any), (6, (.int .i64)), (7, (.int .i64))]) (exec call k impl_IsPositive.c2 (impl_IsPositive.K1 call k i1)) (impl_IsPositive.K1 call k i1)
noncomputable abbrev impl_IsPositive.J5 (call : Nat → List AV → AH → O) (k : Nat) (h : AH) : O := exec call k impl_IsPositive.c5 (fin [.tmp 2]) [.junk, .junk, .junk, .junk, .junk, .junk, .junk, .junk, .junk, .junk, .junk, .junk, .junk, .junk, .junk, .junk, .junk, .junk, .junk, .junk] h
noncomputable abbrev impl_IsPositive.J4 (call : Nat → List AV → AH → O) (k : Nat) (i1 : Nat) (x5 : AV) (x6 : Int) (x7 : Int) (h : AH) : O := exec call k impl_IsPositive.c4 (impl_IsPositive.K1 call k i1) [.junk, .junk, .junk, .junk, .junk, x5, .int .i64 x6, .int .i64 x7, .junk, .junk, .junk, .junk, .junk, .junk, .junk, .junk, .junk, .junk, .junk, .junk] h
noncomputable abbrev impl_IsPositive.J3 (call : Nat → List AV → AH → O) (k : Nat) (i1 : Nat) (x5 : AV) (x6 : Int) (x7 : Int) (x13 : Bool) (h : AH) : O := exec call k impl_IsPositive.c3 (blockK 2 (blockK 1 (impl_IsPositive.K4 call k i1))) [.junk, .junk, .junk, .junk, .junk, x5, .int .i64 x6, .int .i64 x7, .junk, .junk, .junk, .junk, .junk, .bool x13, .junk, .junk, .junk, .junk, .junk, .junk] h
noncomputable abbrev impl_IsPositive.J2 (call : Nat → List AV → AH → O) (k : Nat) (i1 : Nat) (x5 : AV) (x6 : Int) (x7 : Int) (h : AH) : O := exec call k impl_IsPositive.c2 (impl_IsPositive.K1 call k i1) [.junk, .junk, .junk, .junk, .junk, x5, .int .i64 x6, .int .i64 x7, .junk, .junk, .junk, .junk, .junk, .junk, .junk, .junk, .junk, .junk, .junk, .junk] h
noncomputable abbrev impl_IsPositive.L1 (call : Nat → List AV → AH → O) (k : Nat) (i1 : Nat) (x5 : AV) (x6 : Int) (x7 : Int) (h : AH) : O := loopE (exec call k impl_IsPositive.c1) [(5, .any), (6, (.int .i64)), (7, (.int .i64))] i1 (blockK 0 (impl_IsPositive.K5 call k)) [.junk, .junk, .junk, .junk, .junk, x5, .int .i64 x6, .int .i64 x7, .junk, .junk, .junk, .junk, .junk, .junk, .junk, .junk, .junk, .junk, .junk, .junk] h
theorem impl_IsPositive.J5_eq (call : Nat → List AV → AH → O) (k : Nat) (h : AH) : impl_IsPositive.J5 call k h =
 some (.bool true, h) := by kernel_rfl
theorem impl_IsPositive.J4_eq (call : Nat → List AV → AH → O) (k : Nat) (i1 : Nat) (x5 : AV) (x6 : Int) (x7 : Int) (h : AH) : impl_IsPositive.J4 call k i1 x5 x6 x7 h =
 impl_IsPositive.L1 call k i1 x5 x6 (IntKind.i64.wrap (x7 + (1))) h := by kernel_rfl
theorem impl_IsPositive.J3_eq (call : Nat → List AV → AH → O) (k : Nat) (i1 : Nat) (x5 : AV) (x6 : Int) (x7 : Int) (x13 : Bool) (h : AH) : impl_IsPositive.J3 call k i1 x5 x6 x7 x13 h =
 bif x13 then (impl_IsPositive.J4 call k i1 x5 x6 x7 h)
 else (some (.bool false, h)) := by kernel_rfl
theorem impl_IsPositive.J2_eq (call : Nat → List AV → AH → O) (k : Nat) (i1 : Nat) (x5 : AV) (x6 : Int) (x7 : Int) (h : AH) : impl_IsPositive.J2 call k i1 x5 x6 x7 h =
 pIdx 10 x5 x7 fun v2 =>
 pLd h (some 10) v2 fun v3 =>
 pNew h [.int .i64 0, .int .i64 0, .int .i64 0, .int .i64 0, .nils, .int .i64 0, .int .i64 0, .int .i64 0, .int .i64 0, .int .i64 0] fun b4 h5 =>
 pSt h5 10 ((.ptr b4 0)) v3 fun h6 =>
 pFld 0 ((.ptr b4 0)) fun v7 =>
 pLd h6 none v7 fun v8 =>
 asK .i64 v8 fun n9 =>
 bif (n9 == (1)) then (impl_IsPositive.J3 call k i1 x5 x6 x7 (n9 == (1)) h6)
 else (bif (n9 == (2)) then (impl_IsPositive.J3 call k i1 x5 x6 x7 (n9 == (2)) h6)
 else (bif (n9 == (3)) then (impl_IsPositive.J3 call k i1 x5 x6 x7 (n9 == (3)) h6)
 else (bif (n9 == (4)) then (impl_IsPositive.J3 call k i1 x5 x6 x7 (n9 == (4)) h6)
 else (impl_IsPositive.J3 call k i1 x5 x6 x7 (n9 == (6)) h6)))) := by kernel_rfl
theorem impl_IsPositive.L1_zero (call : Nat → List AV → AH → O) (k : Nat) (x5 : AV) (x6 : Int) (x7 : Int) (h : AH) : impl_IsPositive.L1 call k 0 x5 x6 x7 h = none := rfl
theorem impl_IsPositive.L1_succ (call : Nat → List AV → AH → O) (k : Nat) (i1 : Nat) (x5 : AV) (x6 : Int) (x7 : Int) (h : AH) : impl_IsPositive.L1 call k (i1 + 1) x5 x6 x7 h =
 bif (decide (x7 < x6)) then (impl_IsPositive.J2 call k i1 x5 x6 x7 h)
 else (impl_IsPositive.J5 call k h) := by kernel_rfl
theorem impl_IsPositive_run (T : Nat → Option AF) (hT : T 189 = some impl_IsPositive.ir) (k : Nat) (a0 : AV) (h : AH) : run T (k + 1) 189 [a0] h =
 (fun (call : Nat → List AV → AH → O) => pLen a0 fun m1 =>
 impl_IsPositive.L1 call k k a0 (m1 : Int) (0) h) (run T k) := by unfold run; rw [hT]; kernel_rfl
/- loop.example/dataflow/spec.IsPositive: number 190 -/
def spec_IsPositive.c3 : AC :=
 (.reg none [⟨0, (some 8), .move (.t 3), .any, none, []⟩,
   ⟨1, (some 9), .bin .add (.t 8) (.c (.int .i64 (1))), .any, none, []⟩,
   ⟨2, (some 3), .move (.t 9), .any, none, []⟩])
def spec_IsPositive.c2 : AC :=
 (.seq (some [(0, .any), (3, (.int .i64))])
 (.block 1 (.seq none
   (.reg none [⟨0, (some 10), .move (.t 0), .any, none, []⟩,
      ⟨1, (some 11), .move (.t 3), .any, none, []⟩,
      ⟨2, (some 12), .idx 10 (.t 10) (.t 11), .any, none, []⟩,
      ⟨3, (some 13), .fld 0 (.t 12), .any, none, []⟩,
      ⟨4, (some 14), .load none (.t 13), (.int .i64), none, []⟩,
      ⟨5, (some 15), .call 49 [(.t 14), (.c (.int .i64 (1))), (.c (.int .i64 (6)))], .bool, none, []⟩,
      ⟨6, (some 16), .not (.t 15), .any, none, []⟩,
      ⟨7, (some 17), .move (.t 16), .any, none, []⟩,
      ⟨8, (some 18), .move (.t 0), .any, (some (17, false)), []⟩,
      ⟨9, (some 19), .move (.t 3), .any, (some (17, false)), []⟩,
      ⟨10, (some 20), .idx 10 (.t 18) (.t 19), .any, (some (17, false)), []⟩,
      ⟨11, (some 21), .fld 0 (.t 20), .any, (some (17, false)), []⟩,
      ⟨12, (some 22), .load none (.t 21), (.int .i64), (some (17, false)), []⟩,
      ⟨13, (some 23), .bin .eql (.t 22) (.c (.int .i64 (5))), .any, (some (17, false)), []⟩,
      ⟨14, (some 24), .pick (.t 17) (.c (.bool true)) (.t 23), .any, none, []⟩])
   (.cond (.t 24)
   (.seq none
    (.reg none [⟨0, (some 2), .move (.c (.bool false)), .any, none, []⟩])
    (.ret))
   (.skip))))
 (spec_IsPositive.c3))
def spec_IsPositive.c1 : AC :=
 (.seq (some [(0, .any), (3, (.int .i64))])
 (.seq none
  (.reg none [⟨0, (some 4), .move (.t 3), .any, none, []⟩,
     ⟨1, (some 5), .move (.t 0), .any, none, []⟩,
     ⟨2, (some 6), .len (.t 5), .any, none, []⟩,
     ⟨3, (some 7), .bin .lss (.t 4) (.t 6), .any, none, []⟩])
  (.cond (.t 7)
  (.skip)
  (.exit 0)))
 (spec_IsPositive.c2))
def spec_IsPositive.c4 : AC :=
 (.seq none
 (.reg none [⟨0, (some 2), .move (.c (.bool true)), .any, none, []⟩])
 (.ret))
def spec_IsPositive.ir : AF := ⟨[(0, .any)], 25, [.tmp 2],
 (.seq none
 (.reg none [⟨0, (some 2), .move (.c (.bool false)), .any, none, []⟩])
 (.seq (some [])
 (.seq none
  (.reg none [⟨0, (some 3), .move (.c (.int .i64 (0))), .any, none, []⟩])
  (.block 0 (.loop [(0, .any), (3, (.int .i64))] spec_IsPositive.c1)))
 (spec_IsPositive.c4)))⟩
noncomputable abbrev spec_IsPositive.K4 (call : Nat → List AV → AH → O) (k : Nat) : KX := seqK (some []) (exec call k spec_IsPositive.c4 (fin [.tmp 2])) (fin [.tmp 2])
noncomputable abbrev spec_IsPositive.K1 (call : Nat → List AV → AH → O) (k : Nat) (i1 : Nat) : KX := loopK [(0, .any), (3, (.int .i64))] (loopE (exec call k spec_IsPositive.c1) [(0, .any), (3, (.int .i64))] i1 (blockK 0 (spec_IsPositive.K4 call k))) (blockK 0 (spec_IsPositive.K4 call k))
noncomputable abbrev spec_IsPositive.K3 (call : Nat → List AV → AH → O) (k : Nat) (i1 : Nat) : KX := seqK (some [(0, .any), (3, (.int .i64))]) (exec call k spec_IsPositive.c3 (spec_IsPositive.K1 call k i1)) (spec_IsPositive.K1 call k i1)
noncomputable abbrev spec_IsPositive.K2 (call : Nat → List AV → AH → O) (k : Nat) (i1 : Nat) : KX := seqK (some [(0, .any), (3, (.int .i64))]) (exec call k spec_IsPositive.c2 (spec_IsPositive.K1 call k i1)) (spec_IsPositive.K1 call k i1)
noncomputable abbrev spec_IsPositive.J4 (call : Nat → List AV → AH → O) (k : Nat) (h : AH) : O := exec call k spec_IsPositive.c4 (fin [.tmp 2]) [.junk, .junk, .junk, .junk, .junk, .junk, .junk, .junk, .junk, .junk, .junk, .junk, .junk, .junk, .junk, .junk, .junk, .junk, .junk, .junk, .junk, .junk, .junk, .junk, .junk] h
noncomputable abbrev spec_IsPositive.J3 (call : Nat → List AV → AH → O) (k : Nat) (i1 : Nat) (x0 : AV) (x3 : Int) (h : AH) : O := exec call k spec_IsPositive.c3 (spec_IsPositive.K1 call k i1) [x0, .junk, .junk, .int .i64 x3, .junk, .junk, .junk, .junk, .junk, .junk, .junk, .junk, .junk, .junk, .junk, .junk, .junk, .junk, .junk, .junk, .junk, .junk, .junk, .junk, .junk] h
noncomputable abbrev spec_IsPositive.J2 (call : Nat → List AV → AH → O) (k : Nat) (i1 : Nat) (x0 : AV) (x3 : Int) (h : AH) : O := exec call k spec_IsPositive.c2 (spec_IsPositive.K1 call k i1) [x0, .junk, .junk, .int .i64 x3, .junk, .junk, .junk, .junk, .junk, .junk, .junk, .junk, .junk, .junk, .junk, .junk, .junk, .junk, .junk, .junk, .junk, .junk, .junk, .junk, .junk] h
noncomputable abbrev spec_IsPositive.L1 (call : Nat → List AV → AH → O) (k : Nat) (i1 : Nat) (x0 : AV) (x3 : Int) (h : AH) : O := loopE (exec call k spec_IsPositive.c1) [(0, .any), (3, (.int .i64))] i1 (blockK 0 (spec_IsPositive.K4 call k)) [x0, .junk, .junk, .int .i64 x3, .junk, .junk, .junk, .junk, .junk, .junk, .junk, .junk, .junk, .junk, .junk, .junk, .junk, .junk, .junk, .junk, .junk, .junk, .junk, .junk, .junk] h
theorem spec_IsPositive.J4_eq (call : Nat → List AV → AH → O) (k : Nat) (h : AH) : spec_IsPositive.J4 call k h =
 some (.bool true, h) := by kernel_rfl
theorem spec_IsPositive.J3_eq (call : Nat → List AV → AH → O) (k : Nat) (i1 : Nat) (x0 : AV) (x3 : Int) (h : AH) : spec_IsPositive.J3 call k i1 x0 x3 h =
 spec_IsPositive.L1 call k i1 x0 (IntKind.i64.wrap (x3 + (1))) h := by kernel_rfl
theorem spec_IsPositive.J2_eq (call : Nat → List AV → AH → O) (k : Nat) (i1 : Nat) (x0 : AV) (x3 : Int) (h : AH) : spec_IsPositive.J2 call k i1 x0 x3 h =
 pIdx 10 x0 x3 fun v1 =>
 pFld 0 v1 fun v2 =>
 pLd h none v2 fun v3 =>
 asK .i64 v3 fun n4 =>
 pCallB call 49 [.int .i64 n4, .int .i64 (1), .int .i64 (6)] h fun b6 h5 =>
 bif (!b6) then (some (.bool false, h5))
 else (pIdx 10 x0 x3 fun v7 =>
 pFld 0 v7 fun v8 =>
 pLd h5 none v8 fun v9 =>
 asK .i64 v9 fun n10 =>
 bif (n10 == (5)) then (some (.bool false, h5))
 else (spec_IsPositive.J3 call k i1 x0 x3 h5)) := by kernel_rfl
theorem spec_IsPositive.L1_zero (call : Nat → List AV → AH → O) (k : Nat) (x0 : AV) (x3 : Int) (h : AH) : spec_IsPositive.L1 call k 0 x0 x3 h = none := rfl
theorem spec_IsPositive.L1_succ (call : Nat → List AV → AH → O) (k : Nat) (i1 : Nat) (x0 : AV) (x3 : Int) (h : AH) : spec_IsPositive.L1 call k (i1 + 1) x0 x3 h =
 pLen x0 fun m11 =>
 bif (decide (x3 < (m11 : Int))) then (spec_IsPositive.J2 call k i1 x0 x3 h)
 else (spec_IsPositive.J4 call k h) := by kernel_rfl
theorem spec_IsPositive_run (T : Nat → Option AF) (hT : T 190 = some spec_IsPositive.ir) (k : Nat) (a0 : AV) (h : AH) : run T (k + 1) 190 [a0] h =
 (fun (call : Nat → List AV → AH → O) => spec_IsPositive.L1 call k k a0 (0) h) (run T k) := by unfold run; rw [hT]; kernel_rfl
/- loop.example/dataflow/laws.FnIsPositive: number 269 -/
def laws_FnIsPositive.c5 : AC :=
 (.reg none [⟨0, (some 23), .move (.t 7), .any, none, []⟩,
   ⟨1, (some 24), .bin .add (.t 23) (.c (.int .i64 (1))), .any, none, []⟩,
   ⟨2, (some 7), .move (.t 24), .any, none, []⟩])
def laws_FnIsPositive.c4 : AC :=
 (.seq (some [(3, .any), (4, .bool), (5, .any), (6, (.int .i64)), (7, (.int .i64))])
 (.block 1 (.seq none
   (.reg none [⟨0, (some 25), .move (.t 5), .any, none, []⟩,
      ⟨1, (some 26), .move (.t 25), .any, none, []⟩,
      ⟨2, (some 27), .move (.t 3), .any, (some (26, true)), []⟩,
      ⟨3, (some 28), .move (.t 7), .any, (some (26, true)), []⟩,
      ⟨4, (some 29), .move (.t 7), .any, (some (26, true)), []⟩,
      ⟨5, (some 30), .bin .add (.t 29) (.c (.int .i64 (1))), .any, (some (26, true)), []⟩,
      ⟨6, (some 31), .slice 10 (.t 27) (some (.t 28)) (some (.t 30)), .any, (some (26, true)), []⟩,
      ⟨7, (some 32), .call 189 [(.t 31)], .bool, (some (26, true)), []⟩,
      ⟨8, (some 33), .pick (.t 26) (.t 32) (.c (.bool false)), .any, none, []⟩,
      ⟨9, (some 5), .move (.t 33), .any, none, []⟩])
   (.seq none
   (.reg none [⟨0, (some 34), .move (.t 3), .any, none, []⟩,
      ⟨1, (some 35), .move (.t 7), .any, none, []⟩,
      ⟨2, (some 36), .idx 10 (.t 34) (.t 35), .any, none, []⟩,
      ⟨3, (some 37), .fld 0 (.t 36), .any, none, []⟩,
      ⟨4, (some 38), .load none (.t 37), (.int .i64), none, []⟩,
      ⟨5, (some 39), .bin .eql (.t 38) (.c (.int .i64 (6))), .any, none, []⟩])
   (.cond (.t 39)
   (.reg none [⟨0, (some 40), .move (.t 6), .any, none, []⟩,
      ⟨1, (some 41), .bin .add (.t 40) (.c (.int .i64 (1))), .any, none, []⟩,
      ⟨2, (some 6), .move (.t 41), .any, none, []⟩])
   (.skip)))))
 (laws_FnIsPositive.c5))
def laws_FnIsPositive.c3 : AC :=
 (.seq (some [(3, .any), (4, .bool), (5, .any), (6, (.int .i64)), (7, (.int .i64))])
 (.seq none
  (.reg none [⟨0, (some 19), .move (.t 7), .any, none, []⟩,
     ⟨1, (some 20), .move (.t 3), .any, none, []⟩,
     ⟨2, (some 21), .len (.t 20), .any, none, []⟩,
     ⟨3, (some 22), .bin .lss (.t 19) (.t 21), .any, none, []⟩])
  (.cond (.t 22)
  (.skip)
  (.exit 0)))
 (laws_FnIsPositive.c4))
def laws_FnIsPositive.c6 : AC :=
 (.seq none
 (.reg none [⟨0, (some 42), .move (.t 4), .any, none, []⟩,
    ⟨1, (some 43), .move (.t 5), .any, none, []⟩,
    ⟨2, (some 44), .eqb false (.t 42) (.t 43), .any, none, []⟩,
    ⟨3, (some 45), .move (.t 44), .any, none, []⟩,
    ⟨4, (some 46), .move (.t 4), .any, (some (45, true)), []⟩,
    ⟨5, (some 47), .not (.t 46), .any, (some (45, true)), []⟩,
    ⟨6, (some 48), .move (.t 47), .any, (some (45, true)), []⟩,
    ⟨7, (some 49), .move (.t 6), .any, (some (48, false)), []⟩,
    ⟨8, (some 50), .bin .gtr (.t 49) (.c (.int .i64 (0))), .any, (some (48, false)), []⟩,
    ⟨9, (some 51), .pick (.t 48) (.c (.bool true)) (.t 50), .any, (some (45, true)), []⟩,
    ⟨10, (some 52), .move (.t 51), .any, (some (45, true)), []⟩,
    ⟨11, (some 53), .move (.t 3), .any, (some (52, false)), []⟩,
    ⟨12, (some 54), .call 186 [(.t 53)], .bool, (some (52, false)), []⟩,
    ⟨13, (some 55), .pick (.t 52) (.c (.bool true)) (.t 54), .any, (some (45, true)), []⟩,
    ⟨14, (some 56), .pick (.t 45) (.t 55) (.c (.bool false)), .any, none, []⟩,
    ⟨15, (some 2), .move (.t 56), .any, none, []⟩])
 (.ret))
def laws_FnIsPositive.c2 : AC :=
 (.seq none
 (.reg none [⟨0, (some 5), .move (.c (.bool true)), .any, none, []⟩])
 (.seq none
 (.reg none [⟨0, (some 6), .move (.c (.int .i64 (0))), .any, none, []⟩])
 (.seq (some [(3, .any), (4, .bool), (5, .any), (6, (.int .i64))])
 (.seq none
  (.reg none [⟨0, (some 7), .move (.c (.int .i64 (0))), .any, none, []⟩])
  (.block 0 (.loop [(3, .any), (4, .bool), (5, .any), (6, (.int .i64)), (7, (.int .i64))] laws_FnIsPositive.c3)))
 (laws_FnIsPositive.c6))))
def laws_FnIsPositive.c1 : AC :=
 (.seq none
 (.reg none [⟨0, (some 11), .move (.t 0), .any, none, []⟩,
    ⟨1, (some 12), .call 188 [(.t 11)], .any, none, []⟩,
    ⟨2, (some 3), .move (.t 12), .any, none, []⟩])
 (.seq none
 (.reg none [⟨0, (some 13), .move (.t 3), .any, none, []⟩,
    ⟨1, (some 14), .call 189 [(.t 13)], .bool, none, []⟩,
    ⟨2, (some 4), .move (.t 14), .any, none, []⟩])
 (.seq (some [(3, .any), (4, .bool)])
 (.seq none
  (.reg none [⟨0, (some 15), .move (.t 4), .any, none, []⟩,
     ⟨1, (some 16), .move (.t 3), .any, none, []⟩,
     ⟨2, (some 17), .call 190 [(.t 16)], .bool, none, []⟩,
     ⟨3, (some 18), .eqb true (.t 15) (.t 17), .any, none, []⟩])
  (.cond (.t 18)
  (.seq none
   (.reg none [⟨0, (some 2), .move (.c (.bool false)), .any, none, []⟩])
   (.ret))
  (.skip)))
 (laws_FnIsPositive.c2))))
def laws_FnIsPositive.ir : AF := ⟨[(0, .any)], 57, [.tmp 2],
 (.seq none
 (.reg none [⟨0, (some 2), .move (.c (.bool false)), .any, none, []⟩])
 (.seq (some [(0, .any)])
 (.seq none
  (.reg none [⟨0, (some 8), .move (.t 0), .any, none, []⟩,
     ⟨1, (some 9), .len (.t 8), .any, none, []⟩,
     ⟨2, (some 10), .bin .gtr (.t 9) (.c (.int .i64 (1048576))), .any, none, []⟩])
  (.cond (.t 10)
  (.seq none
   (.reg none [⟨0, (some 2), .move (.c (.bool true)), .any, none, []⟩])
   (.ret))
  (.skip)))
 (laws_FnIsPositive.c1)))⟩
noncomputable abbrev laws_FnIsPositive.K6 (call : Nat → List AV → AH → O) (k : Nat) : KX := seqK (some [(3, .any), (4, .bool), (5, .any), (6, (.int .i64))]) (exec call k laws_FnIsPositive.c6 (fin [.tmp 2])) (fin [.tmp 2])
noncomputable abbrev laws_FnIsPositive.K3 (call : Nat → List AV → AH → O) (k : Nat) (i1 : Nat) : KX := loopK [(3, .any), (4, .bool), (5, .any), (6, (.int .i64)), (7, (.int .i64))] (loopE (exec call k laws_FnIsPositive.c3) [(3, .any), (4, .bool), (5, .any), (6, (.int .i64)), (7, (.int .i64))] i1 (blockK 0 (laws_FnIsPositive.K6 call k))) (blockK 0 (laws_FnIsPositive.K6 call k))
noncomputable abbrev laws_FnIsPositive.K5 (call : Nat → List AV → AH → O) (k : Nat) (i1 : Nat) : KX := seqK (some [(3, .any), (4, .bool), (5, .any), (6, (.int .i64)), (7, (.int .i64))]) (exec call k laws_FnIsPositive.c5 (laws_FnIsPositive.K3 call k i1)) (laws_FnIsPositive.K3 call k i1)
noncomputable abbrev laws_FnIsPositive.K4 (call : Nat → List AV → AH → O) (k : Nat) (i1 : Nat) : KX := seqK (some [(3, .any), (4, .bool), (5, .any), (6, (.int .i64)), (7, (.int .i64))]) (exec call k laws_FnIsPositive.c4 (laws_FnIsPositive.K3 call k i1)) (laws_FnIsPositive.K3 call k i1)
noncomputable abbrev laws_FnIsPositive.K2 (call : Nat → List AV → AH → O) (k : Nat) : KX := seqK (some [(3, .any), (4, .bool)]) (exec call k laws_FnIsPositive.c2 (fin [.tmp 2])) (fin [.tmp 2])
noncomputable abbrev laws_FnIsPositive.K1 (call : Nat → List AV → AH → O) (k : Nat) : KX := seqK (some [(0, .any)]) (exec call k laws_FnIsPositive.c1 (fin [.tmp 2])) (fin [.tmp 2])
noncomputable abbrev laws_FnIsPositive.J6 (call : Nat → List AV → AH → O) (k : Nat) (x3 : AV) (x4 : Bool) (x5 : AV) (x6 : Int) (h : AH) : O := exec call k laws_FnIsPositive.c6 (fin [.tmp 2]) [.junk, .junk, .junk, x3, .bool x4, x5, .int .i64 x6, .junk, .junk, .junk, .junk, .junk, .junk, .junk, .junk, .junk, .junk, .junk, .junk, .junk, .junk, .junk, .junk, .junk, .junk, .junk, .junk, .junk, .junk, .junk, .junk, .junk, .junk, .junk, .junk, .junk, .junk, .junk, .junk, .junk, .junk, .junk, .junk, .junk, .junk, .junk, .junk, .junk, .junk, .junk, .junk, .junk, .junk, .junk, .junk, .junk, .junk] h
noncomputable abbrev laws_FnIsPositive.J5 (call : Nat → List AV → AH → O) (k : Nat) (i1 : Nat) (x3 : AV) (x4 : Bool) (x5 : AV) (x6 : Int) (x7 : Int) (h : AH) : O := exec call k laws_FnIsPositive.c5 (laws_FnIsPositive.K3 call k i1) [.junk, .junk, .junk, x3, .bool x4, x5, .int .i64 x6, .int .i64 x7, .junk, .junk, .junk, .junk, .junk, .junk, .junk, .junk, .junk, .junk, .junk, .junk, .junk, .junk, .junk, .junk, .junk, .junk, .junk, .junk, .junk, .junk, .junk, .junk, .junk, .junk, .junk, .junk, .junk, .junk, .junk, .junk, .junk, .junk, .junk, .junk, .junk, .junk, .junk, .junk, .junk, .junk, .junk, .junk, .junk, .junk, .junk, .junk, .junk] h
noncomputable abbrev laws_FnIsPositive.J4 (call : Nat → List AV → AH → O) (k : Nat) (i1 : Nat) (x3 : AV) (x4 : Bool) (x5 : AV) (x6 : Int) (x7 : Int) (h : AH) : O := exec call k laws_FnIsPositive.c4 (laws_FnIsPositive.K3 call k i1) [.junk, .junk, .junk, x3, .bool x4, x5, .int .i64 x6, .int .i64 x7, .junk, .junk, .junk, .junk, .junk, .junk, .junk, .junk, .junk, .junk, .junk, .junk, .junk, .junk, .junk, .junk, .junk, .junk, .junk, .junk, .junk, .junk, .junk, .junk, .junk, .junk, .junk, .junk, .junk, .junk, .junk, .junk, .junk, .junk, .junk, .junk, .junk, .junk, .junk, .junk, .junk, .junk, .junk, .junk, .junk, .junk, .junk, .junk, .junk] h
noncomputable abbrev laws_FnIsPositive.L3 (call : Nat → List AV → AH → O) (k : Nat) (i1 : Nat) (x3 : AV) (x4 : Bool) (x5 : AV) (x6 : Int) (x7 : Int) (h : AH) : O := loopE (exec call k laws_FnIsPositive.c3) [(3, .any), (4, .bool), (5, .any), (6, (.int .i64)), (7, (.int .i64))] i1 (blockK 0 (laws_FnIsPositive.K6 call k)) [.junk, .junk, .junk, x3, .bool x4, x5, .int .i64 x6, .int .i64 x7, .junk, .junk, .junk, .junk, .junk, .junk, .junk, .junk, .junk, .junk, .junk, .junk, .junk, .junk, .junk, .junk, .junk, .junk, .junk, .junk, .junk, .junk, .junk, .junk, .junk, .junk, .junk, .junk, .junk, .junk, .junk, .junk, .junk, .junk, .junk, .junk, .junk, .junk, .junk, .junk, .junk, .junk, .junk, .junk, .junk, .junk, .junk, .junk, .junk] h
noncomputable abbrev laws_FnIsPositive.J2 (call : Nat → List AV → AH → O) (k : Nat) (x3 : AV) (x4 : Bool) (h : AH) : O := exec call k laws_FnIsPositive.c2 (fin [.tmp 2]) [.junk, .junk, .junk, x3, .bool x4, .junk, .junk, .junk, .junk, .junk, .junk, .junk, .junk, .junk, .junk, .junk, .junk, .junk, .junk, .junk, .junk, .junk, .junk, .junk, .junk, .junk, .junk, .junk, .junk, .junk, .junk, .junk, .junk, .junk, .junk, .junk, .junk, .junk, .junk, .junk, .junk, .junk, .junk, .junk, .junk, .junk, .junk, .junk, .junk, .junk, .junk, .junk, .junk, .junk, .junk, .junk, .junk] h
noncomputable abbrev laws_FnIsPositive.J1 (call : Nat → List AV → AH → O) (k : Nat) (x0 : AV) (h : AH) : O := exec call k laws_FnIsPositive.c1 (fin [.tmp 2]) [x0, .junk, .junk, .junk, .junk, .junk, .junk, .junk, .junk, .junk, .junk, .junk, .junk, .junk, .junk, .junk, .junk, .junk, .junk, .junk, .junk, .junk, .junk, .junk, .junk, .junk, .junk, .junk, .junk, .junk, .junk, .junk, .junk, .junk, .junk, .junk, .junk, .junk, .junk, .junk, .junk, .junk, .junk, .junk, .junk, .junk, .junk, .junk, .junk, .junk, .junk, .junk, .junk, .junk, .junk, .junk, .junk] h
theorem laws_FnIsPositive.J6_eq (call : Nat → List AV → AH → O) (k : Nat) (x3 : AV) (x4 : Bool) (x5 : AV) (x6 : Int) (h : AH) : laws_FnIsPositive.J6 call k x3 x4 x5 x6 h =
 asB x5 fun b5 =>
 bif ((x4 == b5) != false) then (bif (!x4) then (some (.bool true, h))
 else (bif (decide (x6 > (0))) then (some (.bool true, h))
 else (pCallB call 186 [x3] h fun b7 h6 =>
 some (.bool b7, h6))))
 else (none) := by kernel_rfl
theorem laws_FnIsPositive.J5_eq (call : Nat → List AV → AH → O) (k : Nat) (i1 : Nat) (x3 : AV) (x4 : Bool) (x5 : AV) (x6 : Int) (x7 : Int) (h : AH) : laws_FnIsPositive.J5 call k i1 x3 x4 x5 x6 x7 h =
 laws_FnIsPositive.L3 call k i1 x3 x4 x5 x6 (IntKind.i64.wrap (x7 + (1))) h := by kernel_rfl
theorem laws_FnIsPositive.J4_eq (call : Nat → List AV → AH → O) (k : Nat) (i1 : Nat) (x3 : AV) (x4 : Bool) (x5 : AV) (x6 : Int) (x7 : Int) (h : AH) : laws_FnIsPositive.J4 call k i1 x3 x4 x5 x6 x7 h =
 asB x5 fun b8 =>
 bif b8 then (pSlice 10 x3 (some x7) (some (IntKind.i64.wrap (x7 + (1)))) fun v9 =>
 pCallB call 189 [v9] h fun b11 h10 =>
 pIdx 10 x3 x7 fun v12 =>
 pFld 0 v12 fun v13 =>
 pLd h10 none v13 fun v14 =>
 asK .i64 v14 fun n15 =>
 bif (n15 == (6)) then (laws_FnIsPositive.J5 call k i1 x3 x4 (.bool b11) (IntKind.i64.wrap (x6 + (1))) x7 h10)
 else (laws_FnIsPositive.J5 call k i1 x3 x4 (.bool b11) x6 x7 h10))
 else (pIdx 10 x3 x7 fun v16 =>
 pFld 0 v16 fun v17 =>
 pLd h none v17 fun v18 =>
 asK .i64 v18 fun n19 =>
 bif (n19 == (6)) then (laws_FnIsPositive.J5 call k i1 x3 x4 (.bool false) (IntKind.i64.wrap (x6 + (1))) x7 h)
 else (laws_FnIsPositive.J5 call k i1 x3 x4 (.bool false) x6 x7 h)) := by kernel_rfl
theorem laws_FnIsPositive.L3_zero (call : Nat → List AV → AH → O) (k : Nat) (x3 : AV) (x4 : Bool) (x5 : AV) (x6 : Int) (x7 : Int) (h : AH) : laws_FnIsPositive.L3 call k 0 x3 x4 x5 x6 x7 h = none := rfl
theorem laws_FnIsPositive.L3_succ (call : Nat → List AV → AH → O) (k : Nat) (i1 : Nat) (x3 : AV) (x4 : Bool) (x5 : AV) (x6 : Int) (x7 : Int) (h : AH) : laws_FnIsPositive.L3 call k (i1 + 1) x3 x4 x5 x6 x7 h =
 pLen x3 fun m20 =>
 bif (decide (x7 < (m20 : Int))) then (laws_FnIsPositive.J4 call k i1 x3 x4 x5 x6 x7 h)
 else (laws_FnIsPositive.J6 call k x3 x4 x5 x6 h) := by kernel_rfl
theorem laws_FnIsPositive.J2_eq (call : Nat → List AV → AH → O) (k : Nat) (x3 : AV) (x4 : Bool) (h : AH) : laws_FnIsPositive.J2 call k x3 x4 h =
 laws_FnIsPositive.L3 call k k x3 x4 (.bool true) (0) (0) h := by kernel_rfl
theorem laws_FnIsPositive.J1_eq (call : Nat → List AV → AH → O) (k : Nat) (x0 : AV) (h : AH) : laws_FnIsPositive.J1 call k x0 h =
 pCall call 188 [x0] h fun v2 h1 =>
 pCallB call 189 [v2] h1 fun b4 h3 =>
 pCallB call 190 [v2] h3 fun b22 h21 =>
 bif ((b4 == b22) != true) then (some (.bool false, h21))
 else (laws_FnIsPositive.J2 call k v2 b4 h21) := by kernel_rfl
theorem laws_FnIsPositive_run (T : Nat → Option AF) (hT : T 269 = some laws_FnIsPositive.ir) (k : Nat) (a0 : AV) (h : AH) : run T (k + 1) 269 [a0] h =
 (fun (call : Nat → List AV → AH → O) => pLen a0 fun m23 =>
 bif ((decide ((m23 : Int) > (1048576)))) then (some (.bool true, h))
 else (laws_FnIsPositive.J1 call k a0 h)) (run T k) := by unfold run; rw [hT]; kernel_rfl
theorem positivePlan_loop {T : Nat → Option AF} (H : HasP T) {k : Nat} (hk : 1000020 ≤ k) {m0 : Mem} {h0 : AH} {pb rb : Nat} {S0 : PS} : ∀ (d i1 : Nat) (n p : Int) (m : Mem) (h : AH) (S : PS) (c : Nat), n = d → d < i1 → d ≤ 100 → 0 ≤ p → p + 20 * d ≤ 1000000 → S0.rows.length + c + d ≤ 500 → Next c m0 h0 m h pb rb p S0 S →
    W (spec_positivePlan.L1 (run T k) k i1 (.ptr pb 0) n h) fun v h' => ∃ m' S' p', Next (c + d) m0 h0 m' h' pb rb p' S0 S' ∧ v = S'.px ∧ p ≤ p' ∧ p' ≤ p + 20 * d ∧ S.rows.length ≤ S'.rows.length := by
  intro d
  induction d with
  | zero =>
    intro i1 n p m h S c hn h1 h2 p0 p1 hc N
    obtain ⟨i1, rfl⟩ : ∃ j, i1 = j + 1 := ⟨i1 - 1, by omega⟩
    rw [spec_positivePlan.L1_succ]
    refine W.bif_ (fun c => ?_) fun c => ?_
    · have : 0 < n := by simpa using c
      omega
    · rw [spec_positivePlan.J4_eq]
      simp only [nil_at, fld_at, Nat.zero_add, ld_at N.pl.blk (o := 2) rfl]
      exact W.ret ⟨m, S, p, N, rfl, by omega, by omega, Nat.le_refl _⟩
  | succ d ih =>
    intro i1 n p m h S c hn h1 h2 p0 p1 hc N
    obtain ⟨i1, rfl⟩ : ∃ j, i1 = j + 1 := ⟨i1 - 1, by omega⟩
    rw [spec_positivePlan.L1_succ]
    refine W.bif_ (fun c => ?_) fun c => ?_
    · rw [spec_positivePlan.J2_eq]
      refine W.call_ (planner_node_ok H (by omega) N.pl (by have := N.less; omega) (by omega)) fun v h2 ⟨m2, S2, p2, N2, e1, e2⟩ => ?_
      rw [spec_positivePlan.J3_eq, wr (by omega) (by omega)]
      refine (ih i1 (n - 1) p2 m2 h2 S2 _ (by omega) (by omega) (by omega) (by omega) (by omega) (by omega) (N.trans N2)).mono fun v h3 ⟨m3, S3, p3, N3, e3, e4, e5, e6⟩ => ⟨m3, S3, p3, ?_, e3, by omega, by omega, by have := N2.more; omega⟩
      rw [Nat.add_assoc, Nat.add_comm 1 d] at N3
      exact N3
    · have : n ≤ 0 := by simpa using c
      omega
theorem positivePlan_ok {T : Nat → Option AF} (H : HasQ T) (H211 : T 211 = some spec_positivePlan.ir) {k : Nat} (hk : 1000040 ≤ k) {h : AH} {rb : Nat} {p : Int} {mw : Mem} {wx : AV} {ws : List Int} (r : Rd h rb p) (ok : Ok h) (sub : Sub mw h) (hr : mw rb = none) (hw : Ints mw wx ws) (hl : ws.length ≤ 1000) (hw0 : ws ≠ []) (hw1 : ∀ x, x ∈ ws → 1 ≤ x) (hp : 0 ≤ p ∧ p ≤ 100000) :
    W (run T k 211 [.ptr rb 0, wx] h) fun v h' => ∃ m rows B p', PlanOut h mw rb p v h' m rows B p' ∧ p' ≤ p + 1000 := by
  obtain ⟨k, rfl⟩ : ∃ j, k = j + 1 := ⟨k - 1, by omega⟩
  rw [spec_positivePlan_run T H211]
  refine W.fill (cs := [.ptr rb 0, wx, .nils, .nils, .int .i64 2, .int .i64 2, .int .i64 0]) ?_ ?_
  · have h2 := hw.2
    cases wx with
    | nils => rfl
    | sl _ _ _ _ => rfl
    | ro _ _ => rfl
    | _ => exact h2.elim
  simp only [cells_agg, new_eq]
  have P := Pl.start r ok sub hr hw hl 2 2 0
  have k0 : Ch [rb] h (h.new [.ptr rb 0, wx, .nils, .nils, .int .i64 2, .int .i64 2, .int .i64 0]) := Ch.new.more (by simp)
  refine W.lenInts hw ?_
  have N := Next.refl P
  refine pick_arm H.toHasP (by omega) N (by omega) fun n h2 N2 _ n0 n1 => W.fill rfl ?_
  refine first_node H.toHasP (by omega) N2.pl rfl hw0 hw1 n0 n1 fun v h3 S3 N3 e3 => ?_
  have N3' := N2.trans N3
  refine W.callI (N3.pl.pick H.f37 (by omega) (by omega)) fun n h4 ⟨P4, c4, _, q0, q1⟩ => ?_
  have N4 := N3'.keep P4 c4 fun x hx => by simp at hx; right; left; exact hx
  obtain ⟨j, rfl⟩ := Int.eq_ofNat_of_zero_le q0
  rw [wr (by omega) (by omega)]
  refine (positivePlan_loop H.toHasP (by omega) (j + 1) k _ (p + 1 + 1) _ h4 S3 _ (by omega) (by omega) (by omega) (by omega) (by omega) (by simp [PS.start]; omega) N4).mono fun v h5 ⟨m5, S5, p5, N5, e5, e6, e7, e8⟩ => ?_
  subst e5
  refine ⟨m5, _, _, p5, N5.out (by omega) (fun h => ?_) k0 (Nat.le_refl _), by omega⟩
  rw [h, e3] at e8; simp at e8
/-- The first cell of a node. -/
def posRow (r : List AV) : Bool := match r with
  | .int .i64 a :: _ => decide (1 ≤ a ∧ a ≤ 6 ∧ a ≠ 5)
  | _ => false
theorem implIsPositive_loop {T : Nat → Option AF} {k : Nat} {m : Mem} {x : AV} {rows : List (List AV)} (hx : Sl m 10 x rows) {bn : Nat} (hn : ∀ r, r ∈ rows → NodeB bn m r) (hl : rows.length ≤ 1000000) : ∀ (d i1 : Nat) (j : Nat) (h : AH), j + d = rows.length → d < i1 → Sub m h → Ok h →
    WB (impl_IsPositive.L1 (run T k) k i1 x (rows.length : Int) (j : Int) h) fun n h' => n = (rows.drop j).all posRow ∧ Ch [] h h' ∧ Ok h' := by
  intro d
  induction d with
  | zero =>
    intro i1 j h h1 h2 sub ok
    obtain ⟨i1, rfl⟩ : ∃ j, i1 = j + 1 := ⟨i1 - 1, by omega⟩
    rw [impl_IsPositive.L1_succ]
    refine W.bif_ (fun c => ?_) fun c => ?_
    · have : (j : Int) < rows.length := by simpa using c
      omega
    · rw [impl_IsPositive.J5_eq]
      exact W.ret ⟨_, rfl, by rw [List.drop_of_length_le (by omega)]; rfl, Ch.refl _ _, ok⟩
  | succ d ih =>
    intro i1 j h h1 h2 sub ok
    obtain ⟨i1, rfl⟩ : ∃ j, i1 = j + 1 := ⟨i1 - 1, by omega⟩
    rw [impl_IsPositive.L1_succ]
    have hj : j < rows.length := by omega
    refine W.bif_ (fun c => ?_) fun c => ?_
    · rw [impl_IsPositive.J2_eq]
      have hmem := List.getElem_mem hj
      obtain ⟨a, b, c, d', y, p0, p1, p2, g, e, l, hr, _⟩ := hn _ hmem
      have hlen := hx.1 _ hmem
      refine W.idx hx (j := j) (r := rows[j]) (by simp [hj]) rfl fun pt => ?_
      refine W.ldn (pt.mono sub) hlen.symm ?_
      simp only [new_eq, fld_at, Nat.zero_add]
      have z := AH.new_same h [.int .i64 0, .int .i64 0, .int .i64 0, .int .i64 0, .nils, .int .i64 0, .int .i64 0, .int .i64 0, .int .i64 0, .int .i64 0]
      have k1 : Ch [] h (h.new [.int .i64 0, .int .i64 0, .int .i64 0, .int .i64 0, .nils, .int .i64 0, .int .i64 0, .int .i64 0, .int .i64 0, .int .i64 0]) := Ch.new
      have ok1 := ok.new (cs := [.int .i64 0, .int .i64 0, .int .i64 0, .int .i64 0, .nils, .int .i64 0, .int .i64 0, .int .i64 0, .int .i64 0, .int .i64 0])
      have sub1 := sub.keep ok k1 (by simp)
      have fr := sub.fresh ok (Nat.le_refl _)
      generalize hb : h.next = b2 at *
      generalize h.new [.int .i64 0, .int .i64 0, .int .i64 0, .int .i64 0, .nils, .int .i64 0, .int .i64 0, .int .i64 0, .int .i64 0, .int .i64 0] = h2 at *
      have st : ∀ (K : AH → O), pSt h2 10 (.ptr b2 0) (.agg rows[j]) K = K (h2.set b2 rows[j]) := fun K => by
        unfold pSt aSt; simp only [z, cellsOf, Option.bind_some]
        rw [if_pos ⟨hlen, by simp⟩, Option.bind_some, splice, hlen]
        simp
      rw [st]
      have k2 : Ch [b2] h2 (h2.set b2 rows[j]) := Ch.set
      have k3 := k1.trans k2 (by simp; omega)
      have ok3 := ok1.set (cs := rows[j]) z
      have sub3 := sub1.keep ok1 k2 (by simp; exact fr)
      have z3 : (h2.set b2 rows[j]).blk b2 = some rows[j] := AH.set_same ..
      generalize h2.set b2 rows[j] = h3 at *
      have dj : rows.drop j = rows[j] :: rows.drop (j + 1) := List.drop_eq_getElem_cons hj
      rw [dj, List.all_cons]
      rw [hr] at z3 ⊢
      simp only [ld_at z3 (o := 0) rfl, asK, kEq, cond_true]
      have go : W (impl_IsPositive.J4 (run T k) k i1 x (rows.length : Int) (j : Int) h3) fun v h' => ∃ n, v = .bool n ∧ (n = (rows.drop (j + 1)).all posRow ∧ Ch [] h h' ∧ Ok h') := by
        rw [impl_IsPositive.J4_eq, wr (by omega) (by omega)]
        have e : (j : Int) + 1 = ((j + 1 : Nat) : Int) := by omega
        rw [e]
        exact (ih i1 (j + 1) h3 (by omega) (by omega) sub3 ok3).mono fun v h' ⟨n, e1, e2, e3, e4⟩ => ⟨n, e1, e2, k3.trans0 e3, e4⟩
      have j3 : ∀ t : Bool, t = posRow [.int .i64 a, .int .i64 b, .int .i64 c, .int .i64 d', y, .int .i64 p0, .int .i64 p1, .int .i64 p2, .int .i64 g, .int .i64 e] → W (impl_IsPositive.J3 (run T k) k i1 x (rows.length : Int) (j : Int) t h3) fun v h' => ∃ n, v = .bool n ∧ (n = (posRow [.int .i64 a, .int .i64 b, .int .i64 c, .int .i64 d', y, .int .i64 p0, .int .i64 p1, .int .i64 p2, .int .i64 g, .int .i64 e] && (rows.drop (j + 1)).all posRow) ∧ Ch [] h h' ∧ Ok h') := by
        intro t ht
        rw [impl_IsPositive.J3_eq, ← ht]
        refine W.bif_ (fun c1 => ?_) fun c1 => W.ret ⟨_, rfl, ?_, k3, ok3⟩
        · rw [c1, Bool.true_and]; exact go
        · rw [c1, Bool.false_and]
      refine W.bif_ (fun c1 => j3 _ ?_) fun c1 => W.bif_ (fun c2 => j3 _ ?_) fun c2 => W.bif_ (fun c3 => j3 _ ?_) fun c3 => W.bif_ (fun c4 => j3 _ ?_) fun c4 => j3 _ ?_
      · have : a = 1 := by simpa using c1
        subst this; rfl
      · have : a = 2 := by simpa using c2
        subst this; rfl
      · have : a = 3 := by simpa using c3
        subst this; rfl
      · have : a = 4 := by simpa using c4
        subst this; rfl
      · have d1 : a ≠ 1 := by simpa using c1
        have d2 : a ≠ 2 := by simpa using c2
        have d3 : a ≠ 3 := by simpa using c3
        have d4 : a ≠ 4 := by simpa using c4
        by_cases h6 : a = 6
        · subst h6; rfl
        · have e1 : (a == 6) = false := by simpa using h6
          have e2 : ¬ (1 ≤ a ∧ a ≤ 6 ∧ a ≠ 5) := by omega
          rw [e1]
          show false = decide (1 ≤ a ∧ a ≤ 6 ∧ a ≠ 5)
          rw [decide_eq_false e2]
    · have : (rows.length : Int) ≤ j := by simpa using c
      omega
theorem implIsPositive_ok {T : Nat → Option AF} (H : T 189 = some impl_IsPositive.ir) {k : Nat} (hk : 1000010 ≤ k) {m : Mem} {h : AH} {x : AV} {rows : List (List AV)} (hx : Sl m 10 x rows) {bn : Nat} (hn : ∀ r, r ∈ rows → NodeB bn m r) (hl : rows.length ≤ 1000000) (sub : Sub m h) (ok : Ok h) :
    WB (run T k 189 [x] h) fun n h' => n = rows.all posRow ∧ Ch [] h h' ∧ Ok h' := by
  obtain ⟨k, rfl⟩ : ∃ j, k = j + 1 := ⟨k - 1, by omega⟩
  rw [impl_IsPositive_run T H]
  refine W.len hx ?_
  exact implIsPositive_loop hx hn hl rows.length k 0 h (by omega) (by omega) sub ok
theorem specIsPositive_loop {T : Nat → Option AF} (H49 : T 49 = some spec_inRange.ir) {k : Nat} (hk : 1 ≤ k) {h : AH} {x : AV} {rows : List (List AV)} (hx : Sl h.blk 10 x rows) (hn : ∀ r, r ∈ rows → ∃ a r', r = .int .i64 a :: r') (hl : rows.length ≤ 1000000) : ∀ (d i1 : Nat) (j : Nat), j + d = rows.length → d < i1 →
    WB (spec_IsPositive.L1 (run T k) k i1 x (j : Int) h) fun n h' => n = (rows.drop j).all posRow ∧ h' = h := by
  intro d
  induction d with
  | zero =>
    intro i1 j h1 h2
    obtain ⟨i1, rfl⟩ : ∃ j, i1 = j + 1 := ⟨i1 - 1, by omega⟩
    rw [spec_IsPositive.L1_succ]
    refine W.len hx (W.bif_ (fun c => ?_) fun c => ?_)
    · have : (j : Int) < rows.length := by simpa using c
      omega
    · rw [spec_IsPositive.J4_eq]
      exact W.ret ⟨_, rfl, by rw [List.drop_of_length_le (by omega)]; rfl, rfl⟩
  | succ d ih =>
    intro i1 j h1 h2
    obtain ⟨i1, rfl⟩ : ∃ j, i1 = j + 1 := ⟨i1 - 1, by omega⟩
    rw [spec_IsPositive.L1_succ]
    have hj : j < rows.length := by omega
    refine W.len hx (W.bif_ (fun c => ?_) fun c => ?_)
    · rw [spec_IsPositive.J2_eq]
      obtain ⟨a, r', hr⟩ := hn _ (List.getElem_mem hj)
      refine W.idx hx (j := j) (r := rows[j]) (by simp [hj]) rfl fun pt => ?_
      refine W.fld pt ?_
      have pt0 := pt.fld (o := 0) (by omega)
      rw [List.drop_zero, hr] at pt0
      refine W.ldI pt0 ?_
      have dj : rows.drop j = rows[j] :: rows.drop (j + 1) := List.drop_eq_getElem_cons hj
      rw [dj, List.all_cons, hr]
      refine W.callB (inRange_ok H49 hk) fun n h' ⟨en, e⟩ => ?_
      subst h'
      have pr : posRow (.int .i64 a :: r') = decide (1 ≤ a ∧ a ≤ 6 ∧ a ≠ 5) := rfl
      rw [pr]
      refine W.bif_ (fun c1 => W.ret ⟨_, rfl, ?_, rfl⟩) fun c1 => ?_
      · have : n = false := by simpa using c1
        rw [this] at en
        have en := of_decide_eq_false en.symm
        have e2 : ¬ (1 ≤ a ∧ a ≤ 6 ∧ a ≠ 5) := by omega
        rw [decide_eq_false e2, Bool.false_and]
      · have : n = true := by simpa using c1
        rw [this] at en
        have en := of_decide_eq_true en.symm
        refine W.idx hx (j := j) (r := rows[j]) (by simp [hj]) rfl fun pt => ?_
        refine W.fld pt ?_
        refine W.ldI pt0 ?_
        refine W.bif_ (fun c2 => W.ret ⟨_, rfl, ?_, rfl⟩) fun c2 => ?_
        · have c2' : a = 5 := by simpa using c2
          have e2 : ¬ (1 ≤ a ∧ a ≤ 6 ∧ a ≠ 5) := by omega
          rw [decide_eq_false e2, Bool.false_and]
        have c2' : a ≠ 5 := by simpa using c2
        have e2 : 1 ≤ a ∧ a ≤ 6 ∧ a ≠ 5 := by omega
        rw [decide_eq_true e2, Bool.true_and]
        rw [spec_IsPositive.J3_eq, wr (by omega) (by omega)]
        have e : (j : Int) + 1 = ((j + 1 : Nat) : Int) := by omega
        rw [e]
        exact (ih i1 (j + 1) (by omega) (by omega)).mono fun v h' ⟨n, e1, e2, e3⟩ => ⟨n, e1, e2, e3⟩
    · have : (rows.length : Int) ≤ j := by simpa using c
      omega
theorem specIsPositive_ok {T : Nat → Option AF} (H : T 190 = some spec_IsPositive.ir) (H49 : T 49 = some spec_inRange.ir) {k : Nat} (hk : 1000010 ≤ k) {h : AH} {x : AV} {rows : List (List AV)} (hx : Sl h.blk 10 x rows) (hn : ∀ r, r ∈ rows → ∃ a r', r = .int .i64 a :: r') (hl : rows.length ≤ 1000000) :
    WB (run T k 190 [x] h) fun n h' => n = rows.all posRow ∧ h' = h := by
  obtain ⟨k, rfl⟩ : ∃ j, k = j + 1 := ⟨k - 1, by omega⟩
  rw [spec_IsPositive_run T H]
  exact specIsPositive_loop H49 (by omega) hx hn hl rows.length k 0 (by omega) (by omega)
structure HasPos (T : Nat → Option AF) : Prop extends HasQ T where
  f186 : T 186 = some impl_IsLinear.ir
  f188 : T 188 = some spec_DrawIsPositive.ir
  f189 : T 189 = some impl_IsPositive.ir
  f190 : T 190 = some spec_IsPositive.ir
  f209 : T 209 = some spec_anyPlan.ir
  f211 : T 211 = some spec_positivePlan.ir
  f269 : T 269 = some laws_FnIsPositive.ir
theorem drawIsPositive_ok {T : Nat → Option AF} (H : HasPos T) {k : Nat} (hk : 1000100 ≤ k) {h : AH} {bs : List Int} (hb : ∀ x, x ∈ bs → 0 ≤ x ∧ x < 256) (ok : Ok h) :
    W (run T k 188 [.ro (bs.map (.int .u8)) bs.length] h) fun v h' => ∃ (m : Mem) (rows : List (List AV)), Sl m 10 v rows ∧ (∀ r, r ∈ rows → NodeB 2000 m r) ∧ rows.length ≤ 1000 ∧ Sub m h' ∧ Ok h' := by
  obtain ⟨k, rfl⟩ : ∃ j, k = j + 1 := ⟨k - 1, by omega⟩
  rw [spec_DrawIsPositive_run T H.f188]
  refine W.call_ (newReader_ok H.f35 (by omega) hb ok) fun v h1 ⟨e, r, c, ok1, _⟩ => ?_
  subst e
  refine W.callI (pick_ok H.f37 (by omega) r (by omega) ok1) fun n h2 ⟨r2, c2, ok2, _, _, _⟩ => W.bif_ (fun _ => ?_) fun _ => ?_
  · refine W.call_ (randomWidths_ok H.f210 H.f37 (by omega) r2 (by omega) (by omega) ok2) fun wx h3 ⟨ws, Bx, p1, r3, e1, e2, ok3, ow, c3, fx, w1, w0, wl⟩ => ?_
    have s0 : Sub (fun _ => none) h3 := fun _ _ h => by cases h
    have hrb : h.next < h2.next := by obtain ⟨_, _, _, e⟩ := r2; exact ok2 _ _ e
    have hmr : (Mem.add (fun _ => none) h3 Bx) h.next = none := Mem.add_none rfl fun hb => by have := fx _ hb; omega
    refine W.call_ (positivePlan_ok H.toHasQ H.f211 (by omega) r3 ok3 (s0.add Bx) hmr ow.add (by omega) w0 w1 (by omega)) fun px h4 ⟨m, rows, B, p2, D, e3⟩ => ?_
    exact W.ret ⟨m.add h4 B, rows, D.own.add, fun r hr => by
      obtain ⟨a, b, c, d, x, p0, p1, p2, g, e, l, q1, q2, q3⟩ := (D.node r hr).mono (Mem.le_add D.sub B)
      exact ⟨a, b, c, d, x, p0, p1, p2, g, e, l, q1, q2, by omega⟩, D.small, D.sub.add B, D.ok⟩
  · rw [spec_DrawIsPositive.J1_eq]
    refine W.call_ (anyPlan_dr H.toHasQ H.f209 (by omega) r2 ok2 (by omega)) fun v h3 ⟨px, wx, m, rows, B, p', ws, Bx, e, D, _⟩ => ?_
    subst e
    exact W.ret ⟨m.add h3 B, rows, D.own.add, fun r hr => (D.node r hr).mono (Mem.le_add D.sub B), D.small, D.sub.add B, D.ok⟩
def notSix (r : List AV) : Prop := ∀ a r', r = .int .i64 a :: r' → a ≠ 6
theorem pos_lin {rows : List (List AV)} (h : rows.all posRow = true) (h6 : ∀ r, r ∈ rows → notSix r) : rows.all linRow = true := by
  rw [List.all_eq_true] at h ⊢
  intro r hr
  have h1 := h r hr
  have h2 := h6 r hr
  cases r with
  | nil => exact h1
  | cons c r' =>
    cases c with
    | int k n =>
      cases k <;> try exact h1
      have h1 : decide (1 ≤ n ∧ n ≤ 6 ∧ n ≠ 5) = true := h1
      have h3 := of_decide_eq_true h1
      have h4 := h2 n r' rfl
      show decide (1 ≤ n ∧ n ≤ 5) = true
      exact decide_eq_true (by omega)
    | _ => exact h1
theorem pos_loop {T : Nat → Option AF} (H : HasPos T) {k : Nat} (hk : 1000050 ≤ k) {m : Mem} {x : AV} {rows : List (List AV)} (hx : Sl m 10 x rows) (hn : ∀ r, r ∈ rows → NodeB 2000 m r) (hl : rows.length ≤ 1000) : ∀ (d i1 j : Nat) (h : AH) (c : Int), j + d = rows.length → d < i1 → Sub m h → Ok h → 0 ≤ c → c ≤ j → (c = 0 → ∀ r, r ∈ rows.take j → notSix r) →
    W (laws_FnIsPositive.L3 (run T k) k i1 x (rows.all posRow) (.bool ((rows.take j).all posRow)) c (j : Int) h) fun v _ => v = .bool true := by
  intro d
  induction d with
  | zero =>
    intro i1 j h c h1 h2 sub ok c0 c1 c2
    obtain ⟨i1, rfl⟩ : ∃ j, i1 = j + 1 := ⟨i1 - 1, by omega⟩
    rw [laws_FnIsPositive.L3_succ]
    refine W.len hx (W.bif_ (fun c => ?_) fun _ => ?_)
    · have : (j : Int) < rows.length := by simpa using c
      omega
    · rw [laws_FnIsPositive.J6_eq, List.take_of_length_le (by omega)]
      rw [List.take_of_length_le (by omega)] at c2
      refine W.bif_ (fun _ => W.bif_ (fun _ => W.ret rfl) fun c4 => W.bif_ (fun _ => W.ret rfl) fun c5 => ?_) fun c3 => ?_
      · have c4' : rows.all posRow = true := by simpa using c4
        have c5' : c ≤ 0 := by simpa using c5
        refine W.callB (implIsLinear_ok H.f186 (by omega) hx hn (by omega) sub ok) fun n h' ⟨e, _, _⟩ => W.ret ?_
        rw [e, pos_lin c4' (c2 (by omega))]
      · simp at c3
  | succ d ih =>
    intro i1 j h c h1 h2 sub ok c0 c1 c2
    obtain ⟨i1, rfl⟩ : ∃ j, i1 = j + 1 := ⟨i1 - 1, by omega⟩
    rw [laws_FnIsPositive.L3_succ]
    have hj : j < rows.length := by omega
    have tk : rows.take (j + 1) = rows.take j ++ [rows[j]] := by rw [List.take_add_one, List.getElem?_eq_getElem hj]; rfl
    have e : (j : Int) + 1 = ((j + 1 : Nat) : Int) := by omega
    have hr : rows[j]? = some rows[j] := by simp [hj]
    obtain ⟨a, b, c', d', y, p0, p1, p2, g, e', l, hrow, _⟩ := hn _ (List.getElem_mem hj)
    -- the tail of a round, once the new value of 'all' is known
    have tail : ∀ (t : Bool) (h' : AH), t = (rows.take (j + 1)).all posRow → Sub m h' → Ok h' → W (pIdx 10 x (j : Int) fun v12 => pFld 0 v12 fun v13 => pLd h' none v13 fun v14 => asK .i64 v14 fun n15 =>
        bif (n15 == 6) then (laws_FnIsPositive.J5 (run T k) k i1 x (rows.all posRow) (.bool t) (IntKind.i64.wrap (c + 1)) (j : Int) h') else (laws_FnIsPositive.J5 (run T k) k i1 x (rows.all posRow) (.bool t) c (j : Int) h')) fun v _ => v = .bool true := by
      intro t h' ht sub' ok'
      refine W.idx hx hr rfl fun pt => W.fld pt ?_
      have pt0 := (pt.fld (o := 0) (by omega)).mono sub'
      rw [List.drop_zero, hrow] at pt0
      refine W.ldI pt0 (W.bif_ (fun c3 => ?_) fun c3 => ?_)
      · rw [laws_FnIsPositive.J5_eq, wr (n := c + 1) (by omega) (by omega), wr (by omega) (by omega), e, ht]
        exact ih i1 (j + 1) h' (c + 1) (by omega) (by omega) sub' ok' (by omega) (by omega) (fun h => by omega)
      · rw [laws_FnIsPositive.J5_eq, wr (by omega) (by omega), e, ht]
        refine ih i1 (j + 1) h' c (by omega) (by omega) sub' ok' c0 (by omega) fun hc r hr => ?_
        rw [tk] at hr
        rcases List.mem_append.1 hr with hr | hr
        · exact c2 hc r hr
        · simp at hr
          subst hr
          intro a' r' e'
          rw [hrow] at e'
          have c3' : a ≠ 6 := by simpa using c3
          have : a = a' := by injection e' with e1 e2; injection e1
          omega
    refine W.len hx (W.bif_ (fun _ => ?_) fun cc => ?_)
    · rw [laws_FnIsPositive.J4_eq]
      refine W.bif_ (fun c1 => ?_) fun c1 => ?_
      · rw [wr (by omega) (by omega), e]
        obtain ⟨v, e1, s1⟩ := hx.slice (l := j) (u := j + 1) (by omega) (by omega)
        have er : (rows.drop j).take (j + 1 - j) = [rows[j]] := by
          rw [Nat.add_sub_cancel_left, List.drop_eq_getElem_cons hj]; rfl
        rw [er] at s1
        unfold pSlice
        rw [e1, Option.bind_some]
        refine W.callB (implIsPositive_ok H.f189 (by omega) s1 (fun r hr => hn r (by simp at hr; rw [hr]; exact List.getElem_mem hj)) (by simp) sub ok) fun n h' ⟨e2, c2', ok2⟩ => ?_
        refine tail n h' ?_ (sub.keep ok c2' (by simp)) ok2
        rw [tk, List.all_append, c1, Bool.true_and, e2]
      · refine tail false h ?_ sub ok
        rw [tk, List.all_append, c1, Bool.false_and]
    · have : (rows.length : Int) ≤ j := by simpa using cc
      omega
theorem fnIsPositive_run {T : Nat → Option AF} (H : HasPos T) {k : Nat} (hk : 1000200 ≤ k) {h : AH} {bs : List Int} (hb : ∀ x, x ∈ bs → 0 ≤ x ∧ x < 256) (ok : Ok h) :
    W (run T k 269 [.ro (bs.map (.int .u8)) bs.length] h) fun v _ => v = .bool true := by
  obtain ⟨k, rfl⟩ : ∃ j, k = j + 1 := ⟨k - 1, by omega⟩
  rw [laws_FnIsPositive_run T H.f269]
  simp only [len_ro]
  refine W.bif_ (fun _ => W.ret rfl) fun _ => ?_
  rw [laws_FnIsPositive.J1_eq]
  refine W.call_ (drawIsPositive_ok H (by omega) hb ok) fun v h1 ⟨m, rows, s, nd, hl, sub, ok1⟩ => ?_
  refine W.callB (implIsPositive_ok H.f189 (by omega) s nd (by omega) sub ok1) fun n1 h2 ⟨e1, c2, ok2⟩ => ?_
  have sub2 := sub.keep ok1 c2 (by simp)
  refine W.callB (specIsPositive_ok H.f190 H.f49 (by omega) (s.mono sub2) (fun r hr => by
    obtain ⟨a, b, c, d, x, p0, p1, p2, g, e, l, h, _⟩ := nd r hr; exact ⟨a, _, h⟩) (by omega)) fun n2 h3 ⟨e2, e3⟩ => ?_
  subst e3; subst e1; subst e2
  refine W.bif_ (fun c => ?_) fun _ => ?_
  · simp at c
  · rw [laws_FnIsPositive.J2_eq]
    exact pos_loop H (by omega) s nd hl rows.length k 0 _ 0 (by omega) (by omega) sub2 ok2 (by omega) (by omega) (by simp)
end Go.AM
