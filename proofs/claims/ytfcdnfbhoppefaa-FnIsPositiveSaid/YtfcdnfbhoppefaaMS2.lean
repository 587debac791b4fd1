/- Nodes and their widths. -/
import Derived.Test.YtfcdnfbhoppefaaMS1
namespace Go.AM
set_option linter.unusedVariables false
set_option linter.unusedSimpArgs false
set_option maxRecDepth 100000
/- loop.example/dataflow/spec.randomWidths: number 210 -/
def spec_randomWidths.c3 : AC :=
 (.reg none [⟨0, (some 11), .move (.t 4), .any, none, []⟩,
   ⟨1, (some 12), .bin .sub (.t 11) (.c (.int .i64 (1))), .any, none, []⟩,
   ⟨2, (some 4), .move (.t 12), .any, none, []⟩])
def spec_randomWidths.c2 : AC :=
 (.seq (some [(0, .any), (3, .any), (4, (.int .i64))])
 (.block 1 (.reg none [⟨0, (some 13), .move (.t 3), .any, none, []⟩,
     ⟨1, (some 14), .move (.t 0), .any, none, []⟩,
     ⟨2, (some 15), .call 37 [(.t 14), (.c (.int .i64 (2)))], (.int .i64), none, []⟩,
     ⟨3, (some 16), .bin .add (.c (.int .i64 (1))) (.t 15), .any, none, []⟩,
     ⟨4, (some 17), .buildS 1 1 [.int .i64 0] [(0, 1, (.t 16))], .any, none, []⟩,
     ⟨5, (some 18), .app 1 8 (.t 13) (.t 17), .any, none, []⟩,
     ⟨6, (some 3), .move (.t 18), .any, none, []⟩]))
 (spec_randomWidths.c3))
def spec_randomWidths.c1 : AC :=
 (.seq (some [(0, .any), (3, .any), (4, (.int .i64))])
 (.seq none
  (.reg none [⟨0, (some 9), .move (.t 4), .any, none, []⟩,
     ⟨1, (some 10), .bin .gtr (.t 9) (.c (.int .i64 (0))), .any, none, []⟩])
  (.cond (.t 10)
  (.skip)
  (.exit 0)))
 (spec_randomWidths.c2))
def spec_randomWidths.c4 : AC :=
 (.seq none
 (.reg none [⟨0, (some 19), .move (.t 3), .any, none, []⟩,
    ⟨1, (some 2), .move (.t 19), .any, none, []⟩])
 (.ret))
def spec_randomWidths.ir : AF := ⟨[(0, .any)], 20, [.tmp 2],
 (.seq none
 (.reg none [⟨0, (some 2), .move (.c (.nils)), .any, none, []⟩])
 (.seq none
 (.reg none [⟨0, (some 5), .buildS 0 1 [] [], .any, none, []⟩,
    ⟨1, (some 3), .move (.t 5), .any, none, []⟩])
 (.seq (some [(3, .any)])
 (.seq none
  (.reg none [⟨0, (some 6), .move (.t 0), .any, none, []⟩,
     ⟨1, (some 7), .call 37 [(.t 6), (.c (.int .i64 (3)))], (.int .i64), none, []⟩,
     ⟨2, (some 8), .bin .add (.c (.int .i64 (1))) (.t 7), .any, none, []⟩,
     ⟨3, (some 4), .move (.t 8), .any, none, []⟩])
  (.block 0 (.loop [(0, .any), (3, .any), (4, (.int .i64))] spec_randomWidths.c1)))
 (spec_randomWidths.c4))))⟩
noncomputable abbrev spec_randomWidths.K4 (call : Nat → List AV → AH → O) (k : Nat) : KX := seqK (some [(3, .any)]) (exec call k spec_randomWidths.c4 (fin [.tmp 2])) (fin [.tmp 2])
noncomputable abbrev spec_randomWidths.K1 (call : Nat → List AV → AH → O) (k : Nat) (i1 : Nat) : KX := loopK [(0, .any), (3, .any), (4, (.int .i64))] (loopE (exec call k spec_randomWidths.c1) [(0, .any), (3, .any), (4, (.int .i64))] i1 (blockK 0 (spec_randomWidths.K4 call k))) (blockK 0 (spec_randomWidths.K4 call k))
noncomputable abbrev spec_randomWidths.K3 (call : Nat → List AV → AH → O) (k : Nat) (i1 : Nat) : KX := seqK (some [(0, .any), (3, .any), (4, (.int .i64))]) (exec call k spec_randomWidths.c3 (spec_randomWidths.K1 call k i1)) (spec_randomWidths.K1 call k i1)
noncomputable abbrev spec_randomWidths.K2 (call : Nat → List AV → AH → O) (k : Nat) (i1 : Nat) : KX := seqK (some [(0, .any), (3, .any), (4, (.int .i64))]) (exec call k spec_randomWidths.c2 (spec_randomWidths.K1 call k i1)) (spec_randomWidths.K1 call k i1)
noncomputable abbrev spec_randomWidths.J4 (call : Nat → List AV → AH → O) (k : Nat) (x3 : AV) (h : AH) : O := exec call k spec_randomWidths.c4 (fin [.tmp 2]) [.junk, .junk, .junk, x3, .junk, .junk, .junk, .junk, .junk, .junk, .junk, .junk, .junk, .junk, .junk, .junk, .junk, .junk, .junk, .junk] h
noncomputable abbrev spec_randomWidths.J3 (call : Nat → List AV → AH → O) (k : Nat) (i1 : Nat) (x0 : AV) (x3 : AV) (x4 : Int) (h : AH) : O := exec call k spec_randomWidths.c3 (spec_randomWidths.K1 call k i1) [x0, .junk, .junk, x3, .int .i64 x4, .junk, .junk, .junk, .junk, .junk, .junk, .junk, .junk, .junk, .junk, .junk, .junk, .junk, .junk, .junk] h
noncomputable abbrev spec_randomWidths.J2 (call : Nat → List AV → AH → O) (k : Nat) (i1 : Nat) (x0 : AV) (x3 : AV) (x4 : Int) (h : AH) : O := exec call k spec_randomWidths.c2 (spec_randomWidths.K1 call k i1) [x0, .junk, .junk, x3, .int .i64 x4, .junk, .junk, .junk, .junk, .junk, .junk, .junk, .junk, .junk, .junk, .junk, .junk, .junk, .junk, .junk] h
noncomputable abbrev spec_randomWidths.L1 (call : Nat → List AV → AH → O) (k : Nat) (i1 : Nat) (x0 : AV) (x3 : AV) (x4 : Int) (h : AH) : O := loopE (exec call k spec_randomWidths.c1) [(0, .any), (3, .any), (4, (.int .i64))] i1 (blockK 0 (spec_randomWidths.K4 call k)) [x0, .junk, .junk, x3, .int .i64 x4, .junk, .junk, .junk, .junk, .junk, .junk, .junk, .junk, .junk, .junk, .junk, .junk, .junk, .junk, .junk] h
theorem spec_randomWidths.J4_eq (call : Nat → List AV → AH → O) (k : Nat) (x3 : AV) (h : AH) : spec_randomWidths.J4 call k x3 h =
 some (x3, h) := by kernel_rfl
theorem spec_randomWidths.J3_eq (call : Nat → List AV → AH → O) (k : Nat) (i1 : Nat) (x0 : AV) (x3 : AV) (x4 : Int) (h : AH) : spec_randomWidths.J3 call k i1 x0 x3 x4 h =
 spec_randomWidths.L1 call k i1 x0 x3 (IntKind.i64.wrap (x4 - (1))) h := by kernel_rfl
theorem spec_randomWidths.J2_eq (call : Nat → List AV → AH → O) (k : Nat) (i1 : Nat) (x0 : AV) (x3 : AV) (x4 : Int) (h : AH) : spec_randomWidths.J2 call k i1 x0 x3 x4 h =
 pCallI call .i64 37 [x0, .int .i64 (2)] h fun n7 h6 =>
 pFill [.int .i64 0] [(0, 1, .int .i64 (IntKind.i64.wrap ((1) + n7)))] fun c8 =>
 pNew h6 c8 fun b9 h10 =>
 pApp h10 1 8 x3 ((.sl b9 0 1 1)) fun v11 h12 =>
 spec_randomWidths.J3 call k i1 x0 v11 x4 h12 := by kernel_rfl
theorem spec_randomWidths.L1_zero (call : Nat → List AV → AH → O) (k : Nat) (x0 : AV) (x3 : AV) (x4 : Int) (h : AH) : spec_randomWidths.L1 call k 0 x0 x3 x4 h = none := rfl
theorem spec_randomWidths.L1_succ (call : Nat → List AV → AH → O) (k : Nat) (i1 : Nat) (x0 : AV) (x3 : AV) (x4 : Int) (h : AH) : spec_randomWidths.L1 call k (i1 + 1) x0 x3 x4 h =
 bif (decide (x4 > (0))) then (spec_randomWidths.J2 call k i1 x0 x3 x4 h)
 else (spec_randomWidths.J4 call k x3 h) := by kernel_rfl
theorem spec_randomWidths_run (T : Nat → Option AF) (hT : T 210 = some spec_randomWidths.ir) (k : Nat) (a0 : AV) (h : AH) : run T (k + 1) 210 [a0] h =
 (fun (call : Nat → List AV → AH → O) => pFill [] [] fun c1 =>
 pNew h c1 fun b2 h3 =>
 pCallI call .i64 37 [a0, .int .i64 (3)] h3 fun n5 h4 =>
 spec_randomWidths.L1 call k k a0 ((.sl b2 0 0 1)) (IntKind.i64.wrap ((1) + n5)) h4) (run T k) := by unfold run; rw [hT]; kernel_rfl
/- loop.example/dataflow/spec.validPredicate: number 255 -/
def spec_validPredicate.ir : AF := ⟨[(0, .any), (1, (.int .i64))], 20, [.tmp 4],
 (.seq none
 (.reg none [⟨0, (some 2), .box (.t 0), .any, none, []⟩,
    ⟨1, (some 4), .move (.c (.bool false)), .any, none, []⟩])
 (.seq none
 (.reg none [⟨0, (some 5), .fld 0 (.t 2), .any, none, []⟩,
    ⟨1, (some 6), .load none (.t 5), (.int .i64), none, []⟩,
    ⟨2, (some 7), .move (.t 1), .any, none, []⟩,
    ⟨3, (some 8), .bin .sub (.t 7) (.c (.int .i64 (1))), .any, none, []⟩,
    ⟨4, (some 9), .call 49 [(.t 6), (.c (.int .i64 (0))), (.t 8)], .bool, none, []⟩,
    ⟨5, (some 10), .move (.t 9), .any, none, []⟩,
    ⟨6, (some 11), .fld 1 (.t 2), .any, (some (10, true)), []⟩,
    ⟨7, (some 12), .load none (.t 11), (.int .i64), (some (10, true)), []⟩,
    ⟨8, (some 13), .call 49 [(.t 12), (.c (.int .i64 (1))), (.c (.int .i64 (4)))], .bool, (some (10, true)), []⟩,
    ⟨9, (some 14), .pick (.t 10) (.t 13) (.c (.bool false)), .any, none, []⟩,
    ⟨10, (some 15), .move (.t 14), .any, none, []⟩,
    ⟨11, (some 16), .fld 2 (.t 2), .any, (some (15, true)), []⟩,
    ⟨12, (some 17), .load none (.t 16), (.int .i64), (some (15, true)), []⟩,
    ⟨13, (some 18), .call 49 [(.t 17), (.c (.int .i64 (-9999))), (.c (.int .i64 (9999)))], .bool, (some (15, true)), []⟩,
    ⟨14, (some 19), .pick (.t 15) (.t 18) (.c (.bool false)), .any, none, []⟩,
    ⟨15, (some 4), .move (.t 19), .any, none, []⟩])
 (.ret)))⟩
theorem spec_validPredicate_run (T : Nat → Option AF) (hT : T 255 = some spec_validPredicate.ir) (k : Nat) (a0 : AV) (a1 : Int) (h : AH) : run T (k + 1) 255 [a0, .int .i64 a1] h =
 (fun (call : Nat → List AV → AH → O) => pCells a0 fun c1 =>
 pNew h c1 fun b2 h3 =>
 pFld 0 ((.ptr b2 0)) fun v4 =>
 pLd h3 none v4 fun v5 =>
 asK .i64 v5 fun n6 =>
 pCallB call 49 [.int .i64 n6, .int .i64 (0), .int .i64 (IntKind.i64.wrap (a1 - (1)))] h3 fun b8 h7 =>
 bif b8 then (pFld 1 ((.ptr b2 0)) fun v9 =>
 pLd h7 none v9 fun v10 =>
 asK .i64 v10 fun n11 =>
 pCallB call 49 [.int .i64 n11, .int .i64 (1), .int .i64 (4)] h7 fun b13 h12 =>
 bif b13 then (pFld 2 ((.ptr b2 0)) fun v14 =>
 pLd h12 none v14 fun v15 =>
 asK .i64 v15 fun n16 =>
 pCallB call 49 [.int .i64 n16, .int .i64 (-9999), .int .i64 (9999)] h12 fun b18 h17 =>
 some (.bool b18, h17))
 else (some (.bool false, h12)))
 else (some (.bool false, h7))) (run T k) := by unfold run; rw [hT]; kernel_rfl
/- loop.example/dataflow/spec.validColumns: number 256 -/
def spec_validColumns.c3 : AC :=
 (.reg none [⟨0, (some 10), .move (.t 5), .any, none, []⟩,
   ⟨1, (some 11), .bin .add (.t 10) (.c (.int .i64 (1))), .any, none, []⟩,
   ⟨2, (some 5), .move (.t 11), .any, none, []⟩])
def spec_validColumns.c2 : AC :=
 (.seq (some [(0, .any), (1, (.int .i64)), (5, (.int .i64))])
 (.block 1 (.seq none
   (.reg none [⟨0, (some 12), .move (.t 0), .any, none, []⟩,
      ⟨1, (some 13), .move (.t 5), .any, none, []⟩,
      ⟨2, (some 14), .idx 1 (.t 12) (.t 13), .any, none, []⟩,
      ⟨3, (some 15), .load none (.t 14), (.int .i64), none, []⟩,
      ⟨4, (some 16), .move (.t 1), .any, none, []⟩,
      ⟨5, (some 17), .bin .sub (.t 16) (.c (.int .i64 (1))), .any, none, []⟩,
      ⟨6, (some 18), .call 49 [(.t 15), (.c (.int .i64 (0))), (.t 17)], .bool, none, []⟩,
      ⟨7, (some 19), .not (.t 18), .any, none, []⟩])
   (.cond (.t 19)
   (.seq none
    (.reg none [⟨0, (some 4), .move (.c (.bool false)), .any, none, []⟩])
    (.ret))
   (.skip))))
 (spec_validColumns.c3))
def spec_validColumns.c1 : AC :=
 (.seq (some [(0, .any), (1, (.int .i64)), (5, (.int .i64))])
 (.seq none
  (.reg none [⟨0, (some 6), .move (.t 5), .any, none, []⟩,
     ⟨1, (some 7), .move (.t 0), .any, none, []⟩,
     ⟨2, (some 8), .len (.t 7), .any, none, []⟩,
     ⟨3, (some 9), .bin .lss (.t 6) (.t 8), .any, none, []⟩])
  (.cond (.t 9)
  (.skip)
  (.exit 0)))
 (spec_validColumns.c2))
def spec_validColumns.c4 : AC :=
 (.seq none
 (.reg none [⟨0, (some 20), .move (.t 0), .any, none, []⟩,
    ⟨1, (some 21), .len (.t 20), .any, none, []⟩,
    ⟨2, (some 22), .call 49 [(.t 21), (.c (.int .i64 (1))), (.c (.int .i64 (6)))], .bool, none, []⟩,
    ⟨3, (some 4), .move (.t 22), .any, none, []⟩])
 (.ret))
def spec_validColumns.ir : AF := ⟨[(0, .any), (1, (.int .i64))], 23, [.tmp 4],
 (.seq none
 (.reg none [⟨0, (some 4), .move (.c (.bool false)), .any, none, []⟩])
 (.seq (some [(0, .any)])
 (.seq none
  (.reg none [⟨0, (some 5), .move (.c (.int .i64 (0))), .any, none, []⟩])
  (.block 0 (.loop [(0, .any), (1, (.int .i64)), (5, (.int .i64))] spec_validColumns.c1)))
 (spec_validColumns.c4)))⟩
noncomputable abbrev spec_validColumns.K4 (call : Nat → List AV → AH → O) (k : Nat) : KX := seqK (some [(0, .any)]) (exec call k spec_validColumns.c4 (fin [.tmp 4])) (fin [.tmp 4])
noncomputable abbrev spec_validColumns.K1 (call : Nat → List AV → AH → O) (k : Nat) (i1 : Nat) : KX := loopK [(0, .any), (1, (.int .i64)), (5, (.int .i64))] (loopE (exec call k spec_validColumns.c1) [(0, .any), (1, (.int .i64)), (5, (.int .i64))] i1 (blockK 0 (spec_validColumns.K4 call k))) (blockK 0 (spec_validColumns.K4 call k))
noncomputable abbrev spec_validColumns.K3 (call : Nat → List AV → AH → O) (k : Nat) (i1 : Nat) : KX := seqK (some [(0, .any), (1, (.int .i64)), (5, (.int .i64))]) (exec call k spec_validColumns.c3 (spec_validColumns.K1 call k i1)) (spec_validColumns.K1 call k i1)
noncomputable abbrev spec_validColumns.K2 (call : Nat → List AV → AH → O) (k : Nat) (i1 : Nat) : KX := seqK (some [(0, .any), (1, (.int .i64)), (5, (.int .i64))]) (exec call k spec_validColumns.c2 (spec_validColumns.K1 call k i1)) (spec_validColumns.K1 call k i1)
noncomputable abbrev spec_validColumns.J4 (call : Nat → List AV → AH → O) (k : Nat) (x0 : AV) (h : AH) : O := exec call k spec_validColumns.c4 (fin [.tmp 4]) [x0, .junk, .junk, .junk, .junk, .junk, .junk, .junk, .junk, .junk, .junk, .junk, .junk, .junk, .junk, .junk, .junk, .junk, .junk, .junk, .junk, .junk, .junk] h
noncomputable abbrev spec_validColumns.J3 (call : Nat → List AV → AH → O) (k : Nat) (i1 : Nat) (x0 : AV) (x1 : Int) (x5 : Int) (h : AH) : O := exec call k spec_validColumns.c3 (spec_validColumns.K1 call k i1) [x0, .int .i64 x1, .junk, .junk, .junk, .int .i64 x5, .junk, .junk, .junk, .junk, .junk, .junk, .junk, .junk, .junk, .junk, .junk, .junk, .junk, .junk, .junk, .junk, .junk] h
noncomputable abbrev spec_validColumns.J2 (call : Nat → List AV → AH → O) (k : Nat) (i1 : Nat) (x0 : AV) (x1 : Int) (x5 : Int) (h : AH) : O := exec call k spec_validColumns.c2 (spec_validColumns.K1 call k i1) [x0, .int .i64 x1, .junk, .junk, .junk, .int .i64 x5, .junk, .junk, .junk, .junk, .junk, .junk, .junk, .junk, .junk, .junk, .junk, .junk, .junk, .junk, .junk, .junk, .junk] h
noncomputable abbrev spec_validColumns.L1 (call : Nat → List AV → AH → O) (k : Nat) (i1 : Nat) (x0 : AV) (x1 : Int) (x5 : Int) (h : AH) : O := loopE (exec call k spec_validColumns.c1) [(0, .any), (1, (.int .i64)), (5, (.int .i64))] i1 (blockK 0 (spec_validColumns.K4 call k)) [x0, .int .i64 x1, .junk, .junk, .junk, .int .i64 x5, .junk, .junk, .junk, .junk, .junk, .junk, .junk, .junk, .junk, .junk, .junk, .junk, .junk, .junk, .junk, .junk, .junk] h
theorem spec_validColumns.J4_eq (call : Nat → List AV → AH → O) (k : Nat) (x0 : AV) (h : AH) : spec_validColumns.J4 call k x0 h =
 pLen x0 fun m1 =>
 pCallB call 49 [.int .i64 (m1 : Int), .int .i64 (1), .int .i64 (6)] h fun b3 h2 =>
 some (.bool b3, h2) := by kernel_rfl
theorem spec_validColumns.J3_eq (call : Nat → List AV → AH → O) (k : Nat) (i1 : Nat) (x0 : AV) (x1 : Int) (x5 : Int) (h : AH) : spec_validColumns.J3 call k i1 x0 x1 x5 h =
 spec_validColumns.L1 call k i1 x0 x1 (IntKind.i64.wrap (x5 + (1))) h := by kernel_rfl
theorem spec_validColumns.J2_eq (call : Nat → List AV → AH → O) (k : Nat) (i1 : Nat) (x0 : AV) (x1 : Int) (x5 : Int) (h : AH) : spec_validColumns.J2 call k i1 x0 x1 x5 h =
 pIdx 1 x0 x5 fun v4 =>
 pLd h none v4 fun v5 =>
 asK .i64 v5 fun n6 =>
 pCallB call 49 [.int .i64 n6, .int .i64 (0), .int .i64 (IntKind.i64.wrap (x1 - (1)))] h fun b8 h7 =>
 bif (!b8) then (some (.bool false, h7))
 else (spec_validColumns.J3 call k i1 x0 x1 x5 h7) := by kernel_rfl
theorem spec_validColumns.L1_zero (call : Nat → List AV → AH → O) (k : Nat) (x0 : AV) (x1 : Int) (x5 : Int) (h : AH) : spec_validColumns.L1 call k 0 x0 x1 x5 h = none := rfl
theorem spec_validColumns.L1_succ (call : Nat → List AV → AH → O) (k : Nat) (i1 : Nat) (x0 : AV) (x1 : Int) (x5 : Int) (h : AH) : spec_validColumns.L1 call k (i1 + 1) x0 x1 x5 h =
 pLen x0 fun m9 =>
 bif (decide (x5 < (m9 : Int))) then (spec_validColumns.J2 call k i1 x0 x1 x5 h)
 else (spec_validColumns.J4 call k x0 h) := by kernel_rfl
theorem spec_validColumns_run (T : Nat → Option AF) (hT : T 256 = some spec_validColumns.ir) (k : Nat) (a0 : AV) (a1 : Int) (h : AH) : run T (k + 1) 256 [a0, .int .i64 a1] h =
 (fun (call : Nat → List AV → AH → O) => spec_validColumns.L1 call k k a0 a1 (0) h) (run T k) := by unfold run; rw [hT]; kernel_rfl
/- loop.example/dataflow/spec.reducible: number 257 -/
def spec_reducible.ir : AF := ⟨[(0, (.int .i64)), (1, (.int .i64)), (2, (.int .i64)), (3, (.int .i64))], 23, [.tmp 8],
 (.seq none
 (.reg none [⟨0, (some 8), .move (.c (.bool false)), .any, none, []⟩])
 (.seq none
 (.reg none [⟨0, (some 9), .move (.t 1), .any, none, []⟩,
    ⟨1, (some 10), .move (.t 0), .any, none, []⟩,
    ⟨2, (some 11), .min (.t 10) (.c (.int .i64 (5))), .any, none, []⟩,
    ⟨3, (some 12), .call 49 [(.t 9), (.c (.int .i64 (0))), (.t 11)], .bool, none, []⟩,
    ⟨4, (some 13), .move (.t 12), .any, none, []⟩,
    ⟨5, (some 14), .move (.t 2), .any, (some (13, true)), []⟩,
    ⟨6, (some 15), .call 49 [(.t 14), (.c (.int .i64 (1))), (.c (.int .i64 (4)))], .bool, (some (13, true)), []⟩,
    ⟨7, (some 16), .pick (.t 13) (.t 15) (.c (.bool false)), .any, none, []⟩,
    ⟨8, (some 17), .move (.t 16), .any, none, []⟩,
    ⟨9, (some 18), .move (.t 3), .any, (some (17, true)), []⟩,
    ⟨10, (some 19), .move (.t 0), .any, (some (17, true)), []⟩,
    ⟨11, (some 20), .bin .sub (.t 19) (.c (.int .i64 (1))), .any, (some (17, true)), []⟩,
    ⟨12, (some 21), .call 49 [(.t 18), (.c (.int .i64 (0))), (.t 20)], .bool, (some (17, true)), []⟩,
    ⟨13, (some 22), .pick (.t 17) (.t 21) (.c (.bool false)), .any, none, []⟩,
    ⟨14, (some 8), .move (.t 22), .any, none, []⟩])
 (.ret)))⟩
theorem spec_reducible_run (T : Nat → Option AF) (hT : T 257 = some spec_reducible.ir) (k : Nat) (a0 : Int) (a1 : Int) (a2 : Int) (a3 : Int) (h : AH) : run T (k + 1) 257 [.int .i64 a0, .int .i64 a1, .int .i64 a2, .int .i64 a3] h =
 (fun (call : Nat → List AV → AH → O) => pCallB call 49 [.int .i64 a1, .int .i64 (0), .int .i64 (if (5) < a0 then (5) else a0)] h fun b2 h1 =>
 bif b2 then (pCallB call 49 [.int .i64 a2, .int .i64 (1), .int .i64 (4)] h1 fun b4 h3 =>
 bif b4 then (pCallB call 49 [.int .i64 a3, .int .i64 (0), .int .i64 (IntKind.i64.wrap (a0 - (1)))] h3 fun b6 h5 =>
 some (.bool b6, h5))
 else (some (.bool false, h3)))
 else (some (.bool false, h1))) (run T k) := by unfold run; rw [hT]; kernel_rfl
/- loop.example/dataflow/spec.nodeWidth: number 240 -/
def spec_nodeWidth.c1 : AC :=
 (.seq none
 (.reg none [⟨0, (some 18), .move (.t 2), .any, none, []⟩,
    ⟨1, (some 19), .fld 1 (.t 3), .any, none, []⟩,
    ⟨2, (some 20), .load none (.t 19), (.int .i64), none, []⟩,
    ⟨3, (some 21), .idx 1 (.t 18) (.t 20), .any, none, []⟩,
    ⟨4, (some 22), .load none (.t 21), (.int .i64), none, []⟩,
    ⟨5, (some 6), .move (.t 22), .any, none, []⟩])
 (.ret))
def spec_nodeWidth.c4 : AC :=
 (.cond (.t 72)
 (.seq none
  (.reg none [⟨0, (some 75), .move (.t 7), .any, none, []⟩,
     ⟨1, (some 6), .move (.t 75), .any, none, []⟩])
  (.ret))
 (.seq none
  (.reg none [⟨0, (some 77), .bin .eql (.t 45) (.c (.int .i64 (6))), .any, none, []⟩,
     ⟨1, (some 76), .move (.t 77), .any, none, []⟩])
  (.cond (.t 76)
  (.seq none
   (.reg (some [0, 1, 0, 0, 0, 16, 56, 120, 252, 511, 1023, 2047, 2047, 2047, 10239, 30719, 63487, 131071, 2047, 264191, 1048575, 2097151, 4194303]) [⟨0, (some 78), .fld 3 (.t 3), .any, none, []⟩,
      ⟨1, (some 79), .load none (.t 78), (.int .i64), none, []⟩,
      ⟨2, (some 80), .move (.t 7), .any, none, []⟩,
      ⟨3, (some 81), .move (.t 1), .any, none, []⟩,
      ⟨4, (some 82), .fld 2 (.t 3), .any, none, []⟩,
      ⟨5, (some 83), .load none (.t 82), (.int .i64), none, []⟩,
      ⟨6, (some 84), .idx 1 (.t 81) (.t 83), .any, none, []⟩,
      ⟨7, (some 85), .load none (.t 84), (.int .i64), none, []⟩,
      ⟨8, (some 86), .min (.t 80) (.t 85), .any, none, []⟩,
      ⟨9, (some 87), .call 49 [(.t 79), (.c (.int .i64 (0))), (.t 86)], .bool, none, []⟩,
      ⟨10, (some 88), .move (.t 87), .any, none, []⟩,
      ⟨11, (some 89), .move (.t 7), .any, (some (88, true)), []⟩,
      ⟨12, (some 90), .move (.t 1), .any, (some (88, true)), []⟩,
      ⟨13, (some 91), .fld 2 (.t 3), .any, (some (88, true)), []⟩,
      ⟨14, (some 92), .load none (.t 91), (.int .i64), (some (88, true)), []⟩,
      ⟨15, (some 93), .idx 1 (.t 90) (.t 92), .any, (some (88, true)), []⟩,
      ⟨16, (some 94), .load none (.t 93), (.int .i64), (some (88, true)), []⟩,
      ⟨17, (some 95), .bin .add (.t 89) (.t 94), .any, (some (88, true)), []⟩,
      ⟨18, (some 96), .fld 3 (.t 3), .any, (some (88, true)), []⟩,
      ⟨19, (some 97), .load none (.t 96), (.int .i64), (some (88, true)), []⟩,
      ⟨20, (some 98), .bin .sub (.t 95) (.t 97), .any, (some (88, true)), []⟩,
      ⟨21, (some 99), .bin .leq (.t 98) (.c (.int .i64 (6))), .any, (some (88, true)), []⟩,
      ⟨22, (some 100), .pick (.t 88) (.t 99) (.c (.bool false)), .any, none, []⟩])
   (.cond (.t 100)
   (.seq none
    (.reg (some [0, 0, 0, 4, 14, 30, 63, 0, 128, 511, 1023]) [⟨0, (some 101), .move (.t 7), .any, none, []⟩,
       ⟨1, (some 102), .move (.t 1), .any, none, []⟩,
       ⟨2, (some 103), .fld 2 (.t 3), .any, none, []⟩,
       ⟨3, (some 104), .load none (.t 103), (.int .i64), none, []⟩,
       ⟨4, (some 105), .idx 1 (.t 102) (.t 104), .any, none, []⟩,
       ⟨5, (some 106), .load none (.t 105), (.int .i64), none, []⟩,
       ⟨6, (some 107), .bin .add (.t 101) (.t 106), .any, none, []⟩,
       ⟨7, (some 108), .fld 3 (.t 3), .any, none, []⟩,
       ⟨8, (some 109), .load none (.t 108), (.int .i64), none, []⟩,
       ⟨9, (some 110), .bin .sub (.t 107) (.t 109), .any, none, []⟩,
       ⟨10, (some 6), .move (.t 110), .any, none, []⟩])
    (.ret))
   (.skip)))
  (.seq none
   (.reg none [⟨0, (some 112), .bin .eql (.t 45) (.c (.int .i64 (8))), .any, none, []⟩,
      ⟨1, (some 111), .move (.t 112), .any, none, []⟩])
   (.cond (.t 111)
   (.seq none
    (.reg none [⟨0, (some 113), .move (.t 7), .any, none, []⟩,
       ⟨1, (some 114), .fld 3 (.t 3), .any, none, []⟩,
       ⟨2, (some 115), .load none (.t 114), (.int .i64), none, []⟩,
       ⟨3, (some 116), .fld 8 (.t 3), .any, none, []⟩,
       ⟨4, (some 117), .load none (.t 116), (.int .i64), none, []⟩,
       ⟨5, (some 118), .fld 9 (.t 3), .any, none, []⟩,
       ⟨6, (some 119), .load none (.t 118), (.int .i64), none, []⟩,
       ⟨7, (some 120), .call 257 [(.t 113), (.t 115), (.t 117), (.t 119)], .bool, none, []⟩])
    (.cond (.t 120)
    (.seq none
     (.reg none [⟨0, (some 121), .fld 3 (.t 3), .any, none, []⟩,
        ⟨1, (some 122), .load none (.t 121), (.int .i64), none, []⟩,
        ⟨2, (some 123), .bin .add (.t 122) (.c (.int .i64 (1))), .any, none, []⟩,
        ⟨3, (some 6), .move (.t 123), .any, none, []⟩])
     (.ret))
    (.skip)))
   (.skip))))))
def spec_nodeWidth.c5 : AC :=
 (.seq none
 (.reg none [⟨0, (some 6), .move (.c (.int .i64 (0))), .any, none, []⟩])
 (.ret))
def spec_nodeWidth.c3 : AC :=
 (.seq none
 (.reg none [⟨0, (some 39), .move (.t 1), .any, none, []⟩,
    ⟨1, (some 40), .fld 1 (.t 3), .any, none, []⟩,
    ⟨2, (some 41), .load none (.t 40), (.int .i64), none, []⟩,
    ⟨3, (some 42), .idx 1 (.t 39) (.t 41), .any, none, []⟩,
    ⟨4, (some 43), .load none (.t 42), (.int .i64), none, []⟩,
    ⟨5, (some 7), .move (.t 43), .any, none, []⟩])
 (.seq (some [])
 (.seq none
  (.reg none [⟨0, (some 44), .fld 0 (.t 3), .any, none, []⟩,
     ⟨1, (some 45), .load none (.t 44), (.int .i64), none, []⟩])
  (.block 0 (.seq none
   (.reg none [⟨0, (some 47), .bin .eql (.t 45) (.c (.int .i64 (2))), .any, none, []⟩,
      ⟨1, (some 46), .move (.t 47), .any, none, []⟩])
   (.cond (.t 46)
   (.seq none
    (.reg none [⟨0, (some 48), .fld 5 (.t 3), .any, none, []⟩,
       ⟨1, (some 49), .load (some 3) (.t 48), .any, none, []⟩,
       ⟨2, (some 50), .move (.t 7), .any, none, []⟩,
       ⟨3, (some 51), .call 255 [(.t 49), (.t 50)], .bool, none, []⟩])
    (.cond (.t 51)
    (.seq none
     (.reg none [⟨0, (some 52), .move (.t 7), .any, none, []⟩,
        ⟨1, (some 6), .move (.t 52), .any, none, []⟩])
     (.ret))
    (.skip)))
   (.seq none
    (.reg none [⟨0, (some 54), .bin .eql (.t 45) (.c (.int .i64 (3))), .any, none, []⟩,
       ⟨1, (some 53), .move (.t 54), .any, none, []⟩])
    (.cond (.t 53)
    (.seq none
     (.reg none [⟨0, (some 55), .fld 4 (.t 3), .any, none, []⟩,
        ⟨1, (some 56), .load none (.t 55), .any, none, []⟩,
        ⟨2, (some 57), .move (.t 7), .any, none, []⟩,
        ⟨3, (some 58), .call 256 [(.t 56), (.t 57)], .bool, none, []⟩])
     (.cond (.t 58)
     (.seq none
      (.reg none [⟨0, (some 59), .fld 4 (.t 3), .any, none, []⟩,
         ⟨1, (some 60), .load none (.t 59), .any, none, []⟩,
         ⟨2, (some 61), .len (.t 60), .any, none, []⟩,
         ⟨3, (some 6), .move (.t 61), .any, none, []⟩])
      (.ret))
     (.skip)))
    (.seq none
     (.reg none [⟨0, (some 63), .bin .eql (.t 45) (.c (.int .i64 (4))), .any, none, []⟩,
        ⟨1, (some 62), .move (.t 63), .any, none, []⟩])
     (.cond (.t 62)
     (.seq none
      (.reg none [⟨0, (some 64), .move (.t 7), .any, none, []⟩,
         ⟨1, (some 65), .move (.t 1), .any, none, []⟩,
         ⟨2, (some 66), .fld 2 (.t 3), .any, none, []⟩,
         ⟨3, (some 67), .load none (.t 66), (.int .i64), none, []⟩,
         ⟨4, (some 68), .idx 1 (.t 65) (.t 67), .any, none, []⟩,
         ⟨5, (some 69), .load none (.t 68), (.int .i64), none, []⟩,
         ⟨6, (some 70), .bin .eql (.t 64) (.t 69), .any, none, []⟩])
      (.cond (.t 70)
      (.seq none
       (.reg none [⟨0, (some 71), .move (.t 7), .any, none, []⟩,
          ⟨1, (some 6), .move (.t 71), .any, none, []⟩])
       (.ret))
      (.skip)))
     (.seq (some [(1, .any), (3, .any), (7, (.int .i64)), (45, (.int .i64)), (72, .bool)])
      (.seq none
       (.reg none [⟨0, (some 73), .bin .eql (.t 45) (.c (.int .i64 (5))), .any, none, []⟩,
          ⟨1, (some 72), .move (.t 73), .any, none, []⟩])
       (.cond (.t 72)
       (.skip)
       (.reg none [⟨0, (some 74), .bin .eql (.t 45) (.c (.int .i64 (7))), .any, none, []⟩,
          ⟨1, (some 72), .move (.t 74), .any, none, []⟩])))
      (spec_nodeWidth.c4))))))))))
 (spec_nodeWidth.c5)))
def spec_nodeWidth.c2 : AC :=
 (.seq (some [(1, .any), (3, .any)])
 (.seq none
  (.reg none [⟨0, (some 23), .fld 1 (.t 3), .any, none, []⟩,
     ⟨1, (some 24), .load none (.t 23), (.int .i64), none, []⟩,
     ⟨2, (some 25), .move (.t 1), .any, none, []⟩,
     ⟨3, (some 26), .len (.t 25), .any, none, []⟩,
     ⟨4, (some 27), .bin .sub (.t 26) (.c (.int .i64 (1))), .any, none, []⟩,
     ⟨5, (some 28), .call 49 [(.t 24), (.c (.int .i64 (0))), (.t 27)], .bool, none, []⟩,
     ⟨6, (some 29), .not (.t 28), .any, none, []⟩,
     ⟨7, (some 30), .move (.t 29), .any, none, []⟩,
     ⟨8, (some 31), .fld 2 (.t 3), .any, (some (30, false)), []⟩,
     ⟨9, (some 32), .load none (.t 31), (.int .i64), (some (30, false)), []⟩,
     ⟨10, (some 33), .move (.t 1), .any, (some (30, false)), []⟩,
     ⟨11, (some 34), .len (.t 33), .any, (some (30, false)), []⟩,
     ⟨12, (some 35), .bin .sub (.t 34) (.c (.int .i64 (1))), .any, (some (30, false)), []⟩,
     ⟨13, (some 36), .call 49 [(.t 32), (.c (.int .i64 (0))), (.t 35)], .bool, (some (30, false)), []⟩,
     ⟨14, (some 37), .not (.t 36), .any, (some (30, false)), []⟩,
     ⟨15, (some 38), .pick (.t 30) (.c (.bool true)) (.t 37), .any, none, []⟩])
  (.cond (.t 38)
  (.seq none
   (.reg none [⟨0, (some 6), .move (.c (.int .i64 (0))), .any, none, []⟩])
   (.ret))
  (.skip)))
 (spec_nodeWidth.c3))
def spec_nodeWidth.ir : AF := ⟨[(0, .any), (1, .any), (2, .any)], 124, [.tmp 6],
 (.seq none
 (.reg none [⟨0, (some 3), .box (.t 0), .any, none, []⟩,
    ⟨1, (some 6), .move (.c (.int .i64 (0))), .any, none, []⟩])
 (.seq (some [(1, .any), (3, .any)])
 (.seq none
  (.reg none [⟨0, (some 8), .fld 0 (.t 3), .any, none, []⟩,
     ⟨1, (some 9), .load none (.t 8), (.int .i64), none, []⟩,
     ⟨2, (some 10), .bin .eql (.t 9) (.c (.int .i64 (1))), .any, none, []⟩])
  (.cond (.t 10)
  (.seq (some [(2, .any), (3, .any)])
   (.seq none
    (.reg none [⟨0, (some 11), .fld 1 (.t 3), .any, none, []⟩,
       ⟨1, (some 12), .load none (.t 11), (.int .i64), none, []⟩,
       ⟨2, (some 13), .move (.t 2), .any, none, []⟩,
       ⟨3, (some 14), .len (.t 13), .any, none, []⟩,
       ⟨4, (some 15), .bin .sub (.t 14) (.c (.int .i64 (1))), .any, none, []⟩,
       ⟨5, (some 16), .call 49 [(.t 12), (.c (.int .i64 (0))), (.t 15)], .bool, none, []⟩,
       ⟨6, (some 17), .not (.t 16), .any, none, []⟩])
    (.cond (.t 17)
    (.seq none
     (.reg none [⟨0, (some 6), .move (.c (.int .i64 (0))), .any, none, []⟩])
     (.ret))
    (.skip)))
   (spec_nodeWidth.c1))
  (.skip)))
 (spec_nodeWidth.c2)))⟩
noncomputable abbrev spec_nodeWidth.K5 (call : Nat → List AV → AH → O) (k : Nat) : KX := seqK (some []) (exec call k spec_nodeWidth.c5 (fin [.tmp 6])) (fin [.tmp 6])
noncomputable abbrev spec_nodeWidth.K4 (call : Nat → List AV → AH → O) (k : Nat) : KX := seqK (some [(1, .any), (3, .any), (7, (.int .i64)), (45, (.int .i64)), (72, .bool)]) (exec call k spec_nodeWidth.c4 (blockK 0 (spec_nodeWidth.K5 call k))) (blockK 0 (spec_nodeWidth.K5 call k))
noncomputable abbrev spec_nodeWidth.K3 (call : Nat → List AV → AH → O) (k : Nat) : KX := seqK (some [(1, .any), (3, .any)]) (exec call k spec_nodeWidth.c3 (fin [.tmp 6])) (fin [.tmp 6])
noncomputable abbrev spec_nodeWidth.K2 (call : Nat → List AV → AH → O) (k : Nat) : KX := seqK (some [(1, .any), (3, .any)]) (exec call k spec_nodeWidth.c2 (fin [.tmp 6])) (fin [.tmp 6])
noncomputable abbrev spec_nodeWidth.K1 (call : Nat → List AV → AH → O) (k : Nat) : KX := seqK (some [(2, .any), (3, .any)]) (exec call k spec_nodeWidth.c1 (spec_nodeWidth.K2 call k)) (spec_nodeWidth.K2 call k)
noncomputable abbrev spec_nodeWidth.J5 (call : Nat → List AV → AH → O) (k : Nat) (h : AH) : O := exec call k spec_nodeWidth.c5 (fin [.tmp 6]) [.junk, .junk, .junk, .junk, .junk, .junk, .junk, .junk, .junk, .junk, .junk, .junk, .junk, .junk, .junk, .junk, .junk, .junk, .junk, .junk, .junk, .junk, .junk, .junk, .junk, .junk, .junk, .junk, .junk, .junk, .junk, .junk, .junk, .junk, .junk, .junk, .junk, .junk, .junk, .junk, .junk, .junk, .junk, .junk, .junk, .junk, .junk, .junk, .junk, .junk, .junk, .junk, .junk, .junk, .junk, .junk, .junk, .junk, .junk, .junk, .junk, .junk, .junk, .junk, .junk, .junk, .junk, .junk, .junk, .junk, .junk, .junk, .junk, .junk, .junk, .junk, .junk, .junk, .junk, .junk, .junk, .junk, .junk, .junk, .junk, .junk, .junk, .junk, .junk, .junk, .junk, .junk, .junk, .junk, .junk, .junk, .junk, .junk, .junk, .junk, .junk, .junk, .junk, .junk, .junk, .junk, .junk, .junk, .junk, .junk, .junk, .junk, .junk, .junk, .junk, .junk, .junk, .junk, .junk, .junk, .junk, .junk, .junk, .junk] h
noncomputable abbrev spec_nodeWidth.J4 (call : Nat → List AV → AH → O) (k : Nat) (x1 : AV) (x3 : AV) (x7 : Int) (x45 : Int) (x72 : Bool) (h : AH) : O := exec call k spec_nodeWidth.c4 (blockK 0 (spec_nodeWidth.K5 call k)) [.junk, x1, .junk, x3, .junk, .junk, .junk, .int .i64 x7, .junk, .junk, .junk, .junk, .junk, .junk, .junk, .junk, .junk, .junk, .junk, .junk, .junk, .junk, .junk, .junk, .junk, .junk, .junk, .junk, .junk, .junk, .junk, .junk, .junk, .junk, .junk, .junk, .junk, .junk, .junk, .junk, .junk, .junk, .junk, .junk, .junk, .int .i64 x45, .junk, .junk, .junk, .junk, .junk, .junk, .junk, .junk, .junk, .junk, .junk, .junk, .junk, .junk, .junk, .junk, .junk, .junk, .junk, .junk, .junk, .junk, .junk, .junk, .junk, .junk, .bool x72, .junk, .junk, .junk, .junk, .junk, .junk, .junk, .junk, .junk, .junk, .junk, .junk, .junk, .junk, .junk, .junk, .junk, .junk, .junk, .junk, .junk, .junk, .junk, .junk, .junk, .junk, .junk, .junk, .junk, .junk, .junk, .junk, .junk, .junk, .junk, .junk, .junk, .junk, .junk, .junk, .junk, .junk, .junk, .junk, .junk, .junk, .junk, .junk, .junk, .junk, .junk] h
noncomputable abbrev spec_nodeWidth.J3 (call : Nat → List AV → AH → O) (k : Nat) (x1 : AV) (x3 : AV) (h : AH) : O := exec call k spec_nodeWidth.c3 (fin [.tmp 6]) [.junk, x1, .junk, x3, .junk, .junk, .junk, .junk, .junk, .junk, .junk, .junk, .junk, .junk, .junk, .junk, .junk, .junk, .junk, .junk, .junk, .junk, .junk, .junk, .junk, .junk, .junk, .junk, .junk, .junk, .junk, .junk, .junk, .junk, .junk, .junk, .junk, .junk, .junk, .junk, .junk, .junk, .junk, .junk, .junk, .junk, .junk, .junk, .junk, .junk, .junk, .junk, .junk, .junk, .junk, .junk, .junk, .junk, .junk, .junk, .junk, .junk, .junk, .junk, .junk, .junk, .junk, .junk, .junk, .junk, .junk, .junk, .junk, .junk, .junk, .junk, .junk, .junk, .junk, .junk, .junk, .junk, .junk, .junk, .junk, .junk, .junk, .junk, .junk, .junk, .junk, .junk, .junk, .junk, .junk, .junk, .junk, .junk, .junk, .junk, .junk, .junk, .junk, .junk, .junk, .junk, .junk, .junk, .junk, .junk, .junk, .junk, .junk, .junk, .junk, .junk, .junk, .junk, .junk, .junk, .junk, .junk, .junk, .junk] h
noncomputable abbrev spec_nodeWidth.J2 (call : Nat → List AV → AH → O) (k : Nat) (x1 : AV) (x3 : AV) (h : AH) : O := exec call k spec_nodeWidth.c2 (fin [.tmp 6]) [.junk, x1, .junk, x3, .junk, .junk, .junk, .junk, .junk, .junk, .junk, .junk, .junk, .junk, .junk, .junk, .junk, .junk, .junk, .junk, .junk, .junk, .junk, .junk, .junk, .junk, .junk, .junk, .junk, .junk, .junk, .junk, .junk, .junk, .junk, .junk, .junk, .junk, .junk, .junk, .junk, .junk, .junk, .junk, .junk, .junk, .junk, .junk, .junk, .junk, .junk, .junk, .junk, .junk, .junk, .junk, .junk, .junk, .junk, .junk, .junk, .junk, .junk, .junk, .junk, .junk, .junk, .junk, .junk, .junk, .junk, .junk, .junk, .junk, .junk, .junk, .junk, .junk, .junk, .junk, .junk, .junk, .junk, .junk, .junk, .junk, .junk, .junk, .junk, .junk, .junk, .junk, .junk, .junk, .junk, .junk, .junk, .junk, .junk, .junk, .junk, .junk, .junk, .junk, .junk, .junk, .junk, .junk, .junk, .junk, .junk, .junk, .junk, .junk, .junk, .junk, .junk, .junk, .junk, .junk, .junk, .junk, .junk, .junk] h
noncomputable abbrev spec_nodeWidth.J1 (call : Nat → List AV → AH → O) (k : Nat) (x2 : AV) (x3 : AV) (h : AH) : O := exec call k spec_nodeWidth.c1 (spec_nodeWidth.K2 call k) [.junk, .junk, x2, x3, .junk, .junk, .junk, .junk, .junk, .junk, .junk, .junk, .junk, .junk, .junk, .junk, .junk, .junk, .junk, .junk, .junk, .junk, .junk, .junk, .junk, .junk, .junk, .junk, .junk, .junk, .junk, .junk, .junk, .junk, .junk, .junk, .junk, .junk, .junk, .junk, .junk, .junk, .junk, .junk, .junk, .junk, .junk, .junk, .junk, .junk, .junk, .junk, .junk, .junk, .junk, .junk, .junk, .junk, .junk, .junk, .junk, .junk, .junk, .junk, .junk, .junk, .junk, .junk, .junk, .junk, .junk, .junk, .junk, .junk, .junk, .junk, .junk, .junk, .junk, .junk, .junk, .junk, .junk, .junk, .junk, .junk, .junk, .junk, .junk, .junk, .junk, .junk, .junk, .junk, .junk, .junk, .junk, .junk, .junk, .junk, .junk, .junk, .junk, .junk, .junk, .junk, .junk, .junk, .junk, .junk, .junk, .junk, .junk, .junk, .junk, .junk, .junk, .junk, .junk, .junk, .junk, .junk, .junk, .junk] h
theorem spec_nodeWidth.J5_eq (call : Nat → List AV → AH → O) (k : Nat) (h : AH) : spec_nodeWidth.J5 call k h =
 some (.int .i64 (0), h) := by kernel_rfl
theorem spec_nodeWidth.J4_eq (call : Nat → List AV → AH → O) (k : Nat) (x1 : AV) (x3 : AV) (x7 : Int) (x45 : Int) (x72 : Bool) (h : AH) : spec_nodeWidth.J4 call k x1 x3 x7 x45 x72 h =
 bif x72 then (some (.int .i64 x7, h))
 else (bif (x45 == (6)) then (pFld 3 x3 fun v30 =>
 pLd h none v30 fun v31 =>
 asK .i64 v31 fun n32 =>
 pFld 2 x3 fun v33 =>
 pLd h none v33 fun v34 =>
 asK .i64 v34 fun n35 =>
 pIdx 1 x1 n35 fun v36 =>
 pLd h none v36 fun v37 =>
 asK .i64 v37 fun n38 =>
 pCallB call 49 [.int .i64 n32, .int .i64 (0), .int .i64 (if n38 < x7 then n38 else x7)] h fun b40 h39 =>
 bif b40 then (pFld 2 x3 fun v41 =>
 pLd h39 none v41 fun v42 =>
 asK .i64 v42 fun n43 =>
 pIdx 1 x1 n43 fun v44 =>
 pLd h39 none v44 fun v45 =>
 asK .i64 v45 fun n46 =>
 pFld 3 x3 fun v47 =>
 pLd h39 none v47 fun v48 =>
 asK .i64 v48 fun n49 =>
 bif ((decide ((IntKind.i64.wrap ((IntKind.i64.wrap (x7 + n46)) - n49)) ≤ (6)))) then (pFld 2 x3 fun v50 =>
 pLd h39 none v50 fun v51 =>
 asK .i64 v51 fun n52 =>
 pIdx 1 x1 n52 fun v53 =>
 pLd h39 none v53 fun v54 =>
 asK .i64 v54 fun n55 =>
 pFld 3 x3 fun v56 =>
 pLd h39 none v56 fun v57 =>
 asK .i64 v57 fun n58 =>
 some (.int .i64 (IntKind.i64.wrap ((IntKind.i64.wrap (x7 + n55)) - n58)), h39))
 else (spec_nodeWidth.J5 call k h39))
 else (spec_nodeWidth.J5 call k h39))
 else (bif (x45 == (8)) then (pFld 3 x3 fun v59 =>
 pLd h none v59 fun v60 =>
 asK .i64 v60 fun n61 =>
 pFld 8 x3 fun v62 =>
 pLd h none v62 fun v63 =>
 asK .i64 v63 fun n64 =>
 pFld 9 x3 fun v65 =>
 pLd h none v65 fun v66 =>
 asK .i64 v66 fun n67 =>
 pCallB call 257 [.int .i64 x7, .int .i64 n61, .int .i64 n64, .int .i64 n67] h fun b69 h68 =>
 bif b69 then (pFld 3 x3 fun v70 =>
 pLd h68 none v70 fun v71 =>
 asK .i64 v71 fun n72 =>
 some (.int .i64 (IntKind.i64.wrap (n72 + (1))), h68))
 else (spec_nodeWidth.J5 call k h68))
 else (spec_nodeWidth.J5 call k h))) := by kernel_rfl
theorem spec_nodeWidth.J3_eq (call : Nat → List AV → AH → O) (k : Nat) (x1 : AV) (x3 : AV) (h : AH) : spec_nodeWidth.J3 call k x1 x3 h =
 pFld 1 x3 fun v4 =>
 pLd h none v4 fun v5 =>
 asK .i64 v5 fun n6 =>
 pIdx 1 x1 n6 fun v7 =>
 pLd h none v7 fun v8 =>
 asK .i64 v8 fun n9 =>
 pFld 0 x3 fun v10 =>
 pLd h none v10 fun v11 =>
 asK .i64 v11 fun n12 =>
 bif (n12 == (2)) then (pFld 5 x3 fun v13 =>
 pLd h (some 3) v13 fun v14 =>
 pCallB call 255 [v14, .int .i64 n9] h fun b16 h15 =>
 bif b16 then (some (.int .i64 n9, h15))
 else (spec_nodeWidth.J5 call k h15))
 else (bif (n12 == (3)) then (pFld 4 x3 fun v17 =>
 pLd h none v17 fun v18 =>
 pCallB call 256 [v18, .int .i64 n9] h fun b20 h19 =>
 bif b20 then (pFld 4 x3 fun v21 =>
 pLd h19 none v21 fun v22 =>
 pLen v22 fun m23 =>
 some (.int .i64 (m23 : Int), h19))
 else (spec_nodeWidth.J5 call k h19))
 else (bif (n12 == (4)) then (pFld 2 x3 fun v24 =>
 pLd h none v24 fun v25 =>
 asK .i64 v25 fun n26 =>
 pIdx 1 x1 n26 fun v27 =>
 pLd h none v27 fun v28 =>
 asK .i64 v28 fun n29 =>
 bif (n9 == n29) then (some (.int .i64 n9, h))
 else (spec_nodeWidth.J5 call k h))
 else (bif (n12 == (5)) then (spec_nodeWidth.J4 call k x1 x3 n9 n12 (n12 == (5)) h)
 else (spec_nodeWidth.J4 call k x1 x3 n9 n12 (n12 == (7)) h)))) := by kernel_rfl
theorem spec_nodeWidth.J2_eq (call : Nat → List AV → AH → O) (k : Nat) (x1 : AV) (x3 : AV) (h : AH) : spec_nodeWidth.J2 call k x1 x3 h =
 pFld 1 x3 fun v73 =>
 pLd h none v73 fun v74 =>
 asK .i64 v74 fun n75 =>
 pLen x1 fun m76 =>
 pCallB call 49 [.int .i64 n75, .int .i64 (0), .int .i64 (IntKind.i64.wrap ((m76 : Int) - (1)))] h fun b78 h77 =>
 bif (!b78) then (some (.int .i64 (0), h77))
 else (pFld 2 x3 fun v79 =>
 pLd h77 none v79 fun v80 =>
 asK .i64 v80 fun n81 =>
 pLen x1 fun m82 =>
 pCallB call 49 [.int .i64 n81, .int .i64 (0), .int .i64 (IntKind.i64.wrap ((m82 : Int) - (1)))] h77 fun b84 h83 =>
 bif (!b84) then (some (.int .i64 (0), h83))
 else (spec_nodeWidth.J3 call k x1 x3 h83)) := by kernel_rfl
theorem spec_nodeWidth.J1_eq (call : Nat → List AV → AH → O) (k : Nat) (x2 : AV) (x3 : AV) (h : AH) : spec_nodeWidth.J1 call k x2 x3 h =
 pFld 1 x3 fun v88 =>
 pLd h none v88 fun v89 =>
 asK .i64 v89 fun n90 =>
 pIdx 1 x2 n90 fun v91 =>
 pLd h none v91 fun v92 =>
 asK .i64 v92 fun n93 =>
 some (.int .i64 n93, h) := by kernel_rfl
theorem spec_nodeWidth_run (T : Nat → Option AF) (hT : T 240 = some spec_nodeWidth.ir) (k : Nat) (a0 : AV) (a1 : AV) (a2 : AV) (h : AH) : run T (k + 1) 240 [a0, a1, a2] h =
 (fun (call : Nat → List AV → AH → O) => pCells a0 fun c1 =>
 pNew h c1 fun b2 h3 =>
 pFld 0 ((.ptr b2 0)) fun v85 =>
 pLd h3 none v85 fun v86 =>
 asK .i64 v86 fun n87 =>
 bif (n87 == (1)) then (pFld 1 ((.ptr b2 0)) fun v94 =>
 pLd h3 none v94 fun v95 =>
 asK .i64 v95 fun n96 =>
 pLen a2 fun m97 =>
 pCallB call 49 [.int .i64 n96, .int .i64 (0), .int .i64 (IntKind.i64.wrap ((m97 : Int) - (1)))] h3 fun b99 h98 =>
 bif (!b99) then (some (.int .i64 (0), h98))
 else (spec_nodeWidth.J1 call k a2 ((.ptr b2 0)) h98))
 else (spec_nodeWidth.J2 call k a1 ((.ptr b2 0)) h3)) (run T k) := by unfold run; rw [hT]; kernel_rfl
/- loop.example/dataflow/spec.copyInts: number 75 -/
def spec_copyInts.ir : AF := ⟨[(0, .any)], 6, [.tmp 2],
 (.seq none
 (.reg none [⟨0, (some 2), .move (.c (.nils)), .any, none, []⟩])
 (.seq none
 (.reg none [⟨0, (some 3), .buildS 0 1 [] [], .any, none, []⟩,
    ⟨1, (some 4), .move (.t 0), .any, none, []⟩,
    ⟨2, (some 5), .app 1 8 (.t 3) (.t 4), .any, none, []⟩,
    ⟨3, (some 2), .move (.t 5), .any, none, []⟩])
 (.ret)))⟩
theorem spec_copyInts_run (T : Nat → Option AF) (hT : T 75 = some spec_copyInts.ir) (k : Nat) (a0 : AV) (h : AH) : run T (k + 1) 75 [a0] h =
 (fun (call : Nat → List AV → AH → O) => pFill [] [] fun c1 =>
 pNew h c1 fun b2 h3 =>
 pApp h3 1 8 ((.sl b2 0 0 1)) a0 fun v4 h5 =>
 some (v4, h5)) (run T k) := by unfold run; rw [hT]; kernel_rfl
/-- A node's cells. -/
def NodeB (n : Nat) (m : Mem) (cs : List AV) : Prop := ∃ (a b c d : Int) (x : AV) (p0 p1 p2 g e : Int) (l : List Int), cs = [.int .i64 a, .int .i64 b, .int .i64 c, .int .i64 d, x, .int .i64 p0, .int .i64 p1, .int .i64 p2, .int .i64 g, .int .i64 e] ∧ Ints m x l ∧ l.length ≤ n
abbrev Node : Mem → List AV → Prop := NodeB 1000
theorem NodeB.mono {n : Nat} {m m' : Mem} {cs : List AV} (h : NodeB n m cs) (hm : ∀ b d, m b = some d → m' b = some d) : NodeB n m' cs := by
  obtain ⟨a, b, c, d, x, p0, p1, p2, g, e, l, h1, h2, h3⟩ := h; exact ⟨a, b, c, d, x, p0, p1, p2, g, e, l, h1, h2.mono hm, h3⟩
theorem validPredicate_ok {T : Nat → Option AF} (H : T 255 = some spec_validPredicate.ir) (H49 : T 49 = some spec_inRange.ir) {k : Nat} (hk : 2 ≤ k) {h : AH} {a b c q : Int} (ok : Ok h) :
    WB (run T k 255 [.agg [.int .i64 a, .int .i64 b, .int .i64 c], .int .i64 q] h) fun _ h' => Ch [] h h' ∧ Ok h' := by
  obtain ⟨k, rfl⟩ : ∃ j, k = j + 1 := ⟨k - 1, by omega⟩
  rw [spec_validPredicate_run T H]
  have hb := AH.new_same h [.int .i64 a, .int .i64 b, .int .i64 c]
  simp only [cells_agg, new_eq, fld_at, Nat.zero_add, ld_at hb (o := 0) rfl, asK, kEq, cond_true]
  refine W.callB (inRange_ok H49 (by omega)) fun n h' ⟨_, e⟩ => ?_
  subst e
  refine W.bif_ (fun _ => ?_) fun _ => W.ret ⟨_, rfl, Ch.new, ok.new⟩
  simp only [ld_at hb (o := 1) rfl, asK, kEq, cond_true]
  refine W.callB (inRange_ok H49 (by omega)) fun n h' ⟨_, e⟩ => ?_
  subst e
  refine W.bif_ (fun _ => ?_) fun _ => W.ret ⟨_, rfl, Ch.new, ok.new⟩
  simp only [ld_at hb (o := 2) rfl, asK, kEq, cond_true]
  refine W.callB (inRange_ok H49 (by omega)) fun n h' ⟨_, e⟩ => ?_
  subst e
  exact W.ret ⟨_, rfl, Ch.new, ok.new⟩
theorem reducible_ok {T : Nat → Option AF} (H : T 257 = some spec_reducible.ir) (H49 : T 49 = some spec_inRange.ir) {k : Nat} (hk : 2 ≤ k) {h : AH} {a b c q : Int} :
    WB (run T k 257 [.int .i64 a, .int .i64 b, .int .i64 c, .int .i64 q] h) fun _ h' => h' = h := by
  obtain ⟨k, rfl⟩ : ∃ j, k = j + 1 := ⟨k - 1, by omega⟩
  rw [spec_reducible_run T H]
  refine W.callB (inRange_ok H49 (by omega)) fun n h' ⟨_, e⟩ => ?_
  subst e
  refine W.bif_ (fun _ => ?_) fun _ => W.ret ⟨_, rfl, rfl⟩
  refine W.callB (inRange_ok H49 (by omega)) fun n h' ⟨_, e⟩ => ?_
  subst e
  refine W.bif_ (fun _ => ?_) fun _ => W.ret ⟨_, rfl, rfl⟩
  refine W.callB (inRange_ok H49 (by omega)) fun n h' ⟨_, e⟩ => ?_
  subst e
  exact W.ret ⟨_, rfl, rfl⟩
theorem validColumns_loop {T : Nat → Option AF} (H49 : T 49 = some spec_inRange.ir) {k : Nat} (hk : 1 ≤ k) {h : AH} {x : AV} {l : List Int} {q : Int} (hl : Ints h.blk x l) (hn : l.length ≤ 1000000) : ∀ (d i1 : Nat) (i : Int), 0 ≤ i → i + d = l.length → d < i1 → WB (spec_validColumns.L1 (run T k) k i1 x q i h) fun _ h' => h' = h := by
  intro d
  induction d with
  | zero =>
    intro i1 i h0 h1 h2
    obtain ⟨i1, rfl⟩ : ∃ j, i1 = j + 1 := ⟨i1 - 1, by omega⟩
    rw [spec_validColumns.L1_succ]
    refine W.lenInts hl (W.bif_ (fun c => ?_) fun c => ?_)
    · have : i < l.length := by simpa using c
      omega
    · rw [spec_validColumns.J4_eq]
      refine W.lenInts hl ?_
      refine W.callB (inRange_ok H49 (by omega)) fun n h' ⟨_, e⟩ => ?_
      subst e
      exact W.ret ⟨_, rfl, rfl⟩
  | succ d ih =>
    intro i1 i h0 h1 h2
    obtain ⟨i1, rfl⟩ : ∃ j, i1 = j + 1 := ⟨i1 - 1, by omega⟩
    rw [spec_validColumns.L1_succ]
    refine W.lenInts hl (W.bif_ (fun c => ?_) fun c => ?_)
    · rw [spec_validColumns.J2_eq]
      refine W.idxInts hl h0 (by omega) fun q n _ pt => W.ldI pt ?_
      refine W.callB (inRange_ok H49 (by omega)) fun n h' ⟨_, e⟩ => ?_
      subst e
      refine W.bif_ (fun _ => W.ret ⟨_, rfl, rfl⟩) fun _ => ?_
      rw [spec_validColumns.J3_eq, wr (by omega) (by omega)]
      exact ih i1 (i + 1) (by omega) (by omega) (by omega)
    · have : (l.length : Int) ≤ i := by simpa using c
      omega
theorem validColumns_ok {T : Nat → Option AF} (H : T 256 = some spec_validColumns.ir) (H49 : T 49 = some spec_inRange.ir) {k : Nat} (hk : 1000002 ≤ k) {h : AH} {x : AV} {l : List Int} {q : Int} (hl : Ints h.blk x l) (hn : l.length ≤ 1000000) :
    WB (run T k 256 [x, .int .i64 q] h) fun _ h' => h' = h := by
  obtain ⟨k, rfl⟩ : ∃ j, k = j + 1 := ⟨k - 1, by omega⟩
  rw [spec_validColumns_run T H]
  exact validColumns_loop H49 (by omega) hl hn l.length k 0 (by omega) (by omega) (by omega)
theorem nodeWidth_ok {T : Nat → Option AF} (H : T 240 = some spec_nodeWidth.ir) (H255 : T 255 = some spec_validPredicate.ir) (H256 : T 256 = some spec_validColumns.ir) (H257 : T 257 = some spec_reducible.ir) (H49 : T 49 = some spec_inRange.ir) {k : Nat} (hk : 1000003 ≤ k) {h : AH} {cs : List AV} {x1 x2 : AV} {l1 l2 : List Int}
    (hn : Node h.blk cs) (g1 : Ints h.blk x1 l1) (n1 : l1.length ≤ 1000000) (g2 : Ints h.blk x2 l2) (n2 : l2.length ≤ 1000000) (ok : Ok h) :
    WI (run T k 240 [.agg cs, x1, x2] h) fun n h' => Ch [] h h' ∧ Ok h' ∧ ∀ a r, cs = .int .i64 1 :: .int .i64 a :: r → 0 ≤ a → a < l2.length → n ∈ l2 := by
  obtain ⟨k, rfl⟩ : ∃ j, k = j + 1 := ⟨k - 1, by omega⟩
  obtain ⟨a, b, c, d, x, p0, p1, p2, g, e, l, rfl, hx, hxl⟩ := hn
  rw [spec_nodeWidth_run T H]
  have hb := AH.new_same h [.int .i64 a, .int .i64 b, .int .i64 c, .int .i64 d, x, .int .i64 p0, .int .i64 p1, .int .i64 p2, .int .i64 g, .int .i64 e]
  have hx' := Sl.mono hx (ok.sub_new (cs := [.int .i64 a, .int .i64 b, .int .i64 c, .int .i64 d, x, .int .i64 p0, .int .i64 p1, .int .i64 p2, .int .i64 g, .int .i64 e]))
  have g1' := Sl.mono g1 (ok.sub_new (cs := [.int .i64 a, .int .i64 b, .int .i64 c, .int .i64 d, x, .int .i64 p0, .int .i64 p1, .int .i64 p2, .int .i64 g, .int .i64 e]))
  have g2' := Sl.mono g2 (ok.sub_new (cs := [.int .i64 a, .int .i64 b, .int .i64 c, .int .i64 d, x, .int .i64 p0, .int .i64 p1, .int .i64 p2, .int .i64 g, .int .i64 e]))
  have ok' := ok.new (cs := [.int .i64 a, .int .i64 b, .int .i64 c, .int .i64 d, x, .int .i64 p0, .int .i64 p1, .int .i64 p2, .int .i64 g, .int .i64 e])
  have ch := Ch.new (h := h) (cs := [.int .i64 a, .int .i64 b, .int .i64 c, .int .i64 d, x, .int .i64 p0, .int .i64 p1, .int .i64 p2, .int .i64 g, .int .i64 e])
  simp only [cells_agg, new_eq]
  generalize h.new [.int .i64 a, .int .i64 b, .int .i64 c, .int .i64 d, x, .int .i64 p0, .int .i64 p1, .int .i64 p2, .int .i64 g, .int .i64 e] = h1 at *
  generalize h.next = b0 at *
  simp only [fld_at, Nat.zero_add, ld_at hb (o := 0) rfl, ld_at hb (o := 1) rfl, asK, kEq, cond_true]
  have other : a ≠ 1 → ∀ n : Int, Ch [] h h1 ∧ Ok h1 ∧ ∀ a' r, [AV.int .i64 a, .int .i64 b, .int .i64 c, .int .i64 d, x, .int .i64 p0, .int .i64 p1, .int .i64 p2, .int .i64 g, .int .i64 e] = .int .i64 1 :: .int .i64 a' :: r → 0 ≤ a' → a' < l2.length → n ∈ l2 := by
    intro ha n
    refine ⟨ch, ok', fun a' r e' => ?_⟩
    simp at e'; exact absurd e'.1 ha
  refine W.bif_ (fun c1 => ?_) fun c1 => ?_
  · have a1 : a = 1 := by simpa using c1
    refine W.lenInts g2' ?_
    refine W.callB (inRange_ok H49 (by omega)) fun n h' ⟨en, e⟩ => ?_
    subst h'
    refine W.bif_ (fun c2 => W.ret ⟨_, rfl, ch, ok', fun a' r e' h0 h1' => ?_⟩) fun c2 => ?_
    · simp at e'
      have hf : n = false := by simpa using c2
      rw [wr (by omega) (by omega)] at en
      rw [hf] at en
      have := of_decide_eq_false en.symm
      omega
    · have ht : n = true := by simpa using c2
      rw [wr (by omega) (by omega), ht] at en
      have := of_decide_eq_true en.symm
      rw [spec_nodeWidth.J1_eq]
      simp only [fld_at, Nat.zero_add, ld_at hb (o := 1) rfl, asK, kEq, cond_true]
      refine W.idxInts g2' this.1 (by omega) fun q n hn pt => W.ldI pt (W.ret ⟨_, rfl, ch, ok', fun _ _ _ _ _ => List.mem_of_getElem? hn⟩)
  · have a1 : a ≠ 1 := by simpa using c1
    have fin := other a1
    rw [spec_nodeWidth.J2_eq]
    simp only [fld_at, Nat.zero_add, ld_at hb (o := 1) rfl, ld_at hb (o := 2) rfl, asK, kEq, cond_true]
    refine W.lenInts g1' ?_
    refine W.callB (inRange_ok H49 (by omega)) fun n h' ⟨en, e⟩ => ?_
    subst h'
    refine W.bif_ (fun c2 => W.ret ⟨_, rfl, fin _⟩) fun c2 => ?_
    have ht : n = true := by simpa using c2
    rw [wr (by omega) (by omega), ht] at en
    have r1 := of_decide_eq_true en.symm
    simp only [ld_at hb (o := 2) rfl, asK, kEq, cond_true]
    refine W.lenInts g1' ?_
    refine W.callB (inRange_ok H49 (by omega)) fun n h' ⟨en, e⟩ => ?_
    subst h'
    refine W.bif_ (fun c2 => W.ret ⟨_, rfl, fin _⟩) fun c2 => ?_
    have ht : n = true := by simpa using c2
    rw [wr (by omega) (by omega), ht] at en
    have r2 := of_decide_eq_true en.symm
    rw [spec_nodeWidth.J3_eq]
    simp only [fld_at, Nat.zero_add, ld_at hb (o := 1) rfl, asK, kEq, cond_true]
    refine W.idxInts g1' r1.1 (by omega) fun q n hn pt => W.ldI pt ?_
    simp only [ld_at hb (o := 0) rfl, ld_at hb (o := 2) rfl, ld_at hb (o := 4) rfl, asK, kEq, cond_true]
    have end5 : WI (spec_nodeWidth.J5 (run T k) k h1) fun n h' => Ch [] h h' ∧ Ok h' ∧ ∀ a' r, [AV.int .i64 a, .int .i64 b, .int .i64 c, .int .i64 d, x, .int .i64 p0, .int .i64 p1, .int .i64 p2, .int .i64 g, .int .i64 e] = .int .i64 1 :: .int .i64 a' :: r → 0 ≤ a' → a' < l2.length → n ∈ l2 := by
      rw [spec_nodeWidth.J5_eq]; exact W.ret ⟨_, rfl, fin _⟩
    have part4 : ∀ (q : Int) (t : Bool), WI (spec_nodeWidth.J4 (run T k) k x1 (.ptr b0 0) n q t h1) fun n h' => Ch [] h h' ∧ Ok h' ∧ ∀ a' r, [AV.int .i64 a, .int .i64 b, .int .i64 c, .int .i64 d, x, .int .i64 p0, .int .i64 p1, .int .i64 p2, .int .i64 g, .int .i64 e] = .int .i64 1 :: .int .i64 a' :: r → 0 ≤ a' → a' < l2.length → n ∈ l2 := by
      intro q t
      rw [spec_nodeWidth.J4_eq]
      refine W.bif_ (fun _ => W.ret ⟨_, rfl, fin _⟩) fun _ => W.bif_ (fun _ => ?_) fun _ => W.bif_ (fun _ => ?_) fun _ => end5
      · simp only [fld_at, Nat.zero_add, ld_at hb (o := 3) rfl, ld_at hb (o := 2) rfl, asK, kEq, cond_true]
        refine W.idxInts g1' r2.1 (by omega) fun q n hn pt => W.ldI pt ?_
        refine W.callB (inRange_ok H49 (by omega)) fun n h' ⟨en, e⟩ => ?_
        subst h'
        refine W.bif_ (fun _ => ?_) fun _ => end5
        simp only [ld_at hb (o := 3) rfl, ld_at hb (o := 2) rfl, asK, kEq, cond_true]
        refine W.idxInts g1' r2.1 (by omega) fun q n hn pt => W.ldI pt ?_
        refine W.bif_ (fun _ => ?_) fun _ => end5
        refine W.idxInts g1' r2.1 (by omega) fun q n hn pt => W.ldI pt ?_
        exact W.ret ⟨_, rfl, fin _⟩
      · simp only [fld_at, Nat.zero_add, ld_at hb (o := 3) rfl, ld_at hb (o := 8) rfl, ld_at hb (o := 9) rfl, asK, kEq, cond_true]
        refine W.callB (reducible_ok H257 H49 (by omega)) fun n h' e => ?_
        subst h'
        refine W.bif_ (fun _ => ?_) fun _ => end5
        simp only [ld_at hb (o := 3) rfl, asK, kEq, cond_true]
        exact W.ret ⟨_, rfl, fin _⟩
    refine W.bif_ (fun _ => ?_) fun _ => W.bif_ (fun _ => ?_) fun _ => W.bif_ (fun _ => ?_) fun _ => W.bif_ (fun _ => part4 _ _) fun _ => part4 _ _
    · refine W.ldn (cs := [.int .i64 p0, .int .i64 p1, .int .i64 p2]) ⟨_, [.int .i64 g, .int .i64 e], hb, rfl⟩ rfl ?_
      refine W.callB (validPredicate_ok H255 H49 (by omega) ok') fun n h' ⟨e1, e2⟩ => ?_
      have fin' : ∀ n : Int, Ch [] h h' ∧ Ok h' ∧ ∀ a' r, [AV.int .i64 a, .int .i64 b, .int .i64 c, .int .i64 d, x, .int .i64 p0, .int .i64 p1, .int .i64 p2, .int .i64 g, .int .i64 e] = .int .i64 1 :: .int .i64 a' :: r → 0 ≤ a' → a' < l2.length → n ∈ l2 := fun n => ⟨ch.trans0 e1, e2, (fin n).2.2⟩
      refine W.bif_ (fun _ => W.ret ⟨_, rfl, fin' _⟩) fun _ => ?_
      rw [spec_nodeWidth.J5_eq]; exact W.ret ⟨_, rfl, fin' _⟩
    · refine W.callB (validColumns_ok H256 H49 (by omega) hx' (by omega)) fun n h' e => ?_
      subst h'
      refine W.bif_ (fun _ => ?_) fun _ => end5
      simp only [ld_at hb (o := 4) rfl]
      exact W.lenInts hx' (W.ret ⟨_, rfl, fin _⟩)
    · refine W.idxInts g1' r2.1 (by omega) fun q n hn pt => W.ldI pt ?_
      exact W.bif_ (fun _ => W.ret ⟨_, rfl, fin _⟩) fun _ => end5
end Go.AM
