/- The reader: newReader, pick, one. -/
import Derived.Test.YtfcdnfbhoppefaaMP
import Derived.KernelRfl
namespace Go.AM
set_option linter.unusedVariables false
set_option linter.unusedSimpArgs false
set_option maxRecDepth 100000
/- loop.example/dataflow/spec.newReader: number 35 -/
def spec_newReader.c1 : AC :=
 (.seq none
 (.reg none [⟨0, (some 8), .move (.t 0), .any, none, []⟩,
    ⟨1, (some 9), .build [.nils, .int .i64 0] [(0, 1, (.t 8))], .any, none, []⟩,
    ⟨2, (some 10), .box (.t 9), .any, none, []⟩,
    ⟨3, (some 2), .move (.t 10), .any, none, []⟩])
 (.ret))
def spec_newReader.ir : AF := ⟨[(0, .any)], 11, [.tmp 2],
 (.seq none
 (.reg none [⟨0, (some 2), .move (.c (.nilp)), .any, none, []⟩])
 (.seq (some [(0, .any)])
 (.seq none
  (.reg none [⟨0, (some 3), .move (.t 0), .any, none, []⟩,
     ⟨1, (some 4), .len (.t 3), .any, none, []⟩,
     ⟨2, (some 5), .bin .gtr (.t 4) (.c (.int .i64 (2000))), .any, none, []⟩])
  (.cond (.t 5)
  (.reg none [⟨0, (some 6), .move (.t 0), .any, none, []⟩,
     ⟨1, (some 7), .slice 1 (.t 6) none (some (.c (.int .i64 (2000)))), .any, none, []⟩,
     ⟨2, (some 0), .move (.t 7), .any, none, []⟩])
  (.skip)))
 (spec_newReader.c1)))⟩
noncomputable abbrev spec_newReader.K1 (call : Nat → List AV → AH → O) (k : Nat) : KX := seqK (some [(0, .any)]) (exec call k spec_newReader.c1 (fin [.tmp 2])) (fin [.tmp 2])
noncomputable abbrev spec_newReader.J1 (call : Nat → List AV → AH → O) (k : Nat) (x0 : AV) (h : AH) : O := exec call k spec_newReader.c1 (fin [.tmp 2]) [x0, .junk, .junk, .junk, .junk, .junk, .junk, .junk, .junk, .junk, .junk] h
theorem spec_newReader.J1_eq (call : Nat → List AV → AH → O) (k : Nat) (x0 : AV) (h : AH) : spec_newReader.J1 call k x0 h =
 pFill [.nils, .int .i64 0] [(0, 1, x0)] fun c1 =>
 pCells ((.agg c1)) fun c2 =>
 pNew h c2 fun b3 h4 =>
 some ((.ptr b3 0), h4) := by kernel_rfl
theorem spec_newReader_run (T : Nat → Option AF) (hT : T 35 = some spec_newReader.ir) (k : Nat) (a0 : AV) (h : AH) : run T (k + 1) 35 [a0] h =
 (fun (call : Nat → List AV → AH → O) => pLen a0 fun m5 =>
 bif ((decide ((m5 : Int) > (2000)))) then (pSlice 1 a0 none (some (2000)) fun v6 =>
 spec_newReader.J1 call k v6 h)
 else (spec_newReader.J1 call k a0 h)) (run T k) := by unfold run; rw [hT]; kernel_rfl
/- (*loop.example/dataflow/spec.reader).pick: number 37 -/
def spec_reader_pick.c2 : AC :=
 (.seq none
 (.reg (some [0, 1, 3, 7, 0, 0, 32, 96, 224, 480, 1008, 2047, 4095, 8191, 16383, 0, 32768, 98304, 229376, 0, 524288, 1572864, 0, 4194304, 12582912, 29360128, 62914560, 133693440, 268402688, 536838144, 1073709056, 2147450880, 4294967295, 0, 8589934592, 34359738367, 0, 0, 137438953472, 412316860416, 962072674304, 2061584302080, 4329327034368, 8727373545472, 17592186044415, 35184372088831]) [⟨0, (some 47), .move (.t 0), .any, none, []⟩,
    ⟨1, (some 48), .nilck (.t 47), .any, none, []⟩,
    ⟨2, (some 49), .fld 0 (.t 48), .any, none, []⟩,
    ⟨3, (some 50), .load none (.t 49), .any, none, []⟩,
    ⟨4, (some 51), .move (.t 5), .any, none, []⟩,
    ⟨5, (some 52), .move (.t 0), .any, none, []⟩,
    ⟨6, (some 53), .nilck (.t 52), .any, none, []⟩,
    ⟨7, (some 54), .fld 0 (.t 53), .any, none, []⟩,
    ⟨8, (some 55), .load none (.t 54), .any, none, []⟩,
    ⟨9, (some 56), .len (.t 55), .any, none, []⟩,
    ⟨10, (some 57), .bin .rem (.t 51) (.t 56), .any, none, []⟩,
    ⟨11, (some 58), .idx 1 (.t 50) (.t 57), .any, none, []⟩,
    ⟨12, (some 59), .load none (.t 58), (.int .u8), none, []⟩,
    ⟨13, (some 60), .conv .i64 (.t 59), .any, none, []⟩,
    ⟨14, (some 61), .bin .mul (.t 60) (.c (.int .i64 (131))), .any, none, []⟩,
    ⟨15, (some 62), .move (.t 0), .any, none, []⟩,
    ⟨16, (some 63), .nilck (.t 62), .any, none, []⟩,
    ⟨17, (some 64), .fld 0 (.t 63), .any, none, []⟩,
    ⟨18, (some 65), .load none (.t 64), .any, none, []⟩,
    ⟨19, (some 66), .move (.t 5), .any, none, []⟩,
    ⟨20, (some 67), .bin .mul (.t 66) (.c (.int .i64 (7))), .any, none, []⟩,
    ⟨21, (some 68), .bin .add (.t 67) (.c (.int .i64 (3))), .any, none, []⟩,
    ⟨22, (some 69), .move (.t 0), .any, none, []⟩,
    ⟨23, (some 70), .nilck (.t 69), .any, none, []⟩,
    ⟨24, (some 71), .fld 0 (.t 70), .any, none, []⟩,
    ⟨25, (some 72), .load none (.t 71), .any, none, []⟩,
    ⟨26, (some 73), .len (.t 72), .any, none, []⟩,
    ⟨27, (some 74), .bin .rem (.t 68) (.t 73), .any, none, []⟩,
    ⟨28, (some 75), .idx 1 (.t 65) (.t 74), .any, none, []⟩,
    ⟨29, (some 76), .load none (.t 75), (.int .u8), none, []⟩,
    ⟨30, (some 77), .conv .i64 (.t 76), .any, none, []⟩,
    ⟨31, (some 78), .bin .mul (.t 77) (.c (.int .i64 (1117))), .any, none, []⟩,
    ⟨32, (some 79), .bin .add (.t 61) (.t 78), .any, none, []⟩,
    ⟨33, (some 80), .move (.t 5), .any, none, []⟩,
    ⟨34, (some 81), .bin .mul (.t 80) (.c (.int .i64 (29))), .any, none, []⟩,
    ⟨35, (some 82), .bin .add (.t 79) (.t 81), .any, none, []⟩,
    ⟨36, (some 83), .move (.t 5), .any, none, []⟩,
    ⟨37, (some 84), .move (.t 0), .any, none, []⟩,
    ⟨38, (some 85), .nilck (.t 84), .any, none, []⟩,
    ⟨39, (some 86), .fld 0 (.t 85), .any, none, []⟩,
    ⟨40, (some 87), .load none (.t 86), .any, none, []⟩,
    ⟨41, (some 88), .len (.t 87), .any, none, []⟩,
    ⟨42, (some 89), .bin .quo (.t 83) (.t 88), .any, none, []⟩,
    ⟨43, (some 90), .bin .mul (.t 89) (.c (.int .i64 (53))), .any, none, []⟩,
    ⟨44, (some 91), .bin .add (.t 82) (.t 90), .any, none, []⟩,
    ⟨45, (some 6), .move (.t 91), .any, none, []⟩])
 (.seq none
 (.reg none [⟨0, (some 92), .move (.t 6), .any, none, []⟩,
    ⟨1, (some 93), .move (.t 6), .any, none, []⟩,
    ⟨2, (some 94), .bin .quo (.t 93) (.c (.int .i64 (64))), .any, none, []⟩,
    ⟨3, (some 95), .bin .xor (.t 92) (.t 94), .any, none, []⟩,
    ⟨4, (some 6), .move (.t 95), .any, none, []⟩])
 (.seq none
 (.reg none [⟨0, (some 96), .move (.t 6), .any, none, []⟩,
    ⟨1, (some 97), .move (.t 1), .any, none, []⟩,
    ⟨2, (some 98), .bin .rem (.t 96) (.t 97), .any, none, []⟩,
    ⟨3, (some 4), .move (.t 98), .any, none, []⟩])
 (.ret))))
def spec_reader_pick.c1 : AC :=
 (.seq none
 (.reg none [⟨0, (some 25), .move (.t 0), .any, none, []⟩,
    ⟨1, (some 26), .nilck (.t 25), .any, none, []⟩,
    ⟨2, (some 27), .fld 1 (.t 26), .any, none, []⟩,
    ⟨3, (some 28), .load none (.t 27), (.int .i64), none, []⟩,
    ⟨4, (some 29), .bin .sub (.t 28) (.c (.int .i64 (1))), .any, none, []⟩,
    ⟨5, (some 5), .move (.t 29), .any, none, []⟩])
 (.seq (some [(0, .any), (1, (.int .i64)), (5, (.int .i64))])
 (.seq none
  (.reg none [⟨0, (some 30), .move (.t 5), .any, none, []⟩,
     ⟨1, (some 31), .move (.t 0), .any, none, []⟩,
     ⟨2, (some 32), .nilck (.t 31), .any, none, []⟩,
     ⟨3, (some 33), .fld 0 (.t 32), .any, none, []⟩,
     ⟨4, (some 34), .load none (.t 33), .any, none, []⟩,
     ⟨5, (some 35), .len (.t 34), .any, none, []⟩,
     ⟨6, (some 36), .bin .lss (.t 30) (.t 35), .any, none, []⟩])
  (.cond (.t 36)
  (.seq none
   (.reg none [⟨0, (some 37), .move (.t 0), .any, none, []⟩,
      ⟨1, (some 38), .nilck (.t 37), .any, none, []⟩,
      ⟨2, (some 39), .fld 0 (.t 38), .any, none, []⟩,
      ⟨3, (some 40), .load none (.t 39), .any, none, []⟩,
      ⟨4, (some 41), .move (.t 5), .any, none, []⟩,
      ⟨5, (some 42), .idx 1 (.t 40) (.t 41), .any, none, []⟩,
      ⟨6, (some 43), .load none (.t 42), (.int .u8), none, []⟩,
      ⟨7, (some 44), .conv .i64 (.t 43), .any, none, []⟩,
      ⟨8, (some 45), .move (.t 1), .any, none, []⟩,
      ⟨9, (some 46), .bin .rem (.t 44) (.t 45), .any, none, []⟩,
      ⟨10, (some 4), .move (.t 46), .any, none, []⟩])
   (.ret))
  (.skip)))
 (spec_reader_pick.c2)))
def spec_reader_pick.ir : AF := ⟨[(0, .any), (1, (.int .i64))], 99, [.tmp 4],
 (.seq none
 (.reg none [⟨0, (some 4), .move (.c (.int .i64 (0))), .any, none, []⟩])
 (.seq none
 (.reg none [⟨0, (some 7), .move (.t 0), .any, none, []⟩,
    ⟨1, (some 8), .move (.t 0), .any, none, []⟩,
    ⟨2, (some 9), .nilck (.t 8), .any, none, []⟩,
    ⟨3, (some 10), .fld 1 (.t 9), .any, none, []⟩,
    ⟨4, (some 11), .load none (.t 10), (.int .i64), none, []⟩,
    ⟨5, (some 12), .bin .add (.t 11) (.c (.int .i64 (1))), .any, none, []⟩,
    ⟨6, (some 13), .nilck (.t 7), .any, none, []⟩,
    ⟨7, (some 14), .fld 1 (.t 13), .any, none, []⟩,
    ⟨8, none, .store 1 (.t 14) (.t 12), .any, none, []⟩])
 (.seq (some [(0, .any), (1, (.int .i64))])
 (.seq none
  (.reg none [⟨0, (some 15), .move (.t 1), .any, none, []⟩,
     ⟨1, (some 16), .bin .lss (.t 15) (.c (.int .i64 (1))), .any, none, []⟩,
     ⟨2, (some 17), .move (.t 16), .any, none, []⟩,
     ⟨3, (some 18), .move (.t 0), .any, (some (17, false)), []⟩,
     ⟨4, (some 19), .nilck (.t 18), .any, (some (17, false)), []⟩,
     ⟨5, (some 20), .fld 0 (.t 19), .any, (some (17, false)), []⟩,
     ⟨6, (some 21), .load none (.t 20), .any, (some (17, false)), []⟩,
     ⟨7, (some 22), .len (.t 21), .any, (some (17, false)), []⟩,
     ⟨8, (some 23), .bin .eql (.t 22) (.c (.int .i64 (0))), .any, (some (17, false)), []⟩,
     ⟨9, (some 24), .pick (.t 17) (.c (.bool true)) (.t 23), .any, none, []⟩])
  (.cond (.t 24)
  (.seq none
   (.reg none [⟨0, (some 4), .move (.c (.int .i64 (0))), .any, none, []⟩])
   (.ret))
  (.skip)))
 (spec_reader_pick.c1))))⟩
noncomputable abbrev spec_reader_pick.K2 (call : Nat → List AV → AH → O) (k : Nat) : KX := seqK (some [(0, .any), (1, (.int .i64)), (5, (.int .i64))]) (exec call k spec_reader_pick.c2 (fin [.tmp 4])) (fin [.tmp 4])
noncomputable abbrev spec_reader_pick.K1 (call : Nat → List AV → AH → O) (k : Nat) : KX := seqK (some [(0, .any), (1, (.int .i64))]) (exec call k spec_reader_pick.c1 (fin [.tmp 4])) (fin [.tmp 4])
noncomputable abbrev spec_reader_pick.J2 (call : Nat → List AV → AH → O) (k : Nat) (x0 : AV) (x1 : Int) (x5 : Int) (h : AH) : O := exec call k spec_reader_pick.c2 (fin [.tmp 4]) [x0, .int .i64 x1, .junk, .junk, .junk, .int .i64 x5, .junk, .junk, .junk, .junk, .junk, .junk, .junk, .junk, .junk, .junk, .junk, .junk, .junk, .junk, .junk, .junk, .junk, .junk, .junk, .junk, .junk, .junk, .junk, .junk, .junk, .junk, .junk, .junk, .junk, .junk, .junk, .junk, .junk, .junk, .junk, .junk, .junk, .junk, .junk, .junk, .junk, .junk, .junk, .junk, .junk, .junk, .junk, .junk, .junk, .junk, .junk, .junk, .junk, .junk, .junk, .junk, .junk, .junk, .junk, .junk, .junk, .junk, .junk, .junk, .junk, .junk, .junk, .junk, .junk, .junk, .junk, .junk, .junk, .junk, .junk, .junk, .junk, .junk, .junk, .junk, .junk, .junk, .junk, .junk, .junk, .junk, .junk, .junk, .junk, .junk, .junk, .junk, .junk] h
noncomputable abbrev spec_reader_pick.J1 (call : Nat → List AV → AH → O) (k : Nat) (x0 : AV) (x1 : Int) (h : AH) : O := exec call k spec_reader_pick.c1 (fin [.tmp 4]) [x0, .int .i64 x1, .junk, .junk, .junk, .junk, .junk, .junk, .junk, .junk, .junk, .junk, .junk, .junk, .junk, .junk, .junk, .junk, .junk, .junk, .junk, .junk, .junk, .junk, .junk, .junk, .junk, .junk, .junk, .junk, .junk, .junk, .junk, .junk, .junk, .junk, .junk, .junk, .junk, .junk, .junk, .junk, .junk, .junk, .junk, .junk, .junk, .junk, .junk, .junk, .junk, .junk, .junk, .junk, .junk, .junk, .junk, .junk, .junk, .junk, .junk, .junk, .junk, .junk, .junk, .junk, .junk, .junk, .junk, .junk, .junk, .junk, .junk, .junk, .junk, .junk, .junk, .junk, .junk, .junk, .junk, .junk, .junk, .junk, .junk, .junk, .junk, .junk, .junk, .junk, .junk, .junk, .junk, .junk, .junk, .junk, .junk, .junk, .junk] h
theorem spec_reader_pick.J2_eq (call : Nat → List AV → AH → O) (k : Nat) (x0 : AV) (x1 : Int) (x5 : Int) (h : AH) : spec_reader_pick.J2 call k x0 x1 x5 h =
 pNil x0 fun v12 =>
 pFld 0 v12 fun v13 =>
 pLd h none v13 fun v14 =>
 pNil x0 fun v15 =>
 pFld 0 v15 fun v16 =>
 pLd h none v16 fun v17 =>
 pLen v17 fun m18 =>
 if (m18 : Int) = 0 then none else (pIdx 1 v14 (Int.tmod x5 (m18 : Int)) fun v19 =>
 pLd h none v19 fun v20 =>
 asK .u8 v20 fun n21 =>
 pNil x0 fun v22 =>
 pFld 0 v22 fun v23 =>
 pLd h none v23 fun v24 =>
 pNil x0 fun v25 =>
 pFld 0 v25 fun v26 =>
 pLd h none v26 fun v27 =>
 pLen v27 fun m28 =>
 if (m28 : Int) = 0 then none else (pIdx 1 v24 ((Int.tmod (IntKind.i64.wrap ((IntKind.i64.wrap (x5 * (7))) + (3))) (m28 : Int))) fun v29 =>
 pLd h none v29 fun v30 =>
 asK .u8 v30 fun n31 =>
 pNil x0 fun v32 =>
 pFld 0 v32 fun v33 =>
 pLd h none v33 fun v34 =>
 pLen v34 fun m35 =>
 if (m35 : Int) = 0 then none else (if x1 = 0 then none else (some (.int .i64 (Int.tmod (aBits .xor .i64 (IntKind.i64.wrap ((IntKind.i64.wrap ((IntKind.i64.wrap ((IntKind.i64.wrap ((IntKind.i64.wrap n21) * (131))) + (IntKind.i64.wrap ((IntKind.i64.wrap n31) * (1117))))) + (IntKind.i64.wrap (x5 * (29))))) + (IntKind.i64.wrap ((IntKind.i64.wrap (Int.tdiv x5 (m35 : Int))) * (53))))) (IntKind.i64.wrap (Int.tdiv (IntKind.i64.wrap ((IntKind.i64.wrap ((IntKind.i64.wrap ((IntKind.i64.wrap ((IntKind.i64.wrap n21) * (131))) + (IntKind.i64.wrap ((IntKind.i64.wrap n31) * (1117))))) + (IntKind.i64.wrap (x5 * (29))))) + (IntKind.i64.wrap ((IntKind.i64.wrap (Int.tdiv x5 (m35 : Int))) * (53))))) (64)))) x1), h))))) := by kernel_rfl
theorem spec_reader_pick.J1_eq (call : Nat → List AV → AH → O) (k : Nat) (x0 : AV) (x1 : Int) (h : AH) : spec_reader_pick.J1 call k x0 x1 h =
 pNil x0 fun v8 =>
 pFld 1 v8 fun v9 =>
 pLd h none v9 fun v10 =>
 asK .i64 v10 fun n11 =>
 pNil x0 fun v36 =>
 pFld 0 v36 fun v37 =>
 pLd h none v37 fun v38 =>
 pLen v38 fun m39 =>
 bif ((decide ((IntKind.i64.wrap (n11 - (1))) < (m39 : Int)))) then (pNil x0 fun v40 =>
 pFld 0 v40 fun v41 =>
 pLd h none v41 fun v42 =>
 pIdx 1 v42 (IntKind.i64.wrap (n11 - (1))) fun v43 =>
 pLd h none v43 fun v44 =>
 asK .u8 v44 fun n45 =>
 if x1 = 0 then none else (some (.int .i64 (Int.tmod (IntKind.i64.wrap n45) x1), h)))
 else (spec_reader_pick.J2 call k x0 x1 (IntKind.i64.wrap (n11 - (1))) h) := by kernel_rfl
theorem spec_reader_pick_run (T : Nat → Option AF) (hT : T 37 = some spec_reader_pick.ir) (k : Nat) (a0 : AV) (a1 : Int) (h : AH) : run T (k + 1) 37 [a0, .int .i64 a1] h =
 (fun (call : Nat → List AV → AH → O) => pNil a0 fun v1 =>
 pFld 1 v1 fun v2 =>
 pLd h none v2 fun v3 =>
 asK .i64 v3 fun n4 =>
 pNil a0 fun v5 =>
 pFld 1 v5 fun v6 =>
 pSt h 1 v6 (.int .i64 (IntKind.i64.wrap (n4 + (1)))) fun h7 =>
 bif (decide (a1 < (1))) then (some (.int .i64 (0), h7))
 else (pNil a0 fun v46 =>
 pFld 0 v46 fun v47 =>
 pLd h7 none v47 fun v48 =>
 pLen v48 fun m49 =>
 bif (((m49 : Int) == (0))) then (some (.int .i64 (0), h7))
 else (spec_reader_pick.J1 call k a0 a1 h7))) (run T k) := by unfold run; rw [hT]; kernel_rfl
/- (*loop.example/dataflow/spec.reader).one: number 56 -/
def spec_reader_one.ir : AF := ⟨[(0, .any), (1, .any)], 12, [.tmp 4],
 (.seq none
 (.reg none [⟨0, (some 4), .move (.c (.int .i64 (0))), .any, none, []⟩])
 (.seq none
 (.reg none [⟨0, (some 5), .move (.t 1), .any, none, []⟩,
    ⟨1, (some 6), .move (.t 0), .any, none, []⟩,
    ⟨2, (some 7), .move (.t 1), .any, none, []⟩,
    ⟨3, (some 8), .len (.t 7), .any, none, []⟩,
    ⟨4, (some 9), .call 37 [(.t 6), (.t 8)], (.int .i64), none, []⟩,
    ⟨5, (some 10), .idx 1 (.t 5) (.t 9), .any, none, []⟩,
    ⟨6, (some 11), .load none (.t 10), (.int .i64), none, []⟩,
    ⟨7, (some 4), .move (.t 11), .any, none, []⟩])
 (.ret)))⟩
theorem spec_reader_one_run (T : Nat → Option AF) (hT : T 56 = some spec_reader_one.ir) (k : Nat) (a0 : AV) (a1 : AV) (h : AH) : run T (k + 1) 56 [a0, a1] h =
 (fun (call : Nat → List AV → AH → O) => pLen a1 fun m1 =>
 pCallI call .i64 37 [a0, .int .i64 (m1 : Int)] h fun n3 h2 =>
 pIdx 1 a1 n3 fun v4 =>
 pLd h2 none v4 fun v5 =>
 asK .i64 v5 fun n6 =>
 some (.int .i64 n6, h2)) (run T k) := by unfold run; rw [hT]; kernel_rfl
/- loop.example/dataflow/spec.inRange: number 49 -/
def spec_inRange.ir : AF := ⟨[(0, (.int .i64)), (1, (.int .i64)), (2, (.int .i64))], 15, [.tmp 6],
 (.seq none
 (.reg none [⟨0, (some 6), .move (.c (.bool false)), .any, none, []⟩])
 (.seq none
 (.reg none [⟨0, (some 7), .move (.t 0), .any, none, []⟩,
    ⟨1, (some 8), .move (.t 1), .any, none, []⟩,
    ⟨2, (some 9), .bin .geq (.t 7) (.t 8), .any, none, []⟩,
    ⟨3, (some 10), .move (.t 9), .any, none, []⟩,
    ⟨4, (some 11), .move (.t 0), .any, (some (10, true)), []⟩,
    ⟨5, (some 12), .move (.t 2), .any, (some (10, true)), []⟩,
    ⟨6, (some 13), .bin .leq (.t 11) (.t 12), .any, (some (10, true)), []⟩,
    ⟨7, (some 14), .pick (.t 10) (.t 13) (.c (.bool false)), .any, none, []⟩,
    ⟨8, (some 6), .move (.t 14), .any, none, []⟩])
 (.ret)))⟩
theorem spec_inRange_run (T : Nat → Option AF) (hT : T 49 = some spec_inRange.ir) (k : Nat) (a0 : Int) (a1 : Int) (a2 : Int) (h : AH) : run T (k + 1) 49 [.int .i64 a0, .int .i64 a1, .int .i64 a2] h =
 (fun (call : Nat → List AV → AH → O) => bif (decide (a0 ≥ a1)) then (some (.bool (decide (a0 ≤ a2)), h))
 else (some (.bool false, h))) (run T k) := by unfold run; rw [hT]; kernel_rfl
/-- A reader of bytes at b, at place p. -/
def Rd (h : AH) (b : Nat) (p : Int) : Prop := ∃ bs : List Int, (∀ x, x ∈ bs → 0 ≤ x ∧ x < 256) ∧ bs.length ≤ 2000 ∧ h.blk b = some [.ro (bs.map (.int .u8)) bs.length, .int .i64 p]
theorem Rd.keep {F : List Nat} {h h' : AH} {b : Nat} {p : Int} (r : Rd h b p) (ok : Ok h) (c : Ch F h h') (hn : b ∉ F) : Rd h' b p := by
  obtain ⟨bs, h1, h2, h3⟩ := r; exact ⟨bs, h1, h2, c.keep ok h3 hn⟩
theorem xor_small {a b : Int} (ha : 0 ≤ a) (ha' : a < 4611686018427387904) (hb : 0 ≤ b) (hb' : b < 4611686018427387904) : 0 ≤ aBits .xor .i64 a b ∧ aBits .xor .i64 a b < 4611686018427387904 := by
  obtain ⟨x, rfl⟩ := Int.eq_ofNat_of_zero_le ha
  obtain ⟨y, rfl⟩ := Int.eq_ofNat_of_zero_le hb
  have e : ((BitVec.ofInt IntKind.i64.bits (x : Int) ^^^ BitVec.ofInt IntKind.i64.bits (y : Int)).toNat : Nat) = x ^^^ y := by
    rw [BitVec.toNat_xor]
    simp only [BitVec.ofInt_natCast, BitVec.toNat_ofNat]
    have e1 : x % 2 ^ IntKind.i64.bits = x := Nat.mod_eq_of_lt (by show x < 2 ^ 64; omega)
    have e2 : y % 2 ^ IntKind.i64.bits = y := Nat.mod_eq_of_lt (by show y < 2 ^ 64; omega)
    rw [e1, e2]
  have lt : x ^^^ y < 2 ^ 62 := Nat.xor_lt_two_pow (by omega) (by omega)
  unfold aBits
  simp only [e]
  rw [wr (by omega) (by omega)]
  omega
theorem u8_small (n : Int) (h : 0 ≤ n ∧ n < 256) : IntKind.i64.wrap n = n := wr (by omega) (by omega)
theorem pick_at {bs : List Int} (hb : ∀ x, x ∈ bs → 0 ≤ x ∧ x < 256) {i : Int} (h0 : 0 ≤ i) (h1 : i < bs.length) : ∃ x, aIdx 1 (.ro (bs.map (.int .u8)) bs.length) i = some (.rop (bs.map (.int .u8)) i.toNat) ∧ (∀ h : AH, aLd h none (.rop (bs.map (.int .u8)) i.toNat) = some (.int .u8 x)) ∧ 0 ≤ x ∧ x < 256 := by
  obtain ⟨j, rfl⟩ := Int.eq_ofNat_of_zero_le h0
  have hj : j < bs.length := by omega
  refine ⟨bs[j], by simp only [aIdx]; rw [if_pos ⟨h0, h1⟩]; simp, fun h => ?_, hb _ (List.getElem_mem hj)⟩
  simp only [aLd, aCells, Option.bind_some, take1, Int.toNat_natCast]
  rw [List.head?_drop, List.getElem?_map, List.getElem?_eq_getElem hj, Option.map_some]
theorem pick_ok {T : Nat → Option AF} (hT : T 37 = some spec_reader_pick.ir) {k : Nat} (hk : 1 ≤ k) {h : AH} {b : Nat} {p q : Int} (r : Rd h b p) (hp : 0 ≤ p ∧ p ≤ 1000000000000) (ok : Ok h) :
    WI (run T k 37 [.ptr b 0, .int .i64 q] h) fun n h' => Rd h' b (p + 1) ∧ Ch [b] h h' ∧ Ok h' ∧ h'.next = h.next ∧ 0 ≤ n ∧ (n < q ∨ n = 0) := by
  obtain ⟨k, rfl⟩ : ∃ j, k = j + 1 := ⟨k - 1, by omega⟩
  obtain ⟨bs, h1, h2, h3⟩ := r
  rw [spec_reader_pick_run T hT]
  have e1 : IntKind.i64.wrap (p + 1) = p + 1 := wr (by omega) (by omega)
  simp only [nil_at, fld_at, Nat.zero_add, ld_at h3 (o := 1) rfl, asK, kEq, cond_true, e1, st_at h3 (o := 1) (v := .int .i64 (p + 1)) rfl (by simp), List.set_cons_succ, List.set_cons_zero]
  have hset : ∀ K, pLd (h.set b [.ro (bs.map (.int .u8)) bs.length, .int .i64 (p + 1)]) none (.ptr b 0) K = K (.ro (bs.map (.int .u8)) bs.length) := fun K => ld_at (AH.set_same ..) rfl K
  simp only [hset, len_ro]
  have post : Rd (h.set b [.ro (bs.map (.int .u8)) bs.length, .int .i64 (p + 1)]) b (p + 1) ∧ Ch [b] h (h.set b [.ro (bs.map (.int .u8)) bs.length, .int .i64 (p + 1)]) ∧ Ok (h.set b [.ro (bs.map (.int .u8)) bs.length, .int .i64 (p + 1)]) ∧ (h.set b [.ro (bs.map (.int .u8)) bs.length, .int .i64 (p + 1)]).next = h.next :=
    ⟨⟨bs, h1, h2, AH.set_same ..⟩, Ch.set, ok.set h3, rfl⟩
  generalize hh : h.set b [.ro (bs.map (.int .u8)) bs.length, .int .i64 (p + 1)] = h' at *
  have h3' : h'.blk b = some [.ro (bs.map (.int .u8)) bs.length, .int .i64 (p + 1)] := by rw [← hh]; exact AH.set_same ..
  obtain ⟨q1, q2, q3, q4⟩ := post
  refine W.bif_ (fun c => W.ret ⟨0, rfl, q1, q2, q3, q4, Int.le_refl _, .inr rfl⟩) fun c => W.bif_ (fun d => W.ret ⟨0, rfl, q1, q2, q3, q4, Int.le_refl _, .inr rfl⟩) fun d => ?_
  have c' : 1 ≤ q := by simpa using c
  have d' : bs.length ≠ 0 := by simpa using d
  rw [spec_reader_pick.J1_eq]
  have e2 : IntKind.i64.wrap (p + 1 - 1) = p := by rw [wr (by omega) (by omega)]; omega
  simp only [nil_at, fld_at, Nat.zero_add, ld_at h3' (o := 0) rfl, ld_at h3' (o := 1) rfl, asK, kEq, cond_true, Option.bind_some, e2, len_ro]
  refine W.bif_ (fun g => ?_) fun g => ?_
  · obtain ⟨x, x1, x2, x3, x4⟩ := pick_at h1 hp.1 (by simpa using g)
    simp only [pIdx, x1, Option.bind_some]
    simp only [pLd, x2, Option.bind_some, asK, kEq, cond_true, u8_small x ⟨x3, x4⟩]
    rw [if_neg (by omega)]
    exact W.ret ⟨_, rfl, q1, q2, q3, q4, Int.tmod_nonneg _ x3, .inl (Int.tmod_lt_of_pos _ (by omega))⟩
  · have g' : (bs.length : Int) ≤ p := by simpa using g
    rw [spec_reader_pick.J2_eq]
    have dd : ¬ ((bs.length : Int) = 0) := by omega
    have e3 : IntKind.i64.wrap (p * 7) = p * 7 := wr (by omega) (by omega)
    have e4 : IntKind.i64.wrap (p * 7 + 3) = p * 7 + 3 := wr (by omega) (by omega)
    simp only [nil_at, fld_at, Nat.zero_add, ld_at h3' (o := 0) rfl, ld_at h3' (o := 1) rfl, asK, kEq, cond_true, Option.bind_some, e3, e4, len_ro, if_neg dd]
    obtain ⟨x, x1, x2, x3, x4⟩ := pick_at h1 (i := Int.tmod p bs.length) (Int.tmod_nonneg _ hp.1) (Int.tmod_lt_of_pos _ (by omega))
    obtain ⟨y, y1, y2, y3, y4⟩ := pick_at h1 (i := Int.tmod (p * 7 + 3) bs.length) (Int.tmod_nonneg _ (by omega)) (Int.tmod_lt_of_pos _ (by omega))
    simp only [pLd, pIdx, x1, y1, Option.bind_some, x2, y2, asK, kEq, cond_true, if_neg dd]
    rw [if_neg (by omega)]
    refine W.ret ⟨_, rfl, q1, q2, q3, q4, ?_⟩
    have t0 : 0 ≤ Int.tdiv p bs.length := Int.tdiv_nonneg hp.1 (by omega)
    have t1 : Int.tdiv p bs.length ≤ p := Int.tdiv_le_self _ hp.1
    generalize Int.tdiv p bs.length = t at t0 t1
    rw [wr (n := x) (by omega) (by omega), wr (n := y) (by omega) (by omega), wr (n := x * 131) (by omega) (by omega), wr (n := y * 1117) (by omega) (by omega), wr (n := p * 29) (by omega) (by omega), wr (n := t) (by omega) (by omega), wr (n := t * 53) (by omega) (by omega)]
    rw [wr (n := x * 131 + y * 1117) (by omega) (by omega), wr (n := x * 131 + y * 1117 + p * 29) (by omega) (by omega), wr (n := x * 131 + y * 1117 + p * 29 + t * 53) (by omega) (by omega)]
    have z0 : 0 ≤ x * 131 + y * 1117 + p * 29 + t * 53 := by omega
    have z1 : x * 131 + y * 1117 + p * 29 + t * 53 < 4611686018427387904 := by omega
    generalize x * 131 + y * 1117 + p * 29 + t * 53 = z at z0 z1
    have s0 : 0 ≤ Int.tdiv z 64 := Int.tdiv_nonneg z0 (by omega)
    have s1 : Int.tdiv z 64 ≤ z := Int.tdiv_le_self _ z0
    rw [wr (n := Int.tdiv z 64) (by omega) (by omega)]
    have := xor_small z0 z1 s0 (by omega)
    exact ⟨Int.tmod_nonneg _ this.1, .inl (Int.tmod_lt_of_pos _ (by omega))⟩
theorem newReader_ok {T : Nat → Option AF} (hT : T 35 = some spec_newReader.ir) {k : Nat} (hk : 1 ≤ k) {h : AH} {bs : List Int} (hb : ∀ x, x ∈ bs → 0 ≤ x ∧ x < 256) (ok : Ok h) :
    W (run T k 35 [.ro (bs.map (.int .u8)) bs.length] h) fun v h' => v = .ptr h.next 0 ∧ Rd h' h.next 0 ∧ Ch [] h h' ∧ Ok h' ∧ h'.next = h.next + 1 := by
  obtain ⟨k, rfl⟩ : ∃ j, k = j + 1 := ⟨k - 1, by omega⟩
  rw [spec_newReader_run T hT]
  simp only [pLen, slen, Option.bind_some]
  refine W.bif_ (fun c => ?_) fun c => ?_
  · have c' : (2000 : Int) < bs.length := by simpa using c
    simp only [pSlice, aSlice, slen, Option.bind_some, Option.getD_none, Option.getD_some]
    rw [if_pos (by omega)]
    simp only [Option.bind_some, spec_newReader.J1_eq, pFill, fillA, cellsOf, splice, List.length_cons, List.length_nil, pCells, pNew]
    rw [if_pos (by simp)]
    refine W.ret ⟨rfl, ⟨bs.take 2000, fun x hx => hb x (List.mem_of_mem_take hx), by simp; omega, ?_⟩, Ch.new, ok.new, rfl⟩
    rw [AH.new_same]
    simp
    omega
  · have c' : (bs.length : Int) ≤ 2000 := by simpa using c
    simp only [Option.bind_some, spec_newReader.J1_eq, pFill, fillA, cellsOf, splice, List.length_cons, List.length_nil, pCells, pNew]
    rw [if_pos (by simp)]
    refine W.ret ⟨rfl, ⟨bs, hb, by omega, ?_⟩, Ch.new, ok.new, rfl⟩
    rw [AH.new_same]
    simp
theorem inRange_ok {T : Nat → Option AF} (hT : T 49 = some spec_inRange.ir) {k : Nat} (hk : 1 ≤ k) {h : AH} {a b c : Int} :
    WB (run T k 49 [.int .i64 a, .int .i64 b, .int .i64 c] h) fun n h' => n = decide (b ≤ a ∧ a ≤ c) ∧ h' = h := by
  obtain ⟨k, rfl⟩ : ∃ j, k = j + 1 := ⟨k - 1, by omega⟩
  rw [spec_inRange_run T hT]
  refine W.bif_ (fun e => W.ret ⟨_, rfl, ?_, rfl⟩) fun e => W.ret ⟨_, rfl, ?_, rfl⟩
  · have e' : b ≤ a := by simpa using e
    simp [e']
  · have e' : a < b := by simpa using e
    symm; simp; omega
theorem one_ok {T : Nat → Option AF} (hT : T 56 = some spec_reader_one.ir) (hT37 : T 37 = some spec_reader_pick.ir) {k : Nat} (hk : 2 ≤ k) {h : AH} {b : Nat} {p : Int} {x : AV} {l : List Int} (r : Rd h b p) (hp : 0 ≤ p ∧ p ≤ 1000000000000) (ok : Ok h) {m : Mem} (hl : Ints m x l) (hm : ∀ c d, m c = some d → h.blk c = some d) (hmb : m b = none) (h0 : l ≠ []) :
    WI (run T k 56 [.ptr b 0, x] h) fun n h' => Rd h' b (p + 1) ∧ Ch [b] h h' ∧ Ok h' ∧ h'.next = h.next ∧ n ∈ l := by
  obtain ⟨k, rfl⟩ : ∃ j, k = j + 1 := ⟨k - 1, by omega⟩
  rw [spec_reader_one_run T hT]
  refine W.len hl ?_
  refine W.callI (pick_ok hT37 (by omega) r hp ok) fun n h' ⟨q1, q2, q3, q4, q5, q6⟩ => ?_
  have hpos : 0 < l.length := List.length_pos_iff.2 h0
  obtain ⟨j, rfl⟩ := Int.eq_ofNat_of_zero_le q5
  have hj : j < l.length := by simp only [List.length_map] at q6; omega
  refine W.idx hl (j := j) (r := [.int .i64 l[j]]) (by simp [hj]) rfl fun pt => ?_
  have pt' : Pt h'.blk (ixp 1 x j) [.int .i64 l[j]] := pt.mono fun c d hc => q2.keep ok (hm c d hc) (by
    intro hcb; have : c = b := by simpa using hcb
    subst this; rw [hmb] at hc; cases hc)
  refine W.ld pt' ?_
  exact W.ret ⟨_, rfl, q1, q2, q3, q4, List.getElem_mem hj⟩
end Go.AM
