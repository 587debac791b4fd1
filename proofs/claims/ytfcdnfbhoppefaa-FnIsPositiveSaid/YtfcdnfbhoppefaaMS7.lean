/- Plans are drawn: anyPlan, DrawIsLinear; IsLinear. -/
import Derived.Test.YtfcdnfbhoppefaaMS6
namespace Go.AM
set_option linter.unusedVariables false
set_option linter.unusedSimpArgs false
set_option maxRecDepth 100000
/- loop.example/dataflow/spec.anyPlan: number 209 -/
def spec_anyPlan.c1 : AC :=
 (.seq none
 (.reg none [⟨0, (some 68), .move (.t 5), .any, none, []⟩,
    ⟨1, (some 69), .move (.t 4), .any, none, []⟩,
    ⟨2, (some 2), .move (.t 68), .any, none, []⟩,
    ⟨3, (some 3), .move (.t 69), .any, none, []⟩])
 (.ret))
def spec_anyPlan.ir : AF := ⟨[(0, .any)], 70, [.tmp 2, .tmp 3],
 (.seq none
 (.reg none [⟨0, (some 2), .move (.c (.nils)), .any, none, []⟩,
    ⟨1, (some 3), .move (.c (.nils)), .any, none, []⟩])
 (.seq none
 (.reg none [⟨0, (some 7), .move (.t 0), .any, none, []⟩,
    ⟨1, (some 8), .call 210 [(.t 7)], .any, none, []⟩,
    ⟨2, (some 4), .move (.t 8), .any, none, []⟩])
 (.seq none
 (.reg none [⟨0, (some 9), .move (.t 0), .any, none, []⟩,
    ⟨1, (some 10), .move (.t 4), .any, none, []⟩,
    ⟨2, (some 11), .call 226 [(.t 9), (.t 10)], .any, none, []⟩,
    ⟨3, (some 5), .move (.t 11), .any, none, []⟩])
 (.seq none
 (.reg none [⟨0, (some 12), .move (.t 0), .any, none, []⟩,
    ⟨1, (some 13), .move (.t 5), .any, none, []⟩,
    ⟨2, (some 14), .len (.t 13), .any, none, []⟩,
    ⟨3, (some 15), .call 37 [(.t 12), (.t 14)], (.int .i64), none, []⟩,
    ⟨4, (some 6), .move (.t 15), .any, none, []⟩])
 (.seq (some [(4, .any), (5, .any)])
 (.seq none
  (.reg none [⟨0, (some 16), .move (.t 0), .any, none, []⟩,
     ⟨1, (some 17), .call 37 [(.t 16), (.c (.int .i64 (18)))], (.int .i64), none, []⟩])
  (.block 0 (.seq none
   (.reg none [⟨0, (some 19), .bin .eql (.t 17) (.c (.int .i64 (0))), .any, none, []⟩,
      ⟨1, (some 18), .move (.t 19), .any, none, []⟩])
   (.cond (.t 18)
   (.reg none [⟨0, (some 20), .move (.t 5), .any, none, []⟩,
      ⟨1, (some 21), .move (.t 6), .any, none, []⟩,
      ⟨2, (some 22), .move (.t 0), .any, none, []⟩,
      ⟨3, (some 23), .move (.t 6), .any, none, []⟩,
      ⟨4, (some 24), .buildS 3 1 [.int .i64 0, .int .i64 0, .int .i64 0] [(0, 1, (.c (.int .i64 (-1)))), (1, 1, (.t 23)), (2, 1, (.c (.int .i64 (3))))], .any, none, []⟩,
      ⟨5, (some 25), .call 56 [(.t 22), (.t 24)], (.int .i64), none, []⟩,
      ⟨6, (some 26), .idx 10 (.t 20) (.t 21), .any, none, []⟩,
      ⟨7, (some 27), .fld 1 (.t 26), .any, none, []⟩,
      ⟨8, none, .store 1 (.t 27) (.t 25), .any, none, []⟩])
   (.seq none
    (.reg none [⟨0, (some 29), .bin .eql (.t 17) (.c (.int .i64 (1))), .any, none, []⟩,
       ⟨1, (some 28), .move (.t 29), .any, none, []⟩])
    (.cond (.t 28)
    (.reg none [⟨0, (some 30), .move (.t 5), .any, none, []⟩,
       ⟨1, (some 31), .move (.t 6), .any, none, []⟩,
       ⟨2, (some 32), .move (.t 0), .any, none, []⟩,
       ⟨3, (some 33), .buildS 4 1 [.int .i64 0, .int .i64 0, .int .i64 0, .int .i64 0] [(0, 1, (.c (.int .i64 (0)))), (1, 1, (.c (.int .i64 (9)))), (2, 1, (.c (.int .i64 (2)))), (3, 1, (.c (.int .i64 (6))))], .any, none, []⟩,
       ⟨4, (some 34), .call 56 [(.t 32), (.t 33)], (.int .i64), none, []⟩,
       ⟨5, (some 35), .idx 10 (.t 30) (.t 31), .any, none, []⟩,
       ⟨6, (some 36), .fld 0 (.t 35), .any, none, []⟩,
       ⟨7, none, .store 1 (.t 36) (.t 34), .any, none, []⟩])
    (.seq none
     (.reg none [⟨0, (some 38), .bin .eql (.t 17) (.c (.int .i64 (2))), .any, none, []⟩,
        ⟨1, (some 37), .move (.t 38), .any, none, []⟩])
     (.cond (.t 37)
     (.reg none [⟨0, (some 39), .move (.t 5), .any, none, []⟩,
        ⟨1, (some 40), .move (.t 6), .any, none, []⟩,
        ⟨2, (some 41), .move (.t 5), .any, none, []⟩,
        ⟨3, (some 42), .move (.t 6), .any, none, []⟩,
        ⟨4, (some 43), .idx 10 (.t 41) (.t 42), .any, none, []⟩,
        ⟨5, (some 44), .fld 4 (.t 43), .any, none, []⟩,
        ⟨6, (some 45), .load none (.t 44), .any, none, []⟩,
        ⟨7, (some 46), .call 75 [(.t 45)], .any, none, []⟩,
        ⟨8, (some 47), .move (.t 0), .any, none, []⟩,
        ⟨9, (some 48), .buildS 2 1 [.int .i64 0, .int .i64 0] [(0, 1, (.c (.int .i64 (0)))), (1, 1, (.c (.int .i64 (5))))], .any, none, []⟩,
        ⟨10, (some 49), .call 56 [(.t 47), (.t 48)], (.int .i64), none, []⟩,
        ⟨11, (some 50), .buildS 1 1 [.int .i64 0] [(0, 1, (.t 49))], .any, none, []⟩,
        ⟨12, (some 51), .app 1 8 (.t 46) (.t 50), .any, none, []⟩,
        ⟨13, (some 52), .idx 10 (.t 39) (.t 40), .any, none, []⟩,
        ⟨14, (some 53), .fld 4 (.t 52), .any, none, []⟩,
        ⟨15, none, .store 1 (.t 53) (.t 51), .any, none, []⟩])
     (.seq none
      (.reg none [⟨0, (some 55), .bin .eql (.t 17) (.c (.int .i64 (3))), .any, none, []⟩,
         ⟨1, (some 54), .move (.t 55), .any, none, []⟩])
      (.cond (.t 54)
      (.reg none [⟨0, (some 56), .move (.t 4), .any, none, []⟩,
         ⟨1, (some 57), .move (.t 0), .any, none, []⟩,
         ⟨2, (some 58), .buildS 4 1 [.int .i64 0, .int .i64 0, .int .i64 0, .int .i64 0] [(0, 1, (.c (.int .i64 (0)))), (1, 1, (.c (.int .i64 (7)))), (2, 1, (.c (.int .i64 (1)))), (3, 1, (.c (.int .i64 (1))))], .any, none, []⟩,
         ⟨3, (some 59), .call 56 [(.t 57), (.t 58)], (.int .i64), none, []⟩,
         ⟨4, (some 60), .buildS 1 1 [.int .i64 0] [(0, 1, (.t 59))], .any, none, []⟩,
         ⟨5, (some 61), .app 1 8 (.t 56) (.t 60), .any, none, []⟩,
         ⟨6, (some 4), .move (.t 61), .any, none, []⟩])
      (.seq none
       (.reg none [⟨0, (some 63), .bin .eql (.t 17) (.c (.int .i64 (4))), .any, none, []⟩,
          ⟨1, (some 62), .move (.t 63), .any, none, []⟩])
       (.cond (.t 62)
       (.reg none [⟨0, (some 64), .move (.t 5), .any, none, []⟩,
          ⟨1, (some 65), .move (.t 6), .any, none, []⟩,
          ⟨2, (some 66), .idx 10 (.t 64) (.t 65), .any, none, []⟩,
          ⟨3, (some 67), .fld 9 (.t 66), .any, none, []⟩,
          ⟨4, none, .store 1 (.t 67) (.c (.int .i64 (1))), .any, none, []⟩])
       (.skip)))))))))))))
 (spec_anyPlan.c1))))))⟩
noncomputable abbrev spec_anyPlan.K1 (call : Nat → List AV → AH → O) (k : Nat) : KX := seqK (some [(4, .any), (5, .any)]) (exec call k spec_anyPlan.c1 (fin [.tmp 2, .tmp 3])) (fin [.tmp 2, .tmp 3])
noncomputable abbrev spec_anyPlan.J1 (call : Nat → List AV → AH → O) (k : Nat) (x4 : AV) (x5 : AV) (h : AH) : O := exec call k spec_anyPlan.c1 (fin [.tmp 2, .tmp 3]) [.junk, .junk, .junk, .junk, x4, x5, .junk, .junk, .junk, .junk, .junk, .junk, .junk, .junk, .junk, .junk, .junk, .junk, .junk, .junk, .junk, .junk, .junk, .junk, .junk, .junk, .junk, .junk, .junk, .junk, .junk, .junk, .junk, .junk, .junk, .junk, .junk, .junk, .junk, .junk, .junk, .junk, .junk, .junk, .junk, .junk, .junk, .junk, .junk, .junk, .junk, .junk, .junk, .junk, .junk, .junk, .junk, .junk, .junk, .junk, .junk, .junk, .junk, .junk, .junk, .junk, .junk, .junk, .junk, .junk] h
theorem spec_anyPlan.J1_eq (call : Nat → List AV → AH → O) (k : Nat) (x4 : AV) (x5 : AV) (h : AH) : spec_anyPlan.J1 call k x4 x5 h =
 some (.tup [x5, x4], h) := by kernel_rfl
theorem spec_anyPlan_run (T : Nat → Option AF) (hT : T 209 = some spec_anyPlan.ir) (k : Nat) (a0 : AV) (h : AH) : run T (k + 1) 209 [a0] h =
 (fun (call : Nat → List AV → AH → O) => pCall call 210 [a0] h fun v2 h1 =>
 pCall call 226 [a0, v2] h1 fun v4 h3 =>
 pLen v4 fun m5 =>
 pCallI call .i64 37 [a0, .int .i64 (m5 : Int)] h3 fun n7 h6 =>
 pCallI call .i64 37 [a0, .int .i64 (18)] h6 fun n9 h8 =>
 bif (n9 == (0)) then (pFill [.int .i64 0, .int .i64 0, .int .i64 0] [(0, 1, .int .i64 (-1)), (1, 1, .int .i64 n7), (2, 1, .int .i64 (3))] fun c10 =>
 pNew h8 c10 fun b11 h12 =>
 pCallI call .i64 56 [a0, (.sl b11 0 3 1)] h12 fun n14 h13 =>
 pIdx 10 v4 n7 fun v15 =>
 pFld 1 v15 fun v16 =>
 pSt h13 1 v16 (.int .i64 n14) fun h17 =>
 spec_anyPlan.J1 call k v2 v4 h17)
 else (bif (n9 == (1)) then (pFill [.int .i64 0, .int .i64 0, .int .i64 0, .int .i64 0] [(0, 1, .int .i64 (0)), (1, 1, .int .i64 (9)), (2, 1, .int .i64 (2)), (3, 1, .int .i64 (6))] fun c18 =>
 pNew h8 c18 fun b19 h20 =>
 pCallI call .i64 56 [a0, (.sl b19 0 4 1)] h20 fun n22 h21 =>
 pIdx 10 v4 n7 fun v23 =>
 pFld 0 v23 fun v24 =>
 pSt h21 1 v24 (.int .i64 n22) fun h25 =>
 spec_anyPlan.J1 call k v2 v4 h25)
 else (bif (n9 == (2)) then (pIdx 10 v4 n7 fun v26 =>
 pFld 4 v26 fun v27 =>
 pLd h8 none v27 fun v28 =>
 pCall call 75 [v28] h8 fun v30 h29 =>
 pFill [.int .i64 0, .int .i64 0] [(0, 1, .int .i64 (0)), (1, 1, .int .i64 (5))] fun c31 =>
 pNew h29 c31 fun b32 h33 =>
 pCallI call .i64 56 [a0, (.sl b32 0 2 1)] h33 fun n35 h34 =>
 pFill [.int .i64 0] [(0, 1, .int .i64 n35)] fun c36 =>
 pNew h34 c36 fun b37 h38 =>
 pApp h38 1 8 v30 ((.sl b37 0 1 1)) fun v39 h40 =>
 pIdx 10 v4 n7 fun v41 =>
 pFld 4 v41 fun v42 =>
 pSt h40 1 v42 v39 fun h43 =>
 spec_anyPlan.J1 call k v2 v4 h43)
 else (bif (n9 == (3)) then (pFill [.int .i64 0, .int .i64 0, .int .i64 0, .int .i64 0] [(0, 1, .int .i64 (0)), (1, 1, .int .i64 (7)), (2, 1, .int .i64 (1)), (3, 1, .int .i64 (1))] fun c44 =>
 pNew h8 c44 fun b45 h46 =>
 pCallI call .i64 56 [a0, (.sl b45 0 4 1)] h46 fun n48 h47 =>
 pFill [.int .i64 0] [(0, 1, .int .i64 n48)] fun c49 =>
 pNew h47 c49 fun b50 h51 =>
 pApp h51 1 8 v2 ((.sl b50 0 1 1)) fun v52 h53 =>
 spec_anyPlan.J1 call k v52 v4 h53)
 else (bif (n9 == (4)) then (pIdx 10 v4 n7 fun v54 =>
 pFld 9 v54 fun v55 =>
 pSt h8 1 v55 (.int .i64 (1)) fun h56 =>
 spec_anyPlan.J1 call k v2 v4 h56)
 else (spec_anyPlan.J1 call k v2 v4 h8)))))) (run T k) := by unfold run; rw [hT]; kernel_rfl
/- loop.example/dataflow/spec.DrawIsLinear: number 185 -/
def spec_DrawIsLinear.c1 : AC :=
 (.seq none
 (.reg none [⟨0, (some 20), .move (.t 3), .any, none, []⟩,
    ⟨1, (some 21), .call 209 [(.t 20)], .any, none, []⟩,
    ⟨2, (some 19), .move (.t 21), .any, none, []⟩,
    ⟨3, (some 22), .extract (.t 19) 0, .any, none, []⟩,
    ⟨4, (some 23), .extract (.t 19) 1, .any, none, []⟩,
    ⟨5, (some 6), .move (.t 22), .any, none, []⟩,
    ⟨6, (some 7), .move (.t 23), .any, none, []⟩])
 (.seq none
 (.reg none [⟨0, (some 24), .move (.t 6), .any, none, []⟩,
    ⟨1, (some 2), .move (.t 24), .any, none, []⟩])
 (.ret)))
def spec_DrawIsLinear.ir : AF := ⟨[(0, .any)], 25, [.tmp 2],
 (.seq none
 (.reg none [⟨0, (some 2), .move (.c (.nils)), .any, none, []⟩])
 (.seq none
 (.reg none [⟨0, (some 8), .move (.t 0), .any, none, []⟩,
    ⟨1, (some 9), .call 35 [(.t 8)], .any, none, []⟩,
    ⟨2, (some 3), .move (.t 9), .any, none, []⟩])
 (.seq (some [(3, .any)])
 (.seq none
  (.reg none [⟨0, (some 10), .move (.t 3), .any, none, []⟩,
     ⟨1, (some 11), .call 37 [(.t 10), (.c (.int .i64 (2)))], (.int .i64), none, []⟩,
     ⟨2, (some 12), .bin .eql (.t 11) (.c (.int .i64 (0))), .any, none, []⟩])
  (.cond (.t 12)
  (.seq none
   (.reg none [⟨0, (some 14), .move (.t 3), .any, none, []⟩,
      ⟨1, (some 15), .call 208 [(.t 14)], .any, none, []⟩,
      ⟨2, (some 13), .move (.t 15), .any, none, []⟩,
      ⟨3, (some 16), .extract (.t 13) 0, .any, none, []⟩,
      ⟨4, (some 17), .extract (.t 13) 1, .any, none, []⟩,
      ⟨5, (some 4), .move (.t 16), .any, none, []⟩,
      ⟨6, (some 5), .move (.t 17), .any, none, []⟩])
   (.seq none
   (.reg none [⟨0, (some 18), .move (.t 4), .any, none, []⟩,
      ⟨1, (some 2), .move (.t 18), .any, none, []⟩])
   (.ret)))
  (.skip)))
 (spec_DrawIsLinear.c1))))⟩
noncomputable abbrev spec_DrawIsLinear.K1 (call : Nat → List AV → AH → O) (k : Nat) : KX := seqK (some [(3, .any)]) (exec call k spec_DrawIsLinear.c1 (fin [.tmp 2])) (fin [.tmp 2])
noncomputable abbrev spec_DrawIsLinear.J1 (call : Nat → List AV → AH → O) (k : Nat) (x3 : AV) (h : AH) : O := exec call k spec_DrawIsLinear.c1 (fin [.tmp 2]) [.junk, .junk, .junk, x3, .junk, .junk, .junk, .junk, .junk, .junk, .junk, .junk, .junk, .junk, .junk, .junk, .junk, .junk, .junk, .junk, .junk, .junk, .junk, .junk, .junk] h
theorem spec_DrawIsLinear.J1_eq (call : Nat → List AV → AH → O) (k : Nat) (x3 : AV) (h : AH) : spec_DrawIsLinear.J1 call k x3 h =
 pCall call 209 [x3] h fun v4 h3 =>
 pExtract v4 0 fun v5 =>
 pExtract v4 1 fun v6 =>
 some (v5, h3) := by kernel_rfl
theorem spec_DrawIsLinear_run (T : Nat → Option AF) (hT : T 185 = some spec_DrawIsLinear.ir) (k : Nat) (a0 : AV) (h : AH) : run T (k + 1) 185 [a0] h =
 (fun (call : Nat → List AV → AH → O) => pCall call 35 [a0] h fun v2 h1 =>
 pCallI call .i64 37 [v2, .int .i64 (2)] h1 fun n8 h7 =>
 bif (n8 == (0)) then (pCall call 208 [v2] h7 fun v10 h9 =>
 pExtract v10 0 fun v11 =>
 pExtract v10 1 fun v12 =>
 some (v11, h9))
 else (spec_DrawIsLinear.J1 call k v2 h7)) (run T k) := by unfold run; rw [hT]; kernel_rfl
/- loop.example/dataflow/impl.IsLinear: number 186 -/
def impl_IsLinear.c3 : AC :=
 (.reg none [⟨0, (some 19), .bin .add (.t 7) (.c (.int .i64 (1))), .any, none, []⟩,
   ⟨1, (some 7), .move (.t 19), .any, none, []⟩])
def impl_IsLinear.c2 : AC :=
 (.seq (some [(5, .any), (6, (.int .i64)), (7, (.int .i64))])
 (.block 1 (.seq none
   (.reg none [⟨0, (some 9), .idx 10 (.t 5) (.t 7), .any, none, []⟩,
      ⟨1, (some 10), .load (some 10) (.t 9), .any, none, []⟩,
      ⟨2, (some 4), .new [.int .i64 0, .int .i64 0, .int .i64 0, .int .i64 0, .nils, .int .i64 0, .int .i64 0, .int .i64 0, .int .i64 0, .int .i64 0], .any, none, []⟩,
      ⟨3, none, .store 10 (.t 4) (.t 10), .any, none, []⟩])
   (.seq none
   (.reg none [⟨0, (some 11), .fld 0 (.t 4), .any, none, []⟩,
      ⟨1, (some 12), .load none (.t 11), (.int .i64), none, []⟩,
      ⟨2, (some 13), .bin .lss (.t 12) (.c (.int .i64 (1))), .any, none, []⟩,
      ⟨3, (some 14), .move (.t 13), .any, none, []⟩,
      ⟨4, (some 15), .fld 0 (.t 4), .any, (some (14, false)), []⟩,
      ⟨5, (some 16), .load none (.t 15), (.int .i64), (some (14, false)), []⟩,
      ⟨6, (some 17), .bin .gtr (.t 16) (.c (.int .i64 (5))), .any, (some (14, false)), []⟩,
      ⟨7, (some 18), .pick (.t 14) (.c (.bool true)) (.t 17), .any, none, []⟩])
   (.cond (.t 18)
   (.seq none
    (.reg none [⟨0, (some 2), .move (.c (.bool false)), .any, none, []⟩])
    (.ret))
   (.skip)))))
 (impl_IsLinear.c3))
def impl_IsLinear.c1 : AC :=
 (.seq none
 (.reg none [⟨0, (some 8), .bin .lss (.t 7) (.t 6), .any, none, []⟩])
 (.seq (some [(5, .any), (6, (.int .i64)), (7, (.int .i64))])
 (.cond (.t 8)
  (.skip)
  (.exit 0))
 (impl_IsLinear.c2)))
def impl_IsLinear.c4 : AC :=
 (.seq none
 (.reg none [⟨0, (some 2), .move (.c (.bool true)), .any, none, []⟩])
 (.ret))
def impl_IsLinear.ir : AF := ⟨[(0, .any)], 20, [.tmp 2],
 (.seq none
 (.reg none [⟨0, (some 2), .move (.c (.bool false)), .any, none, []⟩])
 (.seq (some [])
 (.seq none
  (.reg none [⟨0, (some 5), .move (.t 0), .any, none, []⟩,
     ⟨1, (some 6), .len (.t 5), .any, none, []⟩,
     ⟨2, (some 7), .move (.c (.int .i64 (0))), .any, none, []⟩])
  (.block 0 (.loop [(5, .any), (6, (.int .i64)), (7, (.int .i64))] impl_IsLinear.c1)))
 (impl_IsLinear.c4)))⟩
noncomputable abbrev impl_IsLinear.K4 (call : Nat → List AV → AH → O) (k : Nat) : KX := seqK (some []) (exec call k impl_IsLinear.c4 (fin [.tmp 2])) (fin [.tmp 2])
noncomputable abbrev impl_IsLinear.K1 (call : Nat → List AV → AH → O) (k : Nat) (i1 : Nat) : KX := loopK [(5, .any), (6, (.int .i64)), (7, (.int .i64))] (loopE (exec call k impl_IsLinear.c1) [(5, .any), (6, (.int .i64)), (7, (.int .i64))] i1 (blockK 0 (impl_IsLinear.K4 call k))) (blockK 0 (impl_IsLinear.K4 call k))
noncomputable abbrev impl_IsLinear.K3 (call : Nat → List AV → AH → O) (k : Nat) (i1 : Nat) : KX := seqK (some [(5, .any), (6, (.int .i64)), (7, (.int .i64))]) (exec call k impl_IsLinear.c3 (impl_IsLinear.K1 call k i1)) (impl_IsLinear.K1 call k i1)
noncomputable abbrev impl_IsLinear.K2 (call : Nat → List AV → AH → O) (k : Nat) (i1 : Nat) : KX := seqK (some [(5, .any), (6, (.int .i64)), (7, (.int .i64))]) (exec call k impl_IsLinear.c2 (impl_IsLinear.K1 call k i1)) (impl_IsLinear.K1 call k i1)
noncomputable abbrev impl_IsLinear.J4 (call : Nat → List AV → AH → O) (k : Nat) (h : AH) : O := exec call k impl_IsLinear.c4 (fin [.tmp 2]) [.junk, .junk, .junk, .junk, .junk, .junk, .junk, .junk, .junk, .junk, .junk, .junk, .junk, .junk, .junk, .junk, .junk, .junk, .junk, .junk] h
noncomputable abbrev impl_IsLinear.J3 (call : Nat → List AV → AH → O) (k : Nat) (i1 : Nat) (x5 : AV) (x6 : Int) (x7 : Int) (h : AH) : O := exec call k impl_IsLinear.c3 (impl_IsLinear.K1 call k i1) [.junk, .junk, .junk, .junk, .junk, x5, .int .i64 x6, .int .i64 x7, .junk, .junk, .junk, .junk, .junk, .junk, .junk, .junk, .junk, .junk, .junk, .junk] h
noncomputable abbrev impl_IsLinear.J2 (call : Nat → List AV → AH → O) (k : Nat) (i1 : Nat) (x5 : AV) (x6 : Int) (x7 : Int) (h : AH) : O := exec call k impl_IsLinear.c2 (impl_IsLinear.K1 call k i1) [.junk, .junk, .junk, .junk, .junk, x5, .int .i64 x6, .int .i64 x7, .junk, .junk, .junk, .junk, .junk, .junk, .junk, .junk, .junk, .junk, .junk, .junk] h
noncomputable abbrev impl_IsLinear.L1 (call : Nat → List AV → AH → O) (k : Nat) (i1 : Nat) (x5 : AV) (x6 : Int) (x7 : Int) (h : AH) : O := loopE (exec call k impl_IsLinear.c1) [(5, .any), (6, (.int .i64)), (7, (.int .i64))] i1 (blockK 0 (impl_IsLinear.K4 call k)) [.junk, .junk, .junk, .junk, .junk, x5, .int .i64 x6, .int .i64 x7, .junk, .junk, .junk, .junk, .junk, .junk, .junk, .junk, .junk, .junk, .junk, .junk] h
theorem impl_IsLinear.J4_eq (call : Nat → List AV → AH → O) (k : Nat) (h : AH) : impl_IsLinear.J4 call k h =
 some (.bool true, h) := by kernel_rfl
theorem impl_IsLinear.J3_eq (call : Nat → List AV → AH → O) (k : Nat) (i1 : Nat) (x5 : AV) (x6 : Int) (x7 : Int) (h : AH) : impl_IsLinear.J3 call k i1 x5 x6 x7 h =
 impl_IsLinear.L1 call k i1 x5 x6 (IntKind.i64.wrap (x7 + (1))) h := by kernel_rfl
theorem impl_IsLinear.J2_eq (call : Nat → List AV → AH → O) (k : Nat) (i1 : Nat) (x5 : AV) (x6 : Int) (x7 : Int) (h : AH) : impl_IsLinear.J2 call k i1 x5 x6 x7 h =
 pIdx 10 x5 x7 fun v2 =>
 pLd h (some 10) v2 fun v3 =>
 pNew h [.int .i64 0, .int .i64 0, .int .i64 0, .int .i64 0, .nils, .int .i64 0, .int .i64 0, .int .i64 0, .int .i64 0, .int .i64 0] fun b4 h5 =>
 pSt h5 10 ((.ptr b4 0)) v3 fun h6 =>
 pFld 0 ((.ptr b4 0)) fun v7 =>
 pLd h6 none v7 fun v8 =>
 asK .i64 v8 fun n9 =>
 bif (decide (n9 < (1))) then (some (.bool false, h6))
 else (pFld 0 ((.ptr b4 0)) fun v10 =>
 pLd h6 none v10 fun v11 =>
 asK .i64 v11 fun n12 =>
 bif (decide (n12 > (5))) then (some (.bool false, h6))
 else (impl_IsLinear.J3 call k i1 x5 x6 x7 h6)) := by kernel_rfl
theorem impl_IsLinear.L1_zero (call : Nat → List AV → AH → O) (k : Nat) (x5 : AV) (x6 : Int) (x7 : Int) (h : AH) : impl_IsLinear.L1 call k 0 x5 x6 x7 h = none := rfl
theorem impl_IsLinear.L1_succ (call : Nat → List AV → AH → O) (k : Nat) (i1 : Nat) (x5 : AV) (x6 : Int) (x7 : Int) (h : AH) : impl_IsLinear.L1 call k (i1 + 1) x5 x6 x7 h =
 bif (decide (x7 < x6)) then (impl_IsLinear.J2 call k i1 x5 x6 x7 h)
 else (impl_IsLinear.J4 call k h) := by kernel_rfl
theorem impl_IsLinear_run (T : Nat → Option AF) (hT : T 186 = some impl_IsLinear.ir) (k : Nat) (a0 : AV) (h : AH) : run T (k + 1) 186 [a0] h =
 (fun (call : Nat → List AV → AH → O) => pLen a0 fun m1 =>
 impl_IsLinear.L1 call k k a0 (m1 : Int) (0) h) (run T k) := by unfold run; rw [hT]; kernel_rfl
/- loop.example/dataflow/spec.IsLinear: number 187 -/
def spec_IsLinear.c3 : AC :=
 (.reg none [⟨0, (some 8), .move (.t 3), .any, none, []⟩,
   ⟨1, (some 9), .bin .add (.t 8) (.c (.int .i64 (1))), .any, none, []⟩,
   ⟨2, (some 3), .move (.t 9), .any, none, []⟩])
def spec_IsLinear.c2 : AC :=
 (.seq (some [(0, .any), (3, (.int .i64))])
 (.block 1 (.seq none
   (.reg none [⟨0, (some 10), .move (.t 0), .any, none, []⟩,
      ⟨1, (some 11), .move (.t 3), .any, none, []⟩,
      ⟨2, (some 12), .idx 10 (.t 10) (.t 11), .any, none, []⟩,
      ⟨3, (some 13), .fld 0 (.t 12), .any, none, []⟩,
      ⟨4, (some 14), .load none (.t 13), (.int .i64), none, []⟩,
      ⟨5, (some 15), .call 49 [(.t 14), (.c (.int .i64 (1))), (.c (.int .i64 (5)))], .bool, none, []⟩,
      ⟨6, (some 16), .not (.t 15), .any, none, []⟩])
   (.cond (.t 16)
   (.seq none
    (.reg none [⟨0, (some 2), .move (.c (.bool false)), .any, none, []⟩])
    (.ret))
   (.skip))))
 (spec_IsLinear.c3))
def spec_IsLinear.c1 : AC :=
 (.seq (some [(0, .any), (3, (.int .i64))])
 (.seq none
  (.reg none [⟨0, (some 4), .move (.t 3), .any, none, []⟩,
     ⟨1, (some 5), .move (.t 0), .any, none, []⟩,
     ⟨2, (some 6), .len (.t 5), .any, none, []⟩,
     ⟨3, (some 7), .bin .lss (.t 4) (.t 6), .any, none, []⟩])
  (.cond (.t 7)
  (.skip)
  (.exit 0)))
 (spec_IsLinear.c2))
def spec_IsLinear.c4 : AC :=
 (.seq none
 (.reg none [⟨0, (some 2), .move (.c (.bool true)), .any, none, []⟩])
 (.ret))
def spec_IsLinear.ir : AF := ⟨[(0, .any)], 17, [.tmp 2],
 (.seq none
 (.reg none [⟨0, (some 2), .move (.c (.bool false)), .any, none, []⟩])
 (.seq (some [])
 (.seq none
  (.reg none [⟨0, (some 3), .move (.c (.int .i64 (0))), .any, none, []⟩])
  (.block 0 (.loop [(0, .any), (3, (.int .i64))] spec_IsLinear.c1)))
 (spec_IsLinear.c4)))⟩
noncomputable abbrev spec_IsLinear.K4 (call : Nat → List AV → AH → O) (k : Nat) : KX := seqK (some []) (exec call k spec_IsLinear.c4 (fin [.tmp 2])) (fin [.tmp 2])
noncomputable abbrev spec_IsLinear.K1 (call : Nat → List AV → AH → O) (k : Nat) (i1 : Nat) : KX := loopK [(0, .any), (3, (.int .i64))] (loopE (exec call k spec_IsLinear.c1) [(0, .any), (3, (.int .i64))] i1 (blockK 0 (spec_IsLinear.K4 call k))) (blockK 0 (spec_IsLinear.K4 call k))
noncomputable abbrev spec_IsLinear.K3 (call : Nat → List AV → AH → O) (k : Nat) (i1 : Nat) : KX := seqK (some [(0, .any), (3, (.int .i64))]) (exec call k spec_IsLinear.c3 (spec_IsLinear.K1 call k i1)) (spec_IsLinear.K1 call k i1)
noncomputable abbrev spec_IsLinear.K2 (call : Nat → List AV → AH → O) (k : Nat) (i1 : Nat) : KX := seqK (some [(0, .any), (3, (.int .i64))]) (exec call k spec_IsLinear.c2 (spec_IsLinear.K1 call k i1)) (spec_IsLinear.K1 call k i1)
noncomputable abbrev spec_IsLinear.J4 (call : Nat → List AV → AH → O) (k : Nat) (h : AH) : O := exec call k spec_IsLinear.c4 (fin [.tmp 2]) [.junk, .junk, .junk, .junk, .junk, .junk, .junk, .junk, .junk, .junk, .junk, .junk, .junk, .junk, .junk, .junk, .junk] h
noncomputable abbrev spec_IsLinear.J3 (call : Nat → List AV → AH → O) (k : Nat) (i1 : Nat) (x0 : AV) (x3 : Int) (h : AH) : O := exec call k spec_IsLinear.c3 (spec_IsLinear.K1 call k i1) [x0, .junk, .junk, .int .i64 x3, .junk, .junk, .junk, .junk, .junk, .junk, .junk, .junk, .junk, .junk, .junk, .junk, .junk] h
noncomputable abbrev spec_IsLinear.J2 (call : Nat → List AV → AH → O) (k : Nat) (i1 : Nat) (x0 : AV) (x3 : Int) (h : AH) : O := exec call k spec_IsLinear.c2 (spec_IsLinear.K1 call k i1) [x0, .junk, .junk, .int .i64 x3, .junk, .junk, .junk, .junk, .junk, .junk, .junk, .junk, .junk, .junk, .junk, .junk, .junk] h
noncomputable abbrev spec_IsLinear.L1 (call : Nat → List AV → AH → O) (k : Nat) (i1 : Nat) (x0 : AV) (x3 : Int) (h : AH) : O := loopE (exec call k spec_IsLinear.c1) [(0, .any), (3, (.int .i64))] i1 (blockK 0 (spec_IsLinear.K4 call k)) [x0, .junk, .junk, .int .i64 x3, .junk, .junk, .junk, .junk, .junk, .junk, .junk, .junk, .junk, .junk, .junk, .junk, .junk] h
theorem spec_IsLinear.J4_eq (call : Nat → List AV → AH → O) (k : Nat) (h : AH) : spec_IsLinear.J4 call k h =
 some (.bool true, h) := by kernel_rfl
theorem spec_IsLinear.J3_eq (call : Nat → List AV → AH → O) (k : Nat) (i1 : Nat) (x0 : AV) (x3 : Int) (h : AH) : spec_IsLinear.J3 call k i1 x0 x3 h =
 spec_IsLinear.L1 call k i1 x0 (IntKind.i64.wrap (x3 + (1))) h := by kernel_rfl
theorem spec_IsLinear.J2_eq (call : Nat → List AV → AH → O) (k : Nat) (i1 : Nat) (x0 : AV) (x3 : Int) (h : AH) : spec_IsLinear.J2 call k i1 x0 x3 h =
 pIdx 10 x0 x3 fun v1 =>
 pFld 0 v1 fun v2 =>
 pLd h none v2 fun v3 =>
 asK .i64 v3 fun n4 =>
 pCallB call 49 [.int .i64 n4, .int .i64 (1), .int .i64 (5)] h fun b6 h5 =>
 bif (!b6) then (some (.bool false, h5))
 else (spec_IsLinear.J3 call k i1 x0 x3 h5) := by kernel_rfl
theorem spec_IsLinear.L1_zero (call : Nat → List AV → AH → O) (k : Nat) (x0 : AV) (x3 : Int) (h : AH) : spec_IsLinear.L1 call k 0 x0 x3 h = none := rfl
theorem spec_IsLinear.L1_succ (call : Nat → List AV → AH → O) (k : Nat) (i1 : Nat) (x0 : AV) (x3 : Int) (h : AH) : spec_IsLinear.L1 call k (i1 + 1) x0 x3 h =
 pLen x0 fun m7 =>
 bif (decide (x3 < (m7 : Int))) then (spec_IsLinear.J2 call k i1 x0 x3 h)
 else (spec_IsLinear.J4 call k h) := by kernel_rfl
theorem spec_IsLinear_run (T : Nat → Option AF) (hT : T 187 = some spec_IsLinear.ir) (k : Nat) (a0 : AV) (h : AH) : run T (k + 1) 187 [a0] h =
 (fun (call : Nat → List AV → AH → O) => spec_IsLinear.L1 call k k a0 (0) h) (run T k) := by unfold run; rw [hT]; kernel_rfl
/- loop.example/dataflow/laws.FnIsLinear: number 268 -/
def laws_FnIsLinear.c5 : AC :=
 (.reg none [⟨0, (some 22), .move (.t 6), .any, none, []⟩,
   ⟨1, (some 23), .bin .add (.t 22) (.c (.int .i64 (1))), .any, none, []⟩,
   ⟨2, (some 6), .move (.t 23), .any, none, []⟩])
def laws_FnIsLinear.c4 : AC :=
 (.seq (some [(3, .any), (4, .bool), (5, .any), (6, (.int .i64))])
 (.block 1 (.reg none [⟨0, (some 24), .move (.t 5), .any, none, []⟩,
     ⟨1, (some 25), .move (.t 24), .any, none, []⟩,
     ⟨2, (some 26), .move (.t 3), .any, (some (25, true)), []⟩,
     ⟨3, (some 27), .move (.t 6), .any, (some (25, true)), []⟩,
     ⟨4, (some 28), .move (.t 6), .any, (some (25, true)), []⟩,
     ⟨5, (some 29), .bin .add (.t 28) (.c (.int .i64 (1))), .any, (some (25, true)), []⟩,
     ⟨6, (some 30), .slice 10 (.t 26) (some (.t 27)) (some (.t 29)), .any, (some (25, true)), []⟩,
     ⟨7, (some 31), .call 186 [(.t 30)], .bool, (some (25, true)), []⟩,
     ⟨8, (some 32), .pick (.t 25) (.t 31) (.c (.bool false)), .any, none, []⟩,
     ⟨9, (some 5), .move (.t 32), .any, none, []⟩]))
 (laws_FnIsLinear.c5))
def laws_FnIsLinear.c3 : AC :=
 (.seq (some [(3, .any), (4, .bool), (5, .any), (6, (.int .i64))])
 (.seq none
  (.reg none [⟨0, (some 18), .move (.t 6), .any, none, []⟩,
     ⟨1, (some 19), .move (.t 3), .any, none, []⟩,
     ⟨2, (some 20), .len (.t 19), .any, none, []⟩,
     ⟨3, (some 21), .bin .lss (.t 18) (.t 20), .any, none, []⟩])
  (.cond (.t 21)
  (.skip)
  (.exit 0)))
 (laws_FnIsLinear.c4))
def laws_FnIsLinear.c6 : AC :=
 (.seq none
 (.reg none [⟨0, (some 33), .move (.t 4), .any, none, []⟩,
    ⟨1, (some 34), .move (.t 5), .any, none, []⟩,
    ⟨2, (some 35), .eqb false (.t 33) (.t 34), .any, none, []⟩,
    ⟨3, (some 36), .move (.t 35), .any, none, []⟩,
    ⟨4, (some 37), .buildS 0 10 [] [], .any, (some (36, true)), []⟩,
    ⟨5, (some 38), .call 186 [(.t 37)], .bool, (some (36, true)), []⟩,
    ⟨6, (some 39), .pick (.t 36) (.t 38) (.c (.bool false)), .any, none, []⟩,
    ⟨7, (some 2), .move (.t 39), .any, none, []⟩])
 (.ret))
def laws_FnIsLinear.c2 : AC :=
 (.seq none
 (.reg none [⟨0, (some 5), .move (.c (.bool true)), .any, none, []⟩])
 (.seq (some [(4, .bool), (5, .any)])
 (.seq none
  (.reg none [⟨0, (some 6), .move (.c (.int .i64 (0))), .any, none, []⟩])
  (.block 0 (.loop [(3, .any), (4, .bool), (5, .any), (6, (.int .i64))] laws_FnIsLinear.c3)))
 (laws_FnIsLinear.c6)))
def laws_FnIsLinear.c1 : AC :=
 (.seq none
 (.reg none [⟨0, (some 10), .move (.t 0), .any, none, []⟩,
    ⟨1, (some 11), .call 185 [(.t 10)], .any, none, []⟩,
    ⟨2, (some 3), .move (.t 11), .any, none, []⟩])
 (.seq none
 (.reg none [⟨0, (some 12), .move (.t 3), .any, none, []⟩,
    ⟨1, (some 13), .call 186 [(.t 12)], .bool, none, []⟩,
    ⟨2, (some 4), .move (.t 13), .any, none, []⟩])
 (.seq (some [(3, .any), (4, .bool)])
 (.seq none
  (.reg none [⟨0, (some 14), .move (.t 4), .any, none, []⟩,
     ⟨1, (some 15), .move (.t 3), .any, none, []⟩,
     ⟨2, (some 16), .call 187 [(.t 15)], .bool, none, []⟩,
     ⟨3, (some 17), .eqb true (.t 14) (.t 16), .any, none, []⟩])
  (.cond (.t 17)
  (.seq none
   (.reg none [⟨0, (some 2), .move (.c (.bool false)), .any, none, []⟩])
   (.ret))
  (.skip)))
 (laws_FnIsLinear.c2))))
def laws_FnIsLinear.ir : AF := ⟨[(0, .any)], 40, [.tmp 2],
 (.seq none
 (.reg none [⟨0, (some 2), .move (.c (.bool false)), .any, none, []⟩])
 (.seq (some [(0, .any)])
 (.seq none
  (.reg none [⟨0, (some 7), .move (.t 0), .any, none, []⟩,
     ⟨1, (some 8), .len (.t 7), .any, none, []⟩,
     ⟨2, (some 9), .bin .gtr (.t 8) (.c (.int .i64 (1048576))), .any, none, []⟩])
  (.cond (.t 9)
  (.seq none
   (.reg none [⟨0, (some 2), .move (.c (.bool true)), .any, none, []⟩])
   (.ret))
  (.skip)))
 (laws_FnIsLinear.c1)))⟩
noncomputable abbrev laws_FnIsLinear.K6 (call : Nat → List AV → AH → O) (k : Nat) : KX := seqK (some [(4, .bool), (5, .any)]) (exec call k laws_FnIsLinear.c6 (fin [.tmp 2])) (fin [.tmp 2])
noncomputable abbrev laws_FnIsLinear.K3 (call : Nat → List AV → AH → O) (k : Nat) (i1 : Nat) : KX := loopK [(3, .any), (4, .bool), (5, .any), (6, (.int .i64))] (loopE (exec call k laws_FnIsLinear.c3) [(3, .any), (4, .bool), (5, .any), (6, (.int .i64))] i1 (blockK 0 (laws_FnIsLinear.K6 call k))) (blockK 0 (laws_FnIsLinear.K6 call k))
noncomputable abbrev laws_FnIsLinear.K5 (call : Nat → List AV → AH → O) (k : Nat) (i1 : Nat) : KX := seqK (some [(3, .any), (4, .bool), (5, .any), (6, (.int .i64))]) (exec call k laws_FnIsLinear.c5 (laws_FnIsLinear.K3 call k i1)) (laws_FnIsLinear.K3 call k i1)
noncomputable abbrev laws_FnIsLinear.K4 (call : Nat → List AV → AH → O) (k : Nat) (i1 : Nat) : KX := seqK (some [(3, .any), (4, .bool), (5, .any), (6, (.int .i64))]) (exec call k laws_FnIsLinear.c4 (laws_FnIsLinear.K3 call k i1)) (laws_FnIsLinear.K3 call k i1)
noncomputable abbrev laws_FnIsLinear.K2 (call : Nat → List AV → AH → O) (k : Nat) : KX := seqK (some [(3, .any), (4, .bool)]) (exec call k laws_FnIsLinear.c2 (fin [.tmp 2])) (fin [.tmp 2])
noncomputable abbrev laws_FnIsLinear.K1 (call : Nat → List AV → AH → O) (k : Nat) : KX := seqK (some [(0, .any)]) (exec call k laws_FnIsLinear.c1 (fin [.tmp 2])) (fin [.tmp 2])
noncomputable abbrev laws_FnIsLinear.J6 (call : Nat → List AV → AH → O) (k : Nat) (x4 : Bool) (x5 : AV) (h : AH) : O := exec call k laws_FnIsLinear.c6 (fin [.tmp 2]) [.junk, .junk, .junk, .junk, .bool x4, x5, .junk, .junk, .junk, .junk, .junk, .junk, .junk, .junk, .junk, .junk, .junk, .junk, .junk, .junk, .junk, .junk, .junk, .junk, .junk, .junk, .junk, .junk, .junk, .junk, .junk, .junk, .junk, .junk, .junk, .junk, .junk, .junk, .junk, .junk] h
noncomputable abbrev laws_FnIsLinear.J5 (call : Nat → List AV → AH → O) (k : Nat) (i1 : Nat) (x3 : AV) (x4 : Bool) (x5 : AV) (x6 : Int) (h : AH) : O := exec call k laws_FnIsLinear.c5 (laws_FnIsLinear.K3 call k i1) [.junk, .junk, .junk, x3, .bool x4, x5, .int .i64 x6, .junk, .junk, .junk, .junk, .junk, .junk, .junk, .junk, .junk, .junk, .junk, .junk, .junk, .junk, .junk, .junk, .junk, .junk, .junk, .junk, .junk, .junk, .junk, .junk, .junk, .junk, .junk, .junk, .junk, .junk, .junk, .junk, .junk] h
noncomputable abbrev laws_FnIsLinear.J4 (call : Nat → List AV → AH → O) (k : Nat) (i1 : Nat) (x3 : AV) (x4 : Bool) (x5 : AV) (x6 : Int) (h : AH) : O := exec call k laws_FnIsLinear.c4 (laws_FnIsLinear.K3 call k i1) [.junk, .junk, .junk, x3, .bool x4, x5, .int .i64 x6, .junk, .junk, .junk, .junk, .junk, .junk, .junk, .junk, .junk, .junk, .junk, .junk, .junk, .junk, .junk, .junk, .junk, .junk, .junk, .junk, .junk, .junk, .junk, .junk, .junk, .junk, .junk, .junk, .junk, .junk, .junk, .junk, .junk] h
noncomputable abbrev laws_FnIsLinear.L3 (call : Nat → List AV → AH → O) (k : Nat) (i1 : Nat) (x3 : AV) (x4 : Bool) (x5 : AV) (x6 : Int) (h : AH) : O := loopE (exec call k laws_FnIsLinear.c3) [(3, .any), (4, .bool), (5, .any), (6, (.int .i64))] i1 (blockK 0 (laws_FnIsLinear.K6 call k)) [.junk, .junk, .junk, x3, .bool x4, x5, .int .i64 x6, .junk, .junk, .junk, .junk, .junk, .junk, .junk, .junk, .junk, .junk, .junk, .junk, .junk, .junk, .junk, .junk, .junk, .junk, .junk, .junk, .junk, .junk, .junk, .junk, .junk, .junk, .junk, .junk, .junk, .junk, .junk, .junk, .junk] h
noncomputable abbrev laws_FnIsLinear.J2 (call : Nat → List AV → AH → O) (k : Nat) (x3 : AV) (x4 : Bool) (h : AH) : O := exec call k laws_FnIsLinear.c2 (fin [.tmp 2]) [.junk, .junk, .junk, x3, .bool x4, .junk, .junk, .junk, .junk, .junk, .junk, .junk, .junk, .junk, .junk, .junk, .junk, .junk, .junk, .junk, .junk, .junk, .junk, .junk, .junk, .junk, .junk, .junk, .junk, .junk, .junk, .junk, .junk, .junk, .junk, .junk, .junk, .junk, .junk, .junk] h
noncomputable abbrev laws_FnIsLinear.J1 (call : Nat → List AV → AH → O) (k : Nat) (x0 : AV) (h : AH) : O := exec call k laws_FnIsLinear.c1 (fin [.tmp 2]) [x0, .junk, .junk, .junk, .junk, .junk, .junk, .junk, .junk, .junk, .junk, .junk, .junk, .junk, .junk, .junk, .junk, .junk, .junk, .junk, .junk, .junk, .junk, .junk, .junk, .junk, .junk, .junk, .junk, .junk, .junk, .junk, .junk, .junk, .junk, .junk, .junk, .junk, .junk, .junk] h
theorem laws_FnIsLinear.J6_eq (call : Nat → List AV → AH → O) (k : Nat) (x4 : Bool) (x5 : AV) (h : AH) : laws_FnIsLinear.J6 call k x4 x5 h =
 asB x5 fun b5 =>
 bif ((x4 == b5) != false) then (pFill [] [] fun c6 =>
 pNew h c6 fun b7 h8 =>
 pCallB call 186 [(.sl b7 0 0 10)] h8 fun b10 h9 =>
 some (.bool b10, h9))
 else (some (.bool false, h)) := by kernel_rfl
theorem laws_FnIsLinear.J5_eq (call : Nat → List AV → AH → O) (k : Nat) (i1 : Nat) (x3 : AV) (x4 : Bool) (x5 : AV) (x6 : Int) (h : AH) : laws_FnIsLinear.J5 call k i1 x3 x4 x5 x6 h =
 laws_FnIsLinear.L3 call k i1 x3 x4 x5 (IntKind.i64.wrap (x6 + (1))) h := by kernel_rfl
theorem laws_FnIsLinear.J4_eq (call : Nat → List AV → AH → O) (k : Nat) (i1 : Nat) (x3 : AV) (x4 : Bool) (x5 : AV) (x6 : Int) (h : AH) : laws_FnIsLinear.J4 call k i1 x3 x4 x5 x6 h =
 asB x5 fun b11 =>
 bif b11 then (pSlice 10 x3 (some x6) (some (IntKind.i64.wrap (x6 + (1)))) fun v12 =>
 pCallB call 186 [v12] h fun b14 h13 =>
 laws_FnIsLinear.J5 call k i1 x3 x4 (.bool b14) x6 h13)
 else (laws_FnIsLinear.J5 call k i1 x3 x4 (.bool false) x6 h) := by kernel_rfl
theorem laws_FnIsLinear.L3_zero (call : Nat → List AV → AH → O) (k : Nat) (x3 : AV) (x4 : Bool) (x5 : AV) (x6 : Int) (h : AH) : laws_FnIsLinear.L3 call k 0 x3 x4 x5 x6 h = none := rfl
theorem laws_FnIsLinear.L3_succ (call : Nat → List AV → AH → O) (k : Nat) (i1 : Nat) (x3 : AV) (x4 : Bool) (x5 : AV) (x6 : Int) (h : AH) : laws_FnIsLinear.L3 call k (i1 + 1) x3 x4 x5 x6 h =
 pLen x3 fun m15 =>
 bif (decide (x6 < (m15 : Int))) then (laws_FnIsLinear.J4 call k i1 x3 x4 x5 x6 h)
 else (laws_FnIsLinear.J6 call k x4 x5 h) := by kernel_rfl
theorem laws_FnIsLinear.J2_eq (call : Nat → List AV → AH → O) (k : Nat) (x3 : AV) (x4 : Bool) (h : AH) : laws_FnIsLinear.J2 call k x3 x4 h =
 laws_FnIsLinear.L3 call k k x3 x4 (.bool true) (0) h := by kernel_rfl
theorem laws_FnIsLinear.J1_eq (call : Nat → List AV → AH → O) (k : Nat) (x0 : AV) (h : AH) : laws_FnIsLinear.J1 call k x0 h =
 pCall call 185 [x0] h fun v2 h1 =>
 pCallB call 186 [v2] h1 fun b4 h3 =>
 pCallB call 187 [v2] h3 fun b17 h16 =>
 bif ((b4 == b17) != true) then (some (.bool false, h16))
 else (laws_FnIsLinear.J2 call k v2 b4 h16) := by kernel_rfl
theorem laws_FnIsLinear_run (T : Nat → Option AF) (hT : T 268 = some laws_FnIsLinear.ir) (k : Nat) (a0 : AV) (h : AH) : run T (k + 1) 268 [a0] h =
 (fun (call : Nat → List AV → AH → O) => pLen a0 fun m18 =>
 bif ((decide ((m18 : Int) > (1048576)))) then (some (.bool true, h))
 else (laws_FnIsLinear.J1 call k a0 h)) (run T k) := by unfold run; rw [hT]; kernel_rfl
theorem copyInts_ok {T : Nat → Option AF} (H : T 75 = some spec_copyInts.ir) {k : Nat} (hk : 1 ≤ k) {h : AH} {x : AV} {l : List Int} (hx : Ints h.blk x l) (hl : l.length ≤ 1000000) (ok : Ok h) :
    W (run T k 75 [x] h) fun v h' => ∃ B, Own h' 1 v (l.map fun (n : Int) => [.int .i64 n]) B ∧ Ch [] h h' ∧ Ok h' ∧ ∀ b, b ∈ B → h.next ≤ b := by
  obtain ⟨k, rfl⟩ : ∃ j, k = j + 1 := ⟨k - 1, by omega⟩
  rw [spec_copyInts_run T H]
  simp only [fill_nil, new_eq]
  have nx : (h.new ([] : List AV)).next = h.next + 1 := rfl
  refine W.app (Own.new (h := h) (s := 1)) (Sl.mono hx ok.sub_new) (room_ok (by simp; omega) (by omega)) ok.new fun v h2 B' a1 a2 a3 a4 => W.ret ⟨B', by simpa using a1, ?_, a3, fun b hb => by have := a4 b hb; omega⟩
  exact Ch.new.trans a2 fun x hx => by simp at hx; right; omega
theorem flatten_set {s : Nat} : ∀ (rows : List (List AV)) (i o : Nat) (v : AV) (r : List AV), (∀ r, r ∈ rows → r.length = s) → rows[i]? = some r → o < s → rows.flatten.set (i * s + o) v = (rows.set i (r.set o v)).flatten
  | [], _, _, _, _, _, h, _ => by simp at h
  | a :: l, 0, o, v, r, hs, h, ho => by
    simp at h; subst h
    have ha := hs a (List.mem_cons_self ..)
    rw [Nat.zero_mul, Nat.zero_add, List.flatten_cons, List.set_append_left _ _ (by omega)]; simp
  | a :: l, i + 1, o, v, r, hs, h, ho => by
    have ha := hs a (List.mem_cons_self ..)
    have ih := flatten_set l i o v r (fun r hr => hs r (List.mem_cons_of_mem _ hr)) (by simpa using h) ho
    rw [List.flatten_cons, List.set_append_right _ _ (by rw [ha, Nat.add_mul]; omega), List.set_cons_succ, List.flatten_cons, ← ih, ha]
    congr 2
    rw [Nat.add_mul]; omega
/-- A cell of a row of a slice of one's own is written. -/
theorem W.setRow {Q : AV → AH → Prop} {h : AH} {s : Nat} {x : AV} {rows : List (List AV)} {B : List Nat} {i : Int} {j o : Nat} {r : List AV} {v : AV} {K : AH → O} (ow : Own h s x rows B) (ok : Ok h) (hi : i = (j : Int)) (hr : rows[j]? = some r) (ho : o < s) (hv : cellsOf v = some [v])
    (a : ∀ h', Own h' s x (rows.set j (r.set o v)) B → Ch B h h' → Ok h' → W (K h') Q) : W (pIdx s x i fun p => pFld o p fun q => pSt h 1 q v K) Q := by
  have hj : j < rows.length := (List.getElem?_eq_some_iff.1 hr).1
  rcases ow.2 with ⟨_, rfl, _⟩ | ⟨b, rfl, rfl, h1⟩
  · simp at hr
  · refine W.idx ow.sl hr hi fun pt => ?_
    simp only [ixp, fld_at, Nat.zero_add]
    have hlen := flatten_len rows ow.1
    have hlt : j * s + o < rows.flatten.length := by
      rw [hlen]
      have : (j + 1) * s ≤ rows.length * s := Nat.mul_le_mul_right _ (by omega)
      rw [Nat.add_mul] at this; omega
    rw [st_at h1 hv hlt]
    have hrs := ow.1 r (List.mem_of_getElem? hr)
    refine a _ ⟨fun x hx => ?_, .inr ⟨b, rfl, by simp, ?_⟩⟩ Ch.set (ok.set h1)
    · rcases List.mem_or_eq_of_mem_set hx with hx | rfl
      · exact ow.1 x hx
      · simp [hrs]
    · rw [AH.set_same, flatten_set rows j o v r ow.1 hr ho]
/-- The first cell of a node. -/
def linRow (r : List AV) : Bool := match r with
  | .int .i64 a :: _ => decide (1 ≤ a ∧ a ≤ 5)
  | _ => false
theorem implIsLinear_loop {T : Nat → Option AF} {k : Nat} {m : Mem} {x : AV} {rows : List (List AV)} (hx : Sl m 10 x rows) {bn : Nat} (hn : ∀ r, r ∈ rows → NodeB bn m r) (hl : rows.length ≤ 1000000) : ∀ (d i1 : Nat) (j : Nat) (h : AH), j + d = rows.length → d < i1 → Sub m h → Ok h →
    WB (impl_IsLinear.L1 (run T k) k i1 x (rows.length : Int) (j : Int) h) fun n h' => n = (rows.drop j).all linRow ∧ Ch [] h h' ∧ Ok h' := by
  intro d
  induction d with
  | zero =>
    intro i1 j h h1 h2 sub ok
    obtain ⟨i1, rfl⟩ : ∃ j, i1 = j + 1 := ⟨i1 - 1, by omega⟩
    rw [impl_IsLinear.L1_succ]
    refine W.bif_ (fun c => ?_) fun c => ?_
    · have : (j : Int) < rows.length := by simpa using c
      omega
    · rw [impl_IsLinear.J4_eq]
      exact W.ret ⟨_, rfl, by rw [List.drop_of_length_le (by omega)]; rfl, Ch.refl _ _, ok⟩
  | succ d ih =>
    intro i1 j h h1 h2 sub ok
    obtain ⟨i1, rfl⟩ : ∃ j, i1 = j + 1 := ⟨i1 - 1, by omega⟩
    rw [impl_IsLinear.L1_succ]
    have hj : j < rows.length := by omega
    refine W.bif_ (fun c => ?_) fun c => ?_
    · rw [impl_IsLinear.J2_eq]
      have hmem := List.getElem_mem hj
      obtain ⟨a, b, c, d', y, p0, p1, p2, g, e, l, hr, _⟩ := hn _ hmem
      have hlen := hx.1 _ hmem
      refine W.idx hx (j := j) (r := rows[j]) (by simp [hj]) rfl fun pt => ?_
      refine W.ldn (pt.mono sub) hlen.symm ?_
      simp only [new_eq, fld_at, Nat.zero_add]
      have z := AH.new_same h [.int .i64 0, .int .i64 0, .int .i64 0, .int .i64 0, .nils, .int .i64 0, .int .i64 0, .int .i64 0, .int .i64 0, .int .i64 0]
      have k1 : Ch [] h (h.new [.int .i64 0, .int .i64 0, .int .i64 0, .int .i64 0, .nils, .int .i64 0, .int .i64 0, .int .i64 0, .int .i64 0, .int .i64 0]) := Ch.new
      have ok1 := ok.new (cs := [.int .i64 0, .int .i64 0, .int .i64 0, .int .i64 0, .nils, .int .i64 0, .int .i64 0, .int .i64 0, .int .i64 0, .int .i64 0])
      have sub1 := sub.keep ok k1 (by simp)
      have fr := sub.fresh ok (Nat.le_refl _)
      generalize hb : h.next = b2 at *
      generalize h.new [.int .i64 0, .int .i64 0, .int .i64 0, .int .i64 0, .nils, .int .i64 0, .int .i64 0, .int .i64 0, .int .i64 0, .int .i64 0] = h2 at *
      have st : ∀ (K : AH → O), pSt h2 10 (.ptr b2 0) (.agg rows[j]) K = K (h2.set b2 rows[j]) := fun K => by
        unfold pSt aSt; simp only [z, cellsOf, Option.bind_some]
        rw [if_pos ⟨hlen, by simp⟩, Option.bind_some, splice, hlen]
        simp
      rw [st]
      have k2 : Ch [b2] h2 (h2.set b2 rows[j]) := Ch.set
      have k3 := k1.trans k2 (by simp; omega)
      have ok3 := ok1.set (cs := rows[j]) z
      have sub3 := sub1.keep ok1 k2 (by simp; exact fr)
      have z3 : (h2.set b2 rows[j]).blk b2 = some rows[j] := AH.set_same ..
      generalize h2.set b2 rows[j] = h3 at *
      have dj : rows.drop j = rows[j] :: rows.drop (j + 1) := List.drop_eq_getElem_cons hj
      rw [dj, List.all_cons]
      rw [hr] at z3 ⊢
      simp only [ld_at z3 (o := 0) rfl, asK, kEq, cond_true]
      refine W.bif_ (fun c1 => W.ret ⟨_, rfl, ?_, k3, ok3⟩) fun c1 => W.bif_ (fun c2 => W.ret ⟨_, rfl, ?_, k3, ok3⟩) fun c2 => ?_
      · have : a < 1 := by simpa using c1
        have : ¬ (1 ≤ a ∧ a ≤ 5) := by omega
        simp [linRow, this]
      · have : 5 < a := by simpa using c2
        have : ¬ (1 ≤ a ∧ a ≤ 5) := by omega
        simp [linRow, this]
      · have a1 : 1 ≤ a := by simpa using c1
        have a2 : a ≤ 5 := by simpa using c2
        rw [impl_IsLinear.J3_eq, wr (by omega) (by omega)]
        have e : (j : Int) + 1 = ((j + 1 : Nat) : Int) := by omega
        rw [e]
        refine (ih i1 (j + 1) h3 (by omega) (by omega) sub3 ok3).mono fun v h' ⟨n, e1, e2, e3, e4⟩ => ⟨n, e1, ?_, k3.trans0 e3, e4⟩
        rw [e2]; simp [linRow, a1, a2]
    · have : (rows.length : Int) ≤ j := by simpa using c
      omega
theorem implIsLinear_ok {T : Nat → Option AF} (H : T 186 = some impl_IsLinear.ir) {k : Nat} (hk : 1000010 ≤ k) {m : Mem} {h : AH} {x : AV} {rows : List (List AV)} (hx : Sl m 10 x rows) {bn : Nat} (hn : ∀ r, r ∈ rows → NodeB bn m r) (hl : rows.length ≤ 1000000) (sub : Sub m h) (ok : Ok h) :
    WB (run T k 186 [x] h) fun n h' => n = rows.all linRow ∧ Ch [] h h' ∧ Ok h' := by
  obtain ⟨k, rfl⟩ : ∃ j, k = j + 1 := ⟨k - 1, by omega⟩
  rw [impl_IsLinear_run T H]
  refine W.len hx ?_
  exact implIsLinear_loop hx hn hl rows.length k 0 h (by omega) (by omega) sub ok
theorem specIsLinear_loop {T : Nat → Option AF} (H49 : T 49 = some spec_inRange.ir) {k : Nat} (hk : 1 ≤ k) {h : AH} {x : AV} {rows : List (List AV)} (hx : Sl h.blk 10 x rows) (hn : ∀ r, r ∈ rows → ∃ a r', r = .int .i64 a :: r') (hl : rows.length ≤ 1000000) : ∀ (d i1 : Nat) (j : Nat), j + d = rows.length → d < i1 →
    WB (spec_IsLinear.L1 (run T k) k i1 x (j : Int) h) fun n h' => n = (rows.drop j).all linRow ∧ h' = h := by
  intro d
  induction d with
  | zero =>
    intro i1 j h1 h2
    obtain ⟨i1, rfl⟩ : ∃ j, i1 = j + 1 := ⟨i1 - 1, by omega⟩
    rw [spec_IsLinear.L1_succ]
    refine W.len hx (W.bif_ (fun c => ?_) fun c => ?_)
    · have : (j : Int) < rows.length := by simpa using c
      omega
    · rw [spec_IsLinear.J4_eq]
      exact W.ret ⟨_, rfl, by rw [List.drop_of_length_le (by omega)]; rfl, rfl⟩
  | succ d ih =>
    intro i1 j h1 h2
    obtain ⟨i1, rfl⟩ : ∃ j, i1 = j + 1 := ⟨i1 - 1, by omega⟩
    rw [spec_IsLinear.L1_succ]
    have hj : j < rows.length := by omega
    refine W.len hx (W.bif_ (fun c => ?_) fun c => ?_)
    · rw [spec_IsLinear.J2_eq]
      obtain ⟨a, r', hr⟩ := hn _ (List.getElem_mem hj)
      refine W.idx hx (j := j) (r := rows[j]) (by simp [hj]) rfl fun pt => ?_
      refine W.fld pt ?_
      have pt0 := pt.fld (o := 0) (by omega)
      rw [List.drop_zero, hr] at pt0
      refine W.ldI pt0 ?_
      have dj : rows.drop j = rows[j] :: rows.drop (j + 1) := List.drop_eq_getElem_cons hj
      rw [dj, List.all_cons, hr]
      refine W.callB (inRange_ok H49 hk) fun n h' ⟨en, e⟩ => ?_
      subst h'
      refine W.bif_ (fun c1 => W.ret ⟨_, rfl, ?_, rfl⟩) fun c1 => ?_
      · have : n = false := by simpa using c1
        rw [this] at en
        have en := en.symm
        simp only [linRow, en, Bool.false_and]
      · have : n = true := by simpa using c1
        rw [this] at en
        have en := en.symm
        rw [spec_IsLinear.J3_eq, wr (by omega) (by omega)]
        have e : (j : Int) + 1 = ((j + 1 : Nat) : Int) := by omega
        rw [e]
        refine (ih i1 (j + 1) (by omega) (by omega)).mono fun v h' ⟨n, e1, e2, e3⟩ => ⟨n, e1, ?_, e3⟩
        rw [e2]; simp only [linRow, en, Bool.true_and]
    · have : (rows.length : Int) ≤ j := by simpa using c
      omega
theorem specIsLinear_ok {T : Nat → Option AF} (H : T 187 = some spec_IsLinear.ir) (H49 : T 49 = some spec_inRange.ir) {k : Nat} (hk : 1000010 ≤ k) {h : AH} {x : AV} {rows : List (List AV)} (hx : Sl h.blk 10 x rows) (hn : ∀ r, r ∈ rows → ∃ a r', r = .int .i64 a :: r') (hl : rows.length ≤ 1000000) :
    WB (run T k 187 [x] h) fun n h' => n = rows.all linRow ∧ h' = h := by
  obtain ⟨k, rfl⟩ : ∃ j, k = j + 1 := ⟨k - 1, by omega⟩
  rw [spec_IsLinear_run T H]
  exact specIsLinear_loop H49 (by omega) hx hn hl rows.length k 0 (by omega) (by omega)
end Go.AM
