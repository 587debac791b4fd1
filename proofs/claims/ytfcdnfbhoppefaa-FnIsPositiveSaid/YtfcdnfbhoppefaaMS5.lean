/- The planner: node. -/
import Derived.Test.YtfcdnfbhoppefaaMS4
namespace Go.AM
set_option linter.unusedVariables false
set_option linter.unusedSimpArgs false
set_option maxRecDepth 100000
/- (*loop.example/dataflow/spec.planner).node: number 225 -/
def spec_planner_node.c6 : AC :=
 (.reg none [⟨0, (some 122), .move (.t 9), .any, none, []⟩,
   ⟨1, (some 123), .bin .sub (.t 122) (.c (.int .i64 (1))), .any, none, []⟩,
   ⟨2, (some 9), .move (.t 123), .any, none, []⟩])
def spec_planner_node.c5 : AC :=
 (.seq (some [(0, .any), (4, .any), (6, (.int .i64)), (8, .any), (9, (.int .i64))])
 (.block 2 (.reg none [⟨0, (some 124), .move (.t 8), .any, none, []⟩,
     ⟨1, (some 125), .move (.t 4), .any, none, []⟩,
     ⟨2, (some 126), .move (.t 0), .any, none, []⟩,
     ⟨3, (some 127), .nilck (.t 126), .any, none, []⟩,
     ⟨4, (some 128), .fld 3 (.t 127), .any, none, []⟩,
     ⟨5, (some 129), .load none (.t 128), .any, none, []⟩,
     ⟨6, (some 130), .move (.t 6), .any, none, []⟩,
     ⟨7, (some 131), .idx 1 (.t 129) (.t 130), .any, none, []⟩,
     ⟨8, (some 132), .load none (.t 131), (.int .i64), none, []⟩,
     ⟨9, (some 133), .call 37 [(.t 125), (.t 132)], (.int .i64), none, []⟩,
     ⟨10, (some 134), .buildS 1 1 [.int .i64 0] [(0, 1, (.t 133))], .any, none, []⟩,
     ⟨11, (some 135), .app 1 8 (.t 124) (.t 134), .any, none, []⟩,
     ⟨12, (some 8), .move (.t 135), .any, none, []⟩]))
 (spec_planner_node.c6))
def spec_planner_node.c4 : AC :=
 (.seq (some [(0, .any), (4, .any), (6, (.int .i64)), (8, .any), (9, (.int .i64))])
 (.seq none
  (.reg none [⟨0, (some 120), .move (.t 9), .any, none, []⟩,
     ⟨1, (some 121), .bin .gtr (.t 120) (.c (.int .i64 (0))), .any, none, []⟩])
  (.cond (.t 121)
  (.skip)
  (.exit 1)))
 (spec_planner_node.c5))
def spec_planner_node.c7 : AC :=
 (.reg none [⟨0, (some 136), .move (.t 0), .any, none, []⟩,
   ⟨1, (some 137), .move (.t 6), .any, none, []⟩,
   ⟨2, (some 138), .move (.t 8), .any, none, []⟩,
   ⟨3, (some 139), .build [.int .i64 0, .int .i64 0, .int .i64 0, .int .i64 0, .nils, .int .i64 0, .int .i64 0, .int .i64 0, .int .i64 0, .int .i64 0] [(0, 1, (.c (.int .i64 (3)))), (1, 1, (.t 137)), (4, 1, (.t 138))], .any, none, []⟩,
   ⟨4, (some 140), .call 224 [(.t 136), (.t 139)], .any, none, []⟩])
def spec_planner_node.c3 : AC :=
 (.cond (.t 113)
 (.seq none
  (.reg none [⟨0, (some 116), .buildS 0 1 [] [], .any, none, []⟩,
     ⟨1, (some 8), .move (.t 116), .any, none, []⟩])
  (.seq (some [(0, .any), (6, (.int .i64)), (8, .any)])
  (.seq none
   (.reg none [⟨0, (some 117), .move (.t 4), .any, none, []⟩,
      ⟨1, (some 118), .call 37 [(.t 117), (.c (.int .i64 (2)))], (.int .i64), none, []⟩,
      ⟨2, (some 119), .bin .add (.c (.int .i64 (1))) (.t 118), .any, none, []⟩,
      ⟨3, (some 9), .move (.t 119), .any, none, []⟩])
   (.block 1 (.loop [(0, .any), (4, .any), (6, (.int .i64)), (8, .any), (9, (.int .i64))] spec_planner_node.c4)))
  (spec_planner_node.c7)))
 (.seq none
  (.reg none [⟨0, (some 142), .bin .eql (.t 43) (.c (.int .i64 (4))), .any, none, []⟩,
     ⟨1, (some 141), .move (.t 142), .any, none, []⟩])
  (.cond (.t 141)
  (.seq none
   (.reg none [⟨0, (some 143), .move (.t 0), .any, none, []⟩,
      ⟨1, (some 144), .nilck (.t 143), .any, none, []⟩,
      ⟨2, (some 145), .fld 4 (.t 144), .any, none, []⟩,
      ⟨3, (some 146), .load none (.t 145), (.int .i64), none, []⟩,
      ⟨4, (some 147), .bin .gtr (.t 146) (.c (.int .i64 (0))), .any, none, []⟩])
   (.cond (.t 147)
   (.seq none
    (.reg none [⟨0, (some 148), .move (.t 0), .any, none, []⟩,
       ⟨1, (some 149), .move (.t 0), .any, none, []⟩,
       ⟨2, (some 150), .nilck (.t 149), .any, none, []⟩,
       ⟨3, (some 151), .fld 4 (.t 150), .any, none, []⟩,
       ⟨4, (some 152), .load none (.t 151), (.int .i64), none, []⟩,
       ⟨5, (some 153), .bin .sub (.t 152) (.c (.int .i64 (1))), .any, none, []⟩,
       ⟨6, (some 154), .nilck (.t 148), .any, none, []⟩,
       ⟨7, (some 155), .fld 4 (.t 154), .any, none, []⟩,
       ⟨8, none, .store 1 (.t 155) (.t 153), .any, none, []⟩])
    (.reg none [⟨0, (some 156), .move (.t 0), .any, none, []⟩,
      ⟨1, (some 157), .move (.t 6), .any, none, []⟩,
      ⟨2, (some 158), .move (.t 7), .any, none, []⟩,
      ⟨3, (some 159), .build [.int .i64 0, .int .i64 0, .int .i64 0, .int .i64 0, .nils, .int .i64 0, .int .i64 0, .int .i64 0, .int .i64 0, .int .i64 0] [(0, 1, (.c (.int .i64 (4)))), (1, 1, (.t 157)), (2, 1, (.t 158))], .any, none, []⟩,
      ⟨4, (some 160), .call 224 [(.t 156), (.t 159)], .any, none, []⟩]))
   (.skip)))
  (.seq none
   (.reg none [⟨0, (some 162), .bin .eql (.t 43) (.c (.int .i64 (5))), .any, none, []⟩,
      ⟨1, (some 161), .move (.t 162), .any, none, []⟩])
   (.cond (.t 161)
   (.seq none
    (.reg (some [0, 1, 3, 7, 15, 31, 63, 127, 255, 511, 63, 2047, 4095, 63, 8255, 24639, 57407, 63, 254015, 516159, 1048575, 2097151, 4194303]) [⟨0, (some 163), .move (.t 0), .any, none, []⟩,
       ⟨1, (some 164), .nilck (.t 163), .any, none, []⟩,
       ⟨2, (some 165), .fld 5 (.t 164), .any, none, []⟩,
       ⟨3, (some 166), .load none (.t 165), (.int .i64), none, []⟩,
       ⟨4, (some 167), .bin .gtr (.t 166) (.c (.int .i64 (0))), .any, none, []⟩,
       ⟨5, (some 168), .move (.t 167), .any, none, []⟩,
       ⟨6, (some 169), .move (.t 0), .any, (some (168, true)), []⟩,
       ⟨7, (some 170), .nilck (.t 169), .any, (some (168, true)), []⟩,
       ⟨8, (some 171), .fld 3 (.t 170), .any, (some (168, true)), []⟩,
       ⟨9, (some 172), .load none (.t 171), .any, (some (168, true)), []⟩,
       ⟨10, (some 173), .move (.t 6), .any, (some (168, true)), []⟩,
       ⟨11, (some 174), .idx 1 (.t 172) (.t 173), .any, (some (168, true)), []⟩,
       ⟨12, (some 175), .load none (.t 174), (.int .i64), (some (168, true)), []⟩,
       ⟨13, (some 176), .move (.t 0), .any, (some (168, true)), []⟩,
       ⟨14, (some 177), .nilck (.t 176), .any, (some (168, true)), []⟩,
       ⟨15, (some 178), .fld 3 (.t 177), .any, (some (168, true)), []⟩,
       ⟨16, (some 179), .load none (.t 178), .any, (some (168, true)), []⟩,
       ⟨17, (some 180), .move (.t 7), .any, (some (168, true)), []⟩,
       ⟨18, (some 181), .idx 1 (.t 179) (.t 180), .any, (some (168, true)), []⟩,
       ⟨19, (some 182), .load none (.t 181), (.int .i64), (some (168, true)), []⟩,
       ⟨20, (some 183), .bin .add (.t 175) (.t 182), .any, (some (168, true)), []⟩,
       ⟨21, (some 184), .bin .leq (.t 183) (.c (.int .i64 (5))), .any, (some (168, true)), []⟩,
       ⟨22, (some 185), .pick (.t 168) (.t 184) (.c (.bool false)), .any, none, []⟩])
    (.cond (.t 185)
    (.seq none
     (.reg none [⟨0, (some 186), .move (.t 0), .any, none, []⟩,
        ⟨1, (some 187), .move (.t 0), .any, none, []⟩,
        ⟨2, (some 188), .nilck (.t 187), .any, none, []⟩,
        ⟨3, (some 189), .fld 5 (.t 188), .any, none, []⟩,
        ⟨4, (some 190), .load none (.t 189), (.int .i64), none, []⟩,
        ⟨5, (some 191), .bin .sub (.t 190) (.c (.int .i64 (1))), .any, none, []⟩,
        ⟨6, (some 192), .nilck (.t 186), .any, none, []⟩,
        ⟨7, (some 193), .fld 5 (.t 192), .any, none, []⟩,
        ⟨8, none, .store 1 (.t 193) (.t 191), .any, none, []⟩])
     (.reg none [⟨0, (some 194), .move (.t 0), .any, none, []⟩,
       ⟨1, (some 195), .move (.t 6), .any, none, []⟩,
       ⟨2, (some 196), .move (.t 7), .any, none, []⟩,
       ⟨3, (some 197), .move (.t 4), .any, none, []⟩,
       ⟨4, (some 198), .call 37 [(.t 197), (.c (.int .i64 (2)))], (.int .i64), none, []⟩,
       ⟨5, (some 199), .build [.int .i64 0, .int .i64 0, .int .i64 0, .int .i64 0, .nils, .int .i64 0, .int .i64 0, .int .i64 0, .int .i64 0, .int .i64 0] [(0, 1, (.c (.int .i64 (6)))), (1, 1, (.t 195)), (2, 1, (.t 196)), (3, 1, (.t 198))], .any, none, []⟩,
       ⟨6, (some 200), .call 224 [(.t 194), (.t 199)], .any, none, []⟩]))
    (.skip)))
   (.seq none
    (.reg none [⟨0, (some 202), .bin .eql (.t 43) (.c (.int .i64 (6))), .any, none, []⟩,
       ⟨1, (some 201), .move (.t 202), .any, none, []⟩])
    (.cond (.t 201)
    (.seq none
     (.reg none [⟨0, (some 203), .move (.t 1), .any, none, []⟩,
        ⟨1, (some 204), .not (.t 203), .any, none, []⟩])
     (.cond (.t 204)
     (.reg none [⟨0, (some 205), .move (.t 0), .any, none, []⟩,
        ⟨1, (some 206), .move (.t 6), .any, none, []⟩,
        ⟨2, (some 207), .build [.int .i64 0, .int .i64 0, .int .i64 0, .int .i64 0, .nils, .int .i64 0, .int .i64 0, .int .i64 0, .int .i64 0, .int .i64 0] [(0, 1, (.c (.int .i64 (5)))), (1, 1, (.t 206))], .any, none, []⟩,
        ⟨3, (some 208), .call 224 [(.t 205), (.t 207)], .any, none, []⟩])
     (.skip)))
    (.seq none
     (.reg none [⟨0, (some 210), .bin .eql (.t 43) (.c (.int .i64 (7))), .any, none, []⟩,
        ⟨1, (some 209), .move (.t 210), .any, none, []⟩])
     (.cond (.t 209)
     (.seq none
      (.reg none [⟨0, (some 211), .move (.t 1), .any, none, []⟩,
         ⟨1, (some 212), .not (.t 211), .any, none, []⟩])
      (.cond (.t 212)
      (.reg none [⟨0, (some 213), .move (.t 0), .any, none, []⟩,
         ⟨1, (some 214), .move (.t 6), .any, none, []⟩,
         ⟨2, (some 215), .build [.int .i64 0, .int .i64 0, .int .i64 0, .int .i64 0, .nils, .int .i64 0, .int .i64 0, .int .i64 0, .int .i64 0, .int .i64 0] [(0, 1, (.c (.int .i64 (7)))), (1, 1, (.t 214))], .any, none, []⟩,
         ⟨3, (some 216), .call 224 [(.t 213), (.t 215)], .any, none, []⟩])
      (.skip)))
     (.seq none
      (.reg none [⟨0, (some 44), .move (.t 1), .any, none, []⟩,
         ⟨1, (some 45), .not (.t 44), .any, none, []⟩,
         ⟨2, (some 46), .move (.t 45), .any, none, []⟩,
         ⟨3, (some 47), .move (.t 0), .any, (some (46, true)), []⟩,
         ⟨4, (some 48), .nilck (.t 47), .any, (some (46, true)), []⟩,
         ⟨5, (some 49), .fld 6 (.t 48), .any, (some (46, true)), []⟩,
         ⟨6, (some 50), .load none (.t 49), (.int .i64), (some (46, true)), []⟩,
         ⟨7, (some 51), .bin .gtr (.t 50) (.c (.int .i64 (0))), .any, (some (46, true)), []⟩,
         ⟨8, (some 52), .pick (.t 46) (.t 51) (.c (.bool false)), .any, none, []⟩,
         ⟨9, (some 53), .move (.t 52), .any, none, []⟩,
         ⟨10, (some 54), .move (.t 0), .any, (some (53, true)), []⟩,
         ⟨11, (some 55), .nilck (.t 54), .any, (some (53, true)), []⟩,
         ⟨12, (some 56), .fld 3 (.t 55), .any, (some (53, true)), []⟩,
         ⟨13, (some 57), .load none (.t 56), .any, (some (53, true)), []⟩,
         ⟨14, (some 58), .move (.t 6), .any, (some (53, true)), []⟩,
         ⟨15, (some 59), .idx 1 (.t 57) (.t 58), .any, (some (53, true)), []⟩,
         ⟨16, (some 60), .load none (.t 59), (.int .i64), (some (53, true)), []⟩,
         ⟨17, (some 61), .bin .lss (.t 60) (.c (.int .i64 (4))), .any, (some (53, true)), []⟩,
         ⟨18, (some 62), .pick (.t 53) (.t 61) (.c (.bool false)), .any, none, []⟩])
      (.cond (.t 62)
      (.seq none
       (.reg none [⟨0, (some 63), .move (.t 0), .any, none, []⟩,
          ⟨1, (some 64), .move (.t 0), .any, none, []⟩,
          ⟨2, (some 65), .nilck (.t 64), .any, none, []⟩,
          ⟨3, (some 66), .fld 6 (.t 65), .any, none, []⟩,
          ⟨4, (some 67), .load none (.t 66), (.int .i64), none, []⟩,
          ⟨5, (some 68), .bin .sub (.t 67) (.c (.int .i64 (1))), .any, none, []⟩,
          ⟨6, (some 69), .nilck (.t 63), .any, none, []⟩,
          ⟨7, (some 70), .fld 6 (.t 69), .any, none, []⟩,
          ⟨8, none, .store 1 (.t 70) (.t 68), .any, none, []⟩])
       (.reg (some [0, 0, 0, 0, 8, 24, 56, 0, 248, 504, 1016, 2044, 0, 8188, 16380, 0, 0, 65536, 196608, 458752, 0, 2031616, 4128768, 8372220, 16777214, 33554431]) [⟨0, (some 71), .move (.t 0), .any, none, []⟩,
         ⟨1, (some 72), .move (.t 6), .any, none, []⟩,
         ⟨2, (some 73), .move (.t 4), .any, none, []⟩,
         ⟨3, (some 74), .move (.t 0), .any, none, []⟩,
         ⟨4, (some 75), .nilck (.t 74), .any, none, []⟩,
         ⟨5, (some 76), .fld 3 (.t 75), .any, none, []⟩,
         ⟨6, (some 77), .load none (.t 76), .any, none, []⟩,
         ⟨7, (some 78), .move (.t 6), .any, none, []⟩,
         ⟨8, (some 79), .idx 1 (.t 77) (.t 78), .any, none, []⟩,
         ⟨9, (some 80), .load none (.t 79), (.int .i64), none, []⟩,
         ⟨10, (some 81), .bin .add (.t 80) (.c (.int .i64 (1))), .any, none, []⟩,
         ⟨12, (some 83), .move (.t 4), .any, none, []⟩,
         ⟨15, (some 86), .move (.t 4), .any, none, []⟩,
         ⟨16, (some 87), .move (.t 0), .any, none, []⟩,
         ⟨17, (some 88), .nilck (.t 87), .any, none, []⟩,
         ⟨18, (some 89), .fld 3 (.t 88), .any, none, []⟩,
         ⟨19, (some 90), .load none (.t 89), .any, none, []⟩,
         ⟨20, (some 91), .move (.t 6), .any, none, []⟩,
         ⟨21, (some 92), .idx 1 (.t 90) (.t 91), .any, none, []⟩,
         ⟨22, (some 93), .load none (.t 92), (.int .i64), none, []⟩,
         ⟨11, (some 82), .call 37 [(.t 73), (.t 81)], (.int .i64), none, [⟨90, none, (.t 89), none⟩, ⟨93, none, (.t 92), none⟩]⟩,
         ⟨13, (some 84), .call 37 [(.t 83), (.c (.int .i64 (4)))], (.int .i64), none, [⟨90, none, (.t 89), none⟩, ⟨93, none, (.t 92), none⟩]⟩,
         ⟨14, (some 85), .bin .add (.c (.int .i64 (1))) (.t 84), .any, none, []⟩,
         ⟨23, (some 94), .call 37 [(.t 86), (.t 93)], (.int .i64), none, []⟩,
         ⟨24, (some 95), .build [.int .i64 0, .int .i64 0, .int .i64 0, .int .i64 0, .nils, .int .i64 0, .int .i64 0, .int .i64 0, .int .i64 0, .int .i64 0] [(0, 1, (.c (.int .i64 (8)))), (1, 1, (.t 72)), (3, 1, (.t 82)), (8, 1, (.t 85)), (9, 1, (.t 94))], .any, none, []⟩,
         ⟨25, (some 96), .call 224 [(.t 71), (.t 95)], .any, none, []⟩]))
      (.skip))))))))))))
def spec_planner_node.c2 : AC :=
 (.cond (.t 97)
 (.reg none [⟨0, (some 100), .move (.t 0), .any, none, []⟩,
    ⟨1, (some 101), .move (.t 6), .any, none, []⟩,
    ⟨2, (some 102), .move (.t 4), .any, none, []⟩,
    ⟨3, (some 103), .move (.t 0), .any, none, []⟩,
    ⟨4, (some 104), .nilck (.t 103), .any, none, []⟩,
    ⟨5, (some 105), .fld 3 (.t 104), .any, none, []⟩,
    ⟨6, (some 106), .load none (.t 105), .any, none, []⟩,
    ⟨7, (some 107), .move (.t 6), .any, none, []⟩,
    ⟨8, (some 108), .idx 1 (.t 106) (.t 107), .any, none, []⟩,
    ⟨9, (some 109), .load none (.t 108), (.int .i64), none, []⟩,
    ⟨10, (some 110), .call 241 [(.t 102), (.t 109)], .any, none, []⟩,
    ⟨11, (some 111), .build [.int .i64 0, .int .i64 0, .int .i64 0, .int .i64 0, .nils, .int .i64 0, .int .i64 0, .int .i64 0, .int .i64 0, .int .i64 0] [(0, 1, (.c (.int .i64 (2)))), (1, 1, (.t 101)), (5, 3, (.t 110))], .any, none, []⟩,
    ⟨12, (some 112), .call 224 [(.t 100), (.t 111)], .any, none, []⟩])
 (.seq (some [(0, .any), (1, .bool), (4, .any), (6, (.int .i64)), (7, (.int .i64)), (43, (.int .i64)), (113, .bool)])
  (.seq none
   (.reg none [⟨0, (some 114), .bin .eql (.t 43) (.c (.int .i64 (2))), .any, none, []⟩,
      ⟨1, (some 113), .move (.t 114), .any, none, []⟩])
   (.cond (.t 113)
   (.skip)
   (.reg none [⟨0, (some 115), .bin .eql (.t 43) (.c (.int .i64 (3))), .any, none, []⟩,
      ⟨1, (some 113), .move (.t 115), .any, none, []⟩])))
  (spec_planner_node.c3)))
def spec_planner_node.c1 : AC :=
 (.seq none
 (.reg none [⟨0, (some 36), .move (.t 4), .any, none, []⟩,
    ⟨1, (some 37), .move (.t 5), .any, none, []⟩,
    ⟨2, (some 38), .call 37 [(.t 36), (.t 37)], (.int .i64), none, []⟩,
    ⟨3, (some 6), .move (.t 38), .any, none, []⟩])
 (.seq none
 (.reg none [⟨0, (some 39), .move (.t 4), .any, none, []⟩,
    ⟨1, (some 40), .move (.t 5), .any, none, []⟩,
    ⟨2, (some 41), .call 37 [(.t 39), (.t 40)], (.int .i64), none, []⟩,
    ⟨3, (some 7), .move (.t 41), .any, none, []⟩])
 (.seq none
 (.reg none [⟨0, (some 42), .move (.t 4), .any, none, []⟩,
    ⟨1, (some 43), .call 37 [(.t 42), (.c (.int .i64 (9)))], (.int .i64), none, []⟩])
 (.block 0 (.seq (some [(0, .any), (1, .bool), (4, .any), (6, (.int .i64)), (7, (.int .i64)), (43, (.int .i64)), (97, .bool)])
  (.seq none
   (.reg none [⟨0, (some 98), .bin .eql (.t 43) (.c (.int .i64 (0))), .any, none, []⟩,
      ⟨1, (some 97), .move (.t 98), .any, none, []⟩])
   (.cond (.t 97)
   (.skip)
   (.reg none [⟨0, (some 99), .bin .eql (.t 43) (.c (.int .i64 (1))), .any, none, []⟩,
      ⟨1, (some 97), .move (.t 99), .any, none, []⟩])))
  (spec_planner_node.c2))))))
def spec_planner_node.ir : AF := ⟨[(0, .any), (1, .bool)], 217, [],
 (.seq none
 (.reg none [⟨0, (some 10), .move (.t 0), .any, none, []⟩,
    ⟨1, (some 11), .nilck (.t 10), .any, none, []⟩,
    ⟨2, (some 12), .fld 0 (.t 11), .any, none, []⟩,
    ⟨3, (some 13), .load none (.t 12), .any, none, []⟩,
    ⟨4, (some 4), .move (.t 13), .any, none, []⟩])
 (.seq none
 (.reg none [⟨0, (some 14), .move (.t 0), .any, none, []⟩,
    ⟨1, (some 15), .nilck (.t 14), .any, none, []⟩,
    ⟨2, (some 16), .fld 2 (.t 15), .any, none, []⟩,
    ⟨3, (some 17), .load none (.t 16), .any, none, []⟩,
    ⟨4, (some 18), .len (.t 17), .any, none, []⟩,
    ⟨5, (some 5), .move (.t 18), .any, none, []⟩])
 (.seq (some [(0, .any), (1, .bool), (4, .any), (5, (.int .i64))])
 (.seq none
  (.reg none [⟨0, (some 19), .move (.t 5), .any, none, []⟩,
     ⟨1, (some 20), .bin .eql (.t 19) (.c (.int .i64 (0))), .any, none, []⟩,
     ⟨2, (some 21), .move (.t 20), .any, none, []⟩,
     ⟨3, (some 22), .move (.t 4), .any, (some (21, false)), []⟩,
     ⟨4, (some 23), .call 37 [(.t 22), (.c (.int .i64 (4)))], (.int .i64), (some (21, false)), []⟩,
     ⟨5, (some 24), .bin .eql (.t 23) (.c (.int .i64 (0))), .any, (some (21, false)), []⟩,
     ⟨6, (some 25), .pick (.t 21) (.c (.bool true)) (.t 24), .any, none, []⟩])
  (.cond (.t 25)
  (.seq none
   (.reg none [⟨0, (some 26), .move (.t 0), .any, none, []⟩,
      ⟨1, (some 27), .move (.t 4), .any, none, []⟩,
      ⟨2, (some 28), .move (.t 0), .any, none, []⟩,
      ⟨3, (some 29), .nilck (.t 28), .any, none, []⟩,
      ⟨4, (some 30), .fld 1 (.t 29), .any, none, []⟩,
      ⟨5, (some 31), .load none (.t 30), .any, none, []⟩,
      ⟨6, (some 32), .len (.t 31), .any, none, []⟩,
      ⟨7, (some 33), .call 37 [(.t 27), (.t 32)], (.int .i64), none, []⟩,
      ⟨8, (some 34), .build [.int .i64 0, .int .i64 0, .int .i64 0, .int .i64 0, .nils, .int .i64 0, .int .i64 0, .int .i64 0, .int .i64 0, .int .i64 0] [(0, 1, (.c (.int .i64 (1)))), (1, 1, (.t 33))], .any, none, []⟩,
      ⟨9, (some 35), .call 224 [(.t 26), (.t 34)], .any, none, []⟩])
   (.ret))
  (.skip)))
 (spec_planner_node.c1))))⟩
noncomputable abbrev spec_planner_node.K7 (call : Nat → List AV → AH → O) (k : Nat) : KX := seqK (some [(0, .any), (6, (.int .i64)), (8, .any)]) (exec call k spec_planner_node.c7 (blockK 0 (fin []))) (blockK 0 (fin []))
noncomputable abbrev spec_planner_node.K4 (call : Nat → List AV → AH → O) (k : Nat) (i1 : Nat) : KX := loopK [(0, .any), (4, .any), (6, (.int .i64)), (8, .any), (9, (.int .i64))] (loopE (exec call k spec_planner_node.c4) [(0, .any), (4, .any), (6, (.int .i64)), (8, .any), (9, (.int .i64))] i1 (blockK 1 (spec_planner_node.K7 call k))) (blockK 1 (spec_planner_node.K7 call k))
noncomputable abbrev spec_planner_node.K6 (call : Nat → List AV → AH → O) (k : Nat) (i1 : Nat) : KX := seqK (some [(0, .any), (4, .any), (6, (.int .i64)), (8, .any), (9, (.int .i64))]) (exec call k spec_planner_node.c6 (spec_planner_node.K4 call k i1)) (spec_planner_node.K4 call k i1)
noncomputable abbrev spec_planner_node.K5 (call : Nat → List AV → AH → O) (k : Nat) (i1 : Nat) : KX := seqK (some [(0, .any), (4, .any), (6, (.int .i64)), (8, .any), (9, (.int .i64))]) (exec call k spec_planner_node.c5 (spec_planner_node.K4 call k i1)) (spec_planner_node.K4 call k i1)
noncomputable abbrev spec_planner_node.K3 (call : Nat → List AV → AH → O) (k : Nat) : KX := seqK (some [(0, .any), (1, .bool), (4, .any), (6, (.int .i64)), (7, (.int .i64)), (43, (.int .i64)), (113, .bool)]) (exec call k spec_planner_node.c3 (blockK 0 (fin []))) (blockK 0 (fin []))
noncomputable abbrev spec_planner_node.K2 (call : Nat → List AV → AH → O) (k : Nat) : KX := seqK (some [(0, .any), (1, .bool), (4, .any), (6, (.int .i64)), (7, (.int .i64)), (43, (.int .i64)), (97, .bool)]) (exec call k spec_planner_node.c2 (blockK 0 (fin []))) (blockK 0 (fin []))
noncomputable abbrev spec_planner_node.K1 (call : Nat → List AV → AH → O) (k : Nat) : KX := seqK (some [(0, .any), (1, .bool), (4, .any), (5, (.int .i64))]) (exec call k spec_planner_node.c1 (fin [])) (fin [])
noncomputable abbrev spec_planner_node.J7 (call : Nat → List AV → AH → O) (k : Nat) (x0 : AV) (x6 : Int) (x8 : AV) (h : AH) : O := exec call k spec_planner_node.c7 (blockK 0 (fin [])) [x0, .junk, .junk, .junk, .junk, .junk, .int .i64 x6, .junk, x8, .junk, .junk, .junk, .junk, .junk, .junk, .junk, .junk, .junk, .junk, .junk, .junk, .junk, .junk, .junk, .junk, .junk, .junk, .junk, .junk, .junk, .junk, .junk, .junk, .junk, .junk, .junk, .junk, .junk, .junk, .junk, .junk, .junk, .junk, .junk, .junk, .junk, .junk, .junk, .junk, .junk, .junk, .junk, .junk, .junk, .junk, .junk, .junk, .junk, .junk, .junk, .junk, .junk, .junk, .junk, .junk, .junk, .junk, .junk, .junk, .junk, .junk, .junk, .junk, .junk, .junk, .junk, .junk, .junk, .junk, .junk, .junk, .junk, .junk, .junk, .junk, .junk, .junk, .junk, .junk, .junk, .junk, .junk, .junk, .junk, .junk, .junk, .junk, .junk, .junk, .junk, .junk, .junk, .junk, .junk, .junk, .junk, .junk, .junk, .junk, .junk, .junk, .junk, .junk, .junk, .junk, .junk, .junk, .junk, .junk, .junk, .junk, .junk, .junk, .junk, .junk, .junk, .junk, .junk, .junk, .junk, .junk, .junk, .junk, .junk, .junk, .junk, .junk, .junk, .junk, .junk, .junk, .junk, .junk, .junk, .junk, .junk, .junk, .junk, .junk, .junk, .junk, .junk, .junk, .junk, .junk, .junk, .junk, .junk, .junk, .junk, .junk, .junk, .junk, .junk, .junk, .junk, .junk, .junk, .junk, .junk, .junk, .junk, .junk, .junk, .junk, .junk, .junk, .junk, .junk, .junk, .junk, .junk, .junk, .junk, .junk, .junk, .junk, .junk, .junk, .junk, .junk, .junk, .junk, .junk, .junk, .junk, .junk, .junk, .junk, .junk, .junk, .junk, .junk, .junk, .junk, .junk, .junk, .junk, .junk, .junk, .junk, .junk, .junk, .junk, .junk, .junk, .junk] h
noncomputable abbrev spec_planner_node.J6 (call : Nat → List AV → AH → O) (k : Nat) (i1 : Nat) (x0 : AV) (x4 : AV) (x6 : Int) (x8 : AV) (x9 : Int) (h : AH) : O := exec call k spec_planner_node.c6 (spec_planner_node.K4 call k i1) [x0, .junk, .junk, .junk, x4, .junk, .int .i64 x6, .junk, x8, .int .i64 x9, .junk, .junk, .junk, .junk, .junk, .junk, .junk, .junk, .junk, .junk, .junk, .junk, .junk, .junk, .junk, .junk, .junk, .junk, .junk, .junk, .junk, .junk, .junk, .junk, .junk, .junk, .junk, .junk, .junk, .junk, .junk, .junk, .junk, .junk, .junk, .junk, .junk, .junk, .junk, .junk, .junk, .junk, .junk, .junk, .junk, .junk, .junk, .junk, .junk, .junk, .junk, .junk, .junk, .junk, .junk, .junk, .junk, .junk, .junk, .junk, .junk, .junk, .junk, .junk, .junk, .junk, .junk, .junk, .junk, .junk, .junk, .junk, .junk, .junk, .junk, .junk, .junk, .junk, .junk, .junk, .junk, .junk, .junk, .junk, .junk, .junk, .junk, .junk, .junk, .junk, .junk, .junk, .junk, .junk, .junk, .junk, .junk, .junk, .junk, .junk, .junk, .junk, .junk, .junk, .junk, .junk, .junk, .junk, .junk, .junk, .junk, .junk, .junk, .junk, .junk, .junk, .junk, .junk, .junk, .junk, .junk, .junk, .junk, .junk, .junk, .junk, .junk, .junk, .junk, .junk, .junk, .junk, .junk, .junk, .junk, .junk, .junk, .junk, .junk, .junk, .junk, .junk, .junk, .junk, .junk, .junk, .junk, .junk, .junk, .junk, .junk, .junk, .junk, .junk, .junk, .junk, .junk, .junk, .junk, .junk, .junk, .junk, .junk, .junk, .junk, .junk, .junk, .junk, .junk, .junk, .junk, .junk, .junk, .junk, .junk, .junk, .junk, .junk, .junk, .junk, .junk, .junk, .junk, .junk, .junk, .junk, .junk, .junk, .junk, .junk, .junk, .junk, .junk, .junk, .junk, .junk, .junk, .junk, .junk, .junk, .junk, .junk, .junk, .junk, .junk, .junk, .junk] h
noncomputable abbrev spec_planner_node.J5 (call : Nat → List AV → AH → O) (k : Nat) (i1 : Nat) (x0 : AV) (x4 : AV) (x6 : Int) (x8 : AV) (x9 : Int) (h : AH) : O := exec call k spec_planner_node.c5 (spec_planner_node.K4 call k i1) [x0, .junk, .junk, .junk, x4, .junk, .int .i64 x6, .junk, x8, .int .i64 x9, .junk, .junk, .junk, .junk, .junk, .junk, .junk, .junk, .junk, .junk, .junk, .junk, .junk, .junk, .junk, .junk, .junk, .junk, .junk, .junk, .junk, .junk, .junk, .junk, .junk, .junk, .junk, .junk, .junk, .junk, .junk, .junk, .junk, .junk, .junk, .junk, .junk, .junk, .junk, .junk, .junk, .junk, .junk, .junk, .junk, .junk, .junk, .junk, .junk, .junk, .junk, .junk, .junk, .junk, .junk, .junk, .junk, .junk, .junk, .junk, .junk, .junk, .junk, .junk, .junk, .junk, .junk, .junk, .junk, .junk, .junk, .junk, .junk, .junk, .junk, .junk, .junk, .junk, .junk, .junk, .junk, .junk, .junk, .junk, .junk, .junk, .junk, .junk, .junk, .junk, .junk, .junk, .junk, .junk, .junk, .junk, .junk, .junk, .junk, .junk, .junk, .junk, .junk, .junk, .junk, .junk, .junk, .junk, .junk, .junk, .junk, .junk, .junk, .junk, .junk, .junk, .junk, .junk, .junk, .junk, .junk, .junk, .junk, .junk, .junk, .junk, .junk, .junk, .junk, .junk, .junk, .junk, .junk, .junk, .junk, .junk, .junk, .junk, .junk, .junk, .junk, .junk, .junk, .junk, .junk, .junk, .junk, .junk, .junk, .junk, .junk, .junk, .junk, .junk, .junk, .junk, .junk, .junk, .junk, .junk, .junk, .junk, .junk, .junk, .junk, .junk, .junk, .junk, .junk, .junk, .junk, .junk, .junk, .junk, .junk, .junk, .junk, .junk, .junk, .junk, .junk, .junk, .junk, .junk, .junk, .junk, .junk, .junk, .junk, .junk, .junk, .junk, .junk, .junk, .junk, .junk, .junk, .junk, .junk, .junk, .junk, .junk, .junk, .junk, .junk, .junk, .junk] h
noncomputable abbrev spec_planner_node.L4 (call : Nat → List AV → AH → O) (k : Nat) (i1 : Nat) (x0 : AV) (x4 : AV) (x6 : Int) (x8 : AV) (x9 : Int) (h : AH) : O := loopE (exec call k spec_planner_node.c4) [(0, .any), (4, .any), (6, (.int .i64)), (8, .any), (9, (.int .i64))] i1 (blockK 1 (spec_planner_node.K7 call k)) [x0, .junk, .junk, .junk, x4, .junk, .int .i64 x6, .junk, x8, .int .i64 x9, .junk, .junk, .junk, .junk, .junk, .junk, .junk, .junk, .junk, .junk, .junk, .junk, .junk, .junk, .junk, .junk, .junk, .junk, .junk, .junk, .junk, .junk, .junk, .junk, .junk, .junk, .junk, .junk, .junk, .junk, .junk, .junk, .junk, .junk, .junk, .junk, .junk, .junk, .junk, .junk, .junk, .junk, .junk, .junk, .junk, .junk, .junk, .junk, .junk, .junk, .junk, .junk, .junk, .junk, .junk, .junk, .junk, .junk, .junk, .junk, .junk, .junk, .junk, .junk, .junk, .junk, .junk, .junk, .junk, .junk, .junk, .junk, .junk, .junk, .junk, .junk, .junk, .junk, .junk, .junk, .junk, .junk, .junk, .junk, .junk, .junk, .junk, .junk, .junk, .junk, .junk, .junk, .junk, .junk, .junk, .junk, .junk, .junk, .junk, .junk, .junk, .junk, .junk, .junk, .junk, .junk, .junk, .junk, .junk, .junk, .junk, .junk, .junk, .junk, .junk, .junk, .junk, .junk, .junk, .junk, .junk, .junk, .junk, .junk, .junk, .junk, .junk, .junk, .junk, .junk, .junk, .junk, .junk, .junk, .junk, .junk, .junk, .junk, .junk, .junk, .junk, .junk, .junk, .junk, .junk, .junk, .junk, .junk, .junk, .junk, .junk, .junk, .junk, .junk, .junk, .junk, .junk, .junk, .junk, .junk, .junk, .junk, .junk, .junk, .junk, .junk, .junk, .junk, .junk, .junk, .junk, .junk, .junk, .junk, .junk, .junk, .junk, .junk, .junk, .junk, .junk, .junk, .junk, .junk, .junk, .junk, .junk, .junk, .junk, .junk, .junk, .junk, .junk, .junk, .junk, .junk, .junk, .junk, .junk, .junk, .junk, .junk, .junk, .junk, .junk, .junk, .junk] h
noncomputable abbrev spec_planner_node.J3 (call : Nat → List AV → AH → O) (k : Nat) (x0 : AV) (x1 : Bool) (x4 : AV) (x6 : Int) (x7 : Int) (x43 : Int) (x113 : Bool) (h : AH) : O := exec call k spec_planner_node.c3 (blockK 0 (fin [])) [x0, .bool x1, .junk, .junk, x4, .junk, .int .i64 x6, .int .i64 x7, .junk, .junk, .junk, .junk, .junk, .junk, .junk, .junk, .junk, .junk, .junk, .junk, .junk, .junk, .junk, .junk, .junk, .junk, .junk, .junk, .junk, .junk, .junk, .junk, .junk, .junk, .junk, .junk, .junk, .junk, .junk, .junk, .junk, .junk, .junk, .int .i64 x43, .junk, .junk, .junk, .junk, .junk, .junk, .junk, .junk, .junk, .junk, .junk, .junk, .junk, .junk, .junk, .junk, .junk, .junk, .junk, .junk, .junk, .junk, .junk, .junk, .junk, .junk, .junk, .junk, .junk, .junk, .junk, .junk, .junk, .junk, .junk, .junk, .junk, .junk, .junk, .junk, .junk, .junk, .junk, .junk, .junk, .junk, .junk, .junk, .junk, .junk, .junk, .junk, .junk, .junk, .junk, .junk, .junk, .junk, .junk, .junk, .junk, .junk, .junk, .junk, .junk, .junk, .junk, .junk, .junk, .bool x113, .junk, .junk, .junk, .junk, .junk, .junk, .junk, .junk, .junk, .junk, .junk, .junk, .junk, .junk, .junk, .junk, .junk, .junk, .junk, .junk, .junk, .junk, .junk, .junk, .junk, .junk, .junk, .junk, .junk, .junk, .junk, .junk, .junk, .junk, .junk, .junk, .junk, .junk, .junk, .junk, .junk, .junk, .junk, .junk, .junk, .junk, .junk, .junk, .junk, .junk, .junk, .junk, .junk, .junk, .junk, .junk, .junk, .junk, .junk, .junk, .junk, .junk, .junk, .junk, .junk, .junk, .junk, .junk, .junk, .junk, .junk, .junk, .junk, .junk, .junk, .junk, .junk, .junk, .junk, .junk, .junk, .junk, .junk, .junk, .junk, .junk, .junk, .junk, .junk, .junk, .junk, .junk, .junk, .junk, .junk, .junk, .junk, .junk, .junk, .junk, .junk, .junk, .junk] h
noncomputable abbrev spec_planner_node.J2 (call : Nat → List AV → AH → O) (k : Nat) (x0 : AV) (x1 : Bool) (x4 : AV) (x6 : Int) (x7 : Int) (x43 : Int) (x97 : Bool) (h : AH) : O := exec call k spec_planner_node.c2 (blockK 0 (fin [])) [x0, .bool x1, .junk, .junk, x4, .junk, .int .i64 x6, .int .i64 x7, .junk, .junk, .junk, .junk, .junk, .junk, .junk, .junk, .junk, .junk, .junk, .junk, .junk, .junk, .junk, .junk, .junk, .junk, .junk, .junk, .junk, .junk, .junk, .junk, .junk, .junk, .junk, .junk, .junk, .junk, .junk, .junk, .junk, .junk, .junk, .int .i64 x43, .junk, .junk, .junk, .junk, .junk, .junk, .junk, .junk, .junk, .junk, .junk, .junk, .junk, .junk, .junk, .junk, .junk, .junk, .junk, .junk, .junk, .junk, .junk, .junk, .junk, .junk, .junk, .junk, .junk, .junk, .junk, .junk, .junk, .junk, .junk, .junk, .junk, .junk, .junk, .junk, .junk, .junk, .junk, .junk, .junk, .junk, .junk, .junk, .junk, .junk, .junk, .junk, .junk, .bool x97, .junk, .junk, .junk, .junk, .junk, .junk, .junk, .junk, .junk, .junk, .junk, .junk, .junk, .junk, .junk, .junk, .junk, .junk, .junk, .junk, .junk, .junk, .junk, .junk, .junk, .junk, .junk, .junk, .junk, .junk, .junk, .junk, .junk, .junk, .junk, .junk, .junk, .junk, .junk, .junk, .junk, .junk, .junk, .junk, .junk, .junk, .junk, .junk, .junk, .junk, .junk, .junk, .junk, .junk, .junk, .junk, .junk, .junk, .junk, .junk, .junk, .junk, .junk, .junk, .junk, .junk, .junk, .junk, .junk, .junk, .junk, .junk, .junk, .junk, .junk, .junk, .junk, .junk, .junk, .junk, .junk, .junk, .junk, .junk, .junk, .junk, .junk, .junk, .junk, .junk, .junk, .junk, .junk, .junk, .junk, .junk, .junk, .junk, .junk, .junk, .junk, .junk, .junk, .junk, .junk, .junk, .junk, .junk, .junk, .junk, .junk, .junk, .junk, .junk, .junk, .junk, .junk, .junk, .junk] h
noncomputable abbrev spec_planner_node.J1 (call : Nat → List AV → AH → O) (k : Nat) (x0 : AV) (x1 : Bool) (x4 : AV) (x5 : Int) (h : AH) : O := exec call k spec_planner_node.c1 (fin []) [x0, .bool x1, .junk, .junk, x4, .int .i64 x5, .junk, .junk, .junk, .junk, .junk, .junk, .junk, .junk, .junk, .junk, .junk, .junk, .junk, .junk, .junk, .junk, .junk, .junk, .junk, .junk, .junk, .junk, .junk, .junk, .junk, .junk, .junk, .junk, .junk, .junk, .junk, .junk, .junk, .junk, .junk, .junk, .junk, .junk, .junk, .junk, .junk, .junk, .junk, .junk, .junk, .junk, .junk, .junk, .junk, .junk, .junk, .junk, .junk, .junk, .junk, .junk, .junk, .junk, .junk, .junk, .junk, .junk, .junk, .junk, .junk, .junk, .junk, .junk, .junk, .junk, .junk, .junk, .junk, .junk, .junk, .junk, .junk, .junk, .junk, .junk, .junk, .junk, .junk, .junk, .junk, .junk, .junk, .junk, .junk, .junk, .junk, .junk, .junk, .junk, .junk, .junk, .junk, .junk, .junk, .junk, .junk, .junk, .junk, .junk, .junk, .junk, .junk, .junk, .junk, .junk, .junk, .junk, .junk, .junk, .junk, .junk, .junk, .junk, .junk, .junk, .junk, .junk, .junk, .junk, .junk, .junk, .junk, .junk, .junk, .junk, .junk, .junk, .junk, .junk, .junk, .junk, .junk, .junk, .junk, .junk, .junk, .junk, .junk, .junk, .junk, .junk, .junk, .junk, .junk, .junk, .junk, .junk, .junk, .junk, .junk, .junk, .junk, .junk, .junk, .junk, .junk, .junk, .junk, .junk, .junk, .junk, .junk, .junk, .junk, .junk, .junk, .junk, .junk, .junk, .junk, .junk, .junk, .junk, .junk, .junk, .junk, .junk, .junk, .junk, .junk, .junk, .junk, .junk, .junk, .junk, .junk, .junk, .junk, .junk, .junk, .junk, .junk, .junk, .junk, .junk, .junk, .junk, .junk, .junk, .junk, .junk, .junk, .junk, .junk, .junk, .junk] h
theorem spec_planner_node.J7_eq (call : Nat → List AV → AH → O) (k : Nat) (x0 : AV) (x6 : Int) (x8 : AV) (h : AH) : spec_planner_node.J7 call k x0 x6 x8 h =
 pFill [.int .i64 0, .int .i64 0, .int .i64 0, .int .i64 0, .nils, .int .i64 0, .int .i64 0, .int .i64 0, .int .i64 0, .int .i64 0] [(0, 1, .int .i64 (3)), (1, 1, .int .i64 x6), (4, 1, x8)] fun c28 =>
 pCall call 224 [x0, (.agg c28)] h fun v30 h29 =>
 some (.tup [], h29) := by kernel_rfl
theorem spec_planner_node.J6_eq (call : Nat → List AV → AH → O) (k : Nat) (i1 : Nat) (x0 : AV) (x4 : AV) (x6 : Int) (x8 : AV) (x9 : Int) (h : AH) : spec_planner_node.J6 call k i1 x0 x4 x6 x8 x9 h =
 spec_planner_node.L4 call k i1 x0 x4 x6 x8 (IntKind.i64.wrap (x9 - (1))) h := by kernel_rfl
theorem spec_planner_node.J5_eq (call : Nat → List AV → AH → O) (k : Nat) (i1 : Nat) (x0 : AV) (x4 : AV) (x6 : Int) (x8 : AV) (x9 : Int) (h : AH) : spec_planner_node.J5 call k i1 x0 x4 x6 x8 x9 h =
 pNil x0 fun v33 =>
 pFld 3 v33 fun v34 =>
 pLd h none v34 fun v35 =>
 pIdx 1 v35 x6 fun v36 =>
 pLd h none v36 fun v37 =>
 asK .i64 v37 fun n38 =>
 pCallI call .i64 37 [x4, .int .i64 n38] h fun n40 h39 =>
 pFill [.int .i64 0] [(0, 1, .int .i64 n40)] fun c41 =>
 pNew h39 c41 fun b42 h43 =>
 pApp h43 1 8 x8 ((.sl b42 0 1 1)) fun v44 h45 =>
 spec_planner_node.J6 call k i1 x0 x4 x6 v44 x9 h45 := by kernel_rfl
theorem spec_planner_node.L4_zero (call : Nat → List AV → AH → O) (k : Nat) (x0 : AV) (x4 : AV) (x6 : Int) (x8 : AV) (x9 : Int) (h : AH) : spec_planner_node.L4 call k 0 x0 x4 x6 x8 x9 h = none := rfl
theorem spec_planner_node.L4_succ (call : Nat → List AV → AH → O) (k : Nat) (i1 : Nat) (x0 : AV) (x4 : AV) (x6 : Int) (x8 : AV) (x9 : Int) (h : AH) : spec_planner_node.L4 call k (i1 + 1) x0 x4 x6 x8 x9 h =
 bif (decide (x9 > (0))) then (spec_planner_node.J5 call k i1 x0 x4 x6 x8 x9 h)
 else (spec_planner_node.J7 call k x0 x6 x8 h) := by kernel_rfl
theorem spec_planner_node.J3_eq (call : Nat → List AV → AH → O) (k : Nat) (x0 : AV) (x1 : Bool) (x4 : AV) (x6 : Int) (x7 : Int) (x43 : Int) (x113 : Bool) (h : AH) : spec_planner_node.J3 call k x0 x1 x4 x6 x7 x43 x113 h =
 bif x113 then (pFill [] [] fun c25 =>
 pNew h c25 fun b26 h27 =>
 pCallI call .i64 37 [x4, .int .i64 (2)] h27 fun n32 h31 =>
 spec_planner_node.L4 call k k x0 x4 x6 ((.sl b26 0 0 1)) (IntKind.i64.wrap ((1) + n32)) h31)
 else (bif (x43 == (4)) then (pNil x0 fun v46 =>
 pFld 4 v46 fun v47 =>
 pLd h none v47 fun v48 =>
 asK .i64 v48 fun n49 =>
 bif (decide (n49 > (0))) then (pNil x0 fun v50 =>
 pFld 4 v50 fun v51 =>
 pLd h none v51 fun v52 =>
 asK .i64 v52 fun n53 =>
 pNil x0 fun v54 =>
 pFld 4 v54 fun v55 =>
 pSt h 1 v55 (.int .i64 (IntKind.i64.wrap (n53 - (1)))) fun h56 =>
 pFill [.int .i64 0, .int .i64 0, .int .i64 0, .int .i64 0, .nils, .int .i64 0, .int .i64 0, .int .i64 0, .int .i64 0, .int .i64 0] [(0, 1, .int .i64 (4)), (1, 1, .int .i64 x6), (2, 1, .int .i64 x7)] fun c57 =>
 pCall call 224 [x0, (.agg c57)] h56 fun v59 h58 =>
 some (.tup [], h58))
 else (some (.tup [], h)))
 else (bif (x43 == (5)) then (pNil x0 fun v60 =>
 pFld 5 v60 fun v61 =>
 pLd h none v61 fun v62 =>
 asK .i64 v62 fun n63 =>
 bif (decide (n63 > (0))) then (pNil x0 fun v64 =>
 pFld 3 v64 fun v65 =>
 pLd h none v65 fun v66 =>
 pIdx 1 v66 x6 fun v67 =>
 pLd h none v67 fun v68 =>
 asK .i64 v68 fun n69 =>
 pNil x0 fun v70 =>
 pFld 3 v70 fun v71 =>
 pLd h none v71 fun v72 =>
 pIdx 1 v72 x7 fun v73 =>
 pLd h none v73 fun v74 =>
 asK .i64 v74 fun n75 =>
 bif ((decide ((IntKind.i64.wrap (n69 + n75)) ≤ (5)))) then (pNil x0 fun v76 =>
 pFld 5 v76 fun v77 =>
 pLd h none v77 fun v78 =>
 asK .i64 v78 fun n79 =>
 pNil x0 fun v80 =>
 pFld 5 v80 fun v81 =>
 pSt h 1 v81 (.int .i64 (IntKind.i64.wrap (n79 - (1)))) fun h82 =>
 pCallI call .i64 37 [x4, .int .i64 (2)] h82 fun n84 h83 =>
 pFill [.int .i64 0, .int .i64 0, .int .i64 0, .int .i64 0, .nils, .int .i64 0, .int .i64 0, .int .i64 0, .int .i64 0, .int .i64 0] [(0, 1, .int .i64 (6)), (1, 1, .int .i64 x6), (2, 1, .int .i64 x7), (3, 1, .int .i64 n84)] fun c85 =>
 pCall call 224 [x0, (.agg c85)] h83 fun v87 h86 =>
 some (.tup [], h86))
 else (some (.tup [], h)))
 else (some (.tup [], h)))
 else (bif (x43 == (6)) then (bif (!x1) then (pFill [.int .i64 0, .int .i64 0, .int .i64 0, .int .i64 0, .nils, .int .i64 0, .int .i64 0, .int .i64 0, .int .i64 0, .int .i64 0] [(0, 1, .int .i64 (5)), (1, 1, .int .i64 x6)] fun c88 =>
 pCall call 224 [x0, (.agg c88)] h fun v90 h89 =>
 some (.tup [], h89))
 else (some (.tup [], h)))
 else (bif (x43 == (7)) then (bif (!x1) then (pFill [.int .i64 0, .int .i64 0, .int .i64 0, .int .i64 0, .nils, .int .i64 0, .int .i64 0, .int .i64 0, .int .i64 0, .int .i64 0] [(0, 1, .int .i64 (7)), (1, 1, .int .i64 x6)] fun c91 =>
 pCall call 224 [x0, (.agg c91)] h fun v93 h92 =>
 some (.tup [], h92))
 else (some (.tup [], h)))
 else (bif (!x1) then (pNil x0 fun v94 =>
 pFld 6 v94 fun v95 =>
 pLd h none v95 fun v96 =>
 asK .i64 v96 fun n97 =>
 bif (decide (n97 > (0))) then (pNil x0 fun v98 =>
 pFld 3 v98 fun v99 =>
 pLd h none v99 fun v100 =>
 pIdx 1 v100 x6 fun v101 =>
 pLd h none v101 fun v102 =>
 asK .i64 v102 fun n103 =>
 bif (decide (n103 < (4))) then (pNil x0 fun v104 =>
 pFld 6 v104 fun v105 =>
 pLd h none v105 fun v106 =>
 asK .i64 v106 fun n107 =>
 pNil x0 fun v108 =>
 pFld 6 v108 fun v109 =>
 pSt h 1 v109 (.int .i64 (IntKind.i64.wrap (n107 - (1)))) fun h110 =>
 pNil x0 fun v111 =>
 pFld 3 v111 fun v112 =>
 pLd h110 none v112 fun v113 =>
 pIdx 1 v113 x6 fun v114 =>
 pLd h110 none v114 fun v115 =>
 asK .i64 v115 fun n116 =>
 pNil x0 fun v117 =>
 pFld 3 v117 fun v118 =>
 pLd h110 none v118 fun v119 =>
 pIdx 1 v119 x6 fun v120 =>
 pLd h110 none v120 fun v121 =>
 asK .i64 v121 fun n122 =>
 pCallI call .i64 37 [x4, .int .i64 (IntKind.i64.wrap (n116 + (1)))] h110 fun n124 h123 =>
 need (aLd h123 none v118 = some v119) (need (aLd h123 none v120 = some (.int .i64 n122)) (pCallI call .i64 37 [x4, .int .i64 (4)] h123 fun n126 h125 =>
 need (aLd h125 none v118 = some v119) (need (aLd h125 none v120 = some (.int .i64 n122)) (pCallI call .i64 37 [x4, .int .i64 n122] h125 fun n128 h127 =>
 pFill [.int .i64 0, .int .i64 0, .int .i64 0, .int .i64 0, .nils, .int .i64 0, .int .i64 0, .int .i64 0, .int .i64 0, .int .i64 0] [(0, 1, .int .i64 (8)), (1, 1, .int .i64 x6), (3, 1, .int .i64 n124), (8, 1, .int .i64 (IntKind.i64.wrap ((1) + n126))), (9, 1, .int .i64 n128)] fun c129 =>
 pCall call 224 [x0, (.agg c129)] h127 fun v131 h130 =>
 some (.tup [], h130))))))
 else (some (.tup [], h)))
 else (some (.tup [], h)))
 else (some (.tup [], h))))))) := by kernel_rfl
theorem spec_planner_node.J2_eq (call : Nat → List AV → AH → O) (k : Nat) (x0 : AV) (x1 : Bool) (x4 : AV) (x6 : Int) (x7 : Int) (x43 : Int) (x97 : Bool) (h : AH) : spec_planner_node.J2 call k x0 x1 x4 x6 x7 x43 x97 h =
 bif x97 then (pNil x0 fun v14 =>
 pFld 3 v14 fun v15 =>
 pLd h none v15 fun v16 =>
 pIdx 1 v16 x6 fun v17 =>
 pLd h none v17 fun v18 =>
 asK .i64 v18 fun n19 =>
 pCall call 241 [x4, .int .i64 n19] h fun v21 h20 =>
 pFill [.int .i64 0, .int .i64 0, .int .i64 0, .int .i64 0, .nils, .int .i64 0, .int .i64 0, .int .i64 0, .int .i64 0, .int .i64 0] [(0, 1, .int .i64 (2)), (1, 1, .int .i64 x6), (5, 3, v21)] fun c22 =>
 pCall call 224 [x0, (.agg c22)] h20 fun v24 h23 =>
 some (.tup [], h23))
 else (bif (x43 == (2)) then (spec_planner_node.J3 call k x0 x1 x4 x6 x7 x43 (x43 == (2)) h)
 else (spec_planner_node.J3 call k x0 x1 x4 x6 x7 x43 (x43 == (3)) h)) := by kernel_rfl
theorem spec_planner_node.J1_eq (call : Nat → List AV → AH → O) (k : Nat) (x0 : AV) (x1 : Bool) (x4 : AV) (x5 : Int) (h : AH) : spec_planner_node.J1 call k x0 x1 x4 x5 h =
 pCallI call .i64 37 [x4, .int .i64 x5] h fun n9 h8 =>
 pCallI call .i64 37 [x4, .int .i64 x5] h8 fun n11 h10 =>
 pCallI call .i64 37 [x4, .int .i64 (9)] h10 fun n13 h12 =>
 bif (n13 == (0)) then (spec_planner_node.J2 call k x0 x1 x4 n9 n11 n13 (n13 == (0)) h12)
 else (spec_planner_node.J2 call k x0 x1 x4 n9 n11 n13 (n13 == (1)) h12) := by kernel_rfl
theorem spec_planner_node_run (T : Nat → Option AF) (hT : T 225 = some spec_planner_node.ir) (k : Nat) (a0 : AV) (a1 : Bool) (h : AH) : run T (k + 1) 225 [a0, .bool a1] h =
 (fun (call : Nat → List AV → AH → O) => pNil a0 fun v1 =>
 pFld 0 v1 fun v2 =>
 pLd h none v2 fun v3 =>
 pNil a0 fun v4 =>
 pFld 2 v4 fun v5 =>
 pLd h none v5 fun v6 =>
 pLen v6 fun m7 =>
 bif (((m7 : Int) == (0))) then (pNil a0 fun v132 =>
 pFld 1 v132 fun v133 =>
 pLd h none v133 fun v134 =>
 pLen v134 fun m135 =>
 pCallI call .i64 37 [v3, .int .i64 (m135 : Int)] h fun n137 h136 =>
 pFill [.int .i64 0, .int .i64 0, .int .i64 0, .int .i64 0, .nils, .int .i64 0, .int .i64 0, .int .i64 0, .int .i64 0, .int .i64 0] [(0, 1, .int .i64 (1)), (1, 1, .int .i64 n137)] fun c138 =>
 pCall call 224 [a0, (.agg c138)] h136 fun v140 h139 =>
 some (.tup [], h139))
 else (pCallI call .i64 37 [v3, .int .i64 (4)] h fun n142 h141 =>
 bif (n142 == (0)) then (pNil a0 fun v143 =>
 pFld 1 v143 fun v144 =>
 pLd h141 none v144 fun v145 =>
 pLen v145 fun m146 =>
 pCallI call .i64 37 [v3, .int .i64 (m146 : Int)] h141 fun n148 h147 =>
 pFill [.int .i64 0, .int .i64 0, .int .i64 0, .int .i64 0, .nils, .int .i64 0, .int .i64 0, .int .i64 0, .int .i64 0, .int .i64 0] [(0, 1, .int .i64 (1)), (1, 1, .int .i64 n148)] fun c149 =>
 pCall call 224 [a0, (.agg c149)] h147 fun v151 h150 =>
 some (.tup [], h150))
 else (spec_planner_node.J1 call k a0 a1 v3 (m7 : Int) h141))) (run T k) := by unfold run; rw [hT]; kernel_rfl
/-- The functions that a planner calls. -/
structure HasP (T : Nat → Option AF) : Prop where
  f37 : T 37 = some spec_reader_pick.ir
  f49 : T 49 = some spec_inRange.ir
  f224 : T 224 = some spec_planner_add.ir
  f225 : T 225 = some spec_planner_node.ir
  f240 : T 240 = some spec_nodeWidth.ir
  f241 : T 241 = some spec_randomPredicate.ir
  f255 : T 255 = some spec_validPredicate.ir
  f256 : T 256 = some spec_validColumns.ir
  f257 : T 257 = some spec_reducible.ir
theorem Node.mk {n : Nat} {m : Mem} {x : AV} {l : List Int} (hx : Ints m x l) (hl : l.length ≤ n) (a b c d p0 p1 p2 g e : Int) : NodeB n m [.int .i64 a, .int .i64 b, .int .i64 c, .int .i64 d, x, .int .i64 p0, .int .i64 p1, .int .i64 p2, .int .i64 g, .int .i64 e] :=
  ⟨a, b, c, d, x, p0, p1, p2, g, e, l, rfl, hx, hl⟩
theorem Node.mk0 {m : Mem} (a b c d p0 p1 p2 g e : Int) : Node m [.int .i64 a, .int .i64 b, .int .i64 c, .int .i64 d, .nils, .int .i64 p0, .int .i64 p1, .int .i64 p2, .int .i64 g, .int .i64 e] :=
  Node.mk (l := []) ⟨by simp, rfl⟩ (by simp) a b c d p0 p1 p2 g e
def NodePost (m : Mem) (h : AH) (pb rb : Nat) (p : Int) (S : PS) : AV → AH → Prop := fun _ h' => ∃ m' S' p', Next 1 m h m' h' pb rb p' S S' ∧ p ≤ p' ∧ p' ≤ p + 20
theorem add_arm {T : Nat → Option AF} (H : HasP T) {k : Nat} (hk : 1000010 ≤ k) {m m1 : Mem} {h h1 : AH} {pb rb : Nat} {p p1 : Int} {S S1 : PS} (N : Next 0 m h m1 h1 pb rb p1 S S1) (hs : S.rows.length < 1000) (hp : p ≤ p1 ∧ p1 ≤ p + 20) {cs : List AV} (hn : Node m1 cs) :
    W (pCall (run T k) 224 [.ptr pb 0, .agg cs] h1 fun _ h' => some (.tup [], h')) (NodePost m h pb rb p S) := by
  have hs1 : S1.rows.length < 1000 := by have := N.less; omega
  refine W.call_ (planner_add_ok H.f224 H.f240 H.f255 H.f256 H.f257 H.f49 hk N.pl hs1 hn) fun v h' ⟨S', N', _, _⟩ => W.ret ⟨m1, S', p1, ?_, hp⟩
  have := N.trans N'
  exact this
theorem stop_arm {m m1 : Mem} {h h1 : AH} {pb rb : Nat} {p p1 : Int} {S S1 : PS} (N : Next 0 m h m1 h1 pb rb p1 S S1) (hp : p ≤ p1 ∧ p1 ≤ p + 20) : W (some (.tup [], h1)) (NodePost m h pb rb p S) :=
  W.ret ⟨m1, S1, p1, ⟨N.pl, N.ch, N.le, N.more, by have := N.less; omega, N.ws, N.wx, N.mw, N.old, N.fresh⟩, hp⟩
theorem pick_arm {T : Nat → Option AF} (H : HasP T) {k : Nat} (hk : 1 ≤ k) {m m1 : Mem} {h h1 : AH} {pb rb : Nat} {p1 q : Int} {S S1 : PS} (N : Next 0 m h m1 h1 pb rb p1 S S1) (hp : 0 ≤ p1 ∧ p1 ≤ 100000000) {K : Int → AH → O} {Q : AV → AH → Prop}
    (a : ∀ n h2, Next 0 m h m1 h2 pb rb (p1 + 1) S S1 → Ch [rb] h1 h2 → 0 ≤ n → (n < q ∨ n = 0) → W (K n h2) Q) : W (pCallI (run T k) .i64 37 [.ptr rb 0, .int .i64 q] h1 K) Q :=
  W.callI (N.pl.pick H.f37 hk hp) fun n h2 ⟨P, c, _, e1, e2⟩ => a n h2 (N.keep P c fun x hx => by simp at hx; right; left; exact hx) c e1 e2
theorem set_arm {m m1 : Mem} {h h1 : AH} {pb rb : Nat} {p1 : Int} {S S1 S2 : PS} (N : Next 0 m h m1 h1 pb rb p1 S S1) {o : Nat} {v : AV} {K : AH → O} {Q : AV → AH → Prop} (hv : cellsOf v = some [v]) (ho : o < 7) (e : (S1.cells rb).set o v = S2.cells rb) (es : ({ S1 with u := S2.u, j := S2.j, g := S2.g } : PS) = S2)
    (a : ∀ h2, Next 0 m h m1 h2 pb rb p1 S S2 → W (K h2) Q) : W (pSt h1 1 (.ptr pb o) v K) Q := by
  rw [st_at N.pl.blk hv ho, e]
  refine a _ ?_
  have P := N.pl.set (S' := S2) (by rw [← es]) (by rw [← es]) (by rw [← es]) (by rw [← es]) (by rw [← es]) (by rw [← es]) (by rw [← es]) (by rw [← es]) (by rw [← es])
  have k : Next 0 m1 h1 m1 (h1.set pb (S2.cells rb)) pb rb p1 S1 S2 := ⟨P, Ch.set.more (by simp [PS.F]), fun _ _ h => h, by rw [← es]; exact Nat.le_refl _, by rw [← es]; exact Nat.le_refl _, by rw [← es], by rw [← es], by rw [← es], fun _ _ => rfl, fun b hb => .inl (by rw [← es] at hb; exact hb)⟩
  exact N.trans k
theorem Pl.lt {m : Mem} {h : AH} {pb rb : Nat} {p : Int} {S : PS} (P : Pl m h pb rb p S) : ∀ f, f ∈ S.F pb rb → f < h.next := fun f hf => by
  simp only [PS.F, List.mem_cons, List.mem_append] at hf
  rcases hf with rfl | rfl | hf | hf
  · exact P.ok _ _ P.blk
  · obtain ⟨_, _, _, e⟩ := P.rd; exact P.ok _ _ e
  · exact P.rows.lt P.ok f hf
  · exact P.wide.lt P.ok f hf
/-- Blocks that are no planner's are kept from here on. -/
theorem Pl.grow {m : Mem} {h : AH} {pb rb : Nat} {p : Int} {S : PS} (P : Pl m h pb rb p S) {B : List Nat} (hB : ∀ b, b ∈ B → b ∉ S.F pb rb) : Pl (m.add h B) h pb rb p S where
  ok := P.ok
  sub := P.sub.add B
  off := fun f hf => Mem.add_none (P.off f hf) fun hb => hB f hb hf
  ne := P.ne
  nep := P.nep
  new := P.new
  blk := P.blk
  rd := P.rd
  subw := P.subw
  offw := P.offw
  ws := P.ws
  wsl := P.wsl
  rows := P.rows
  node := fun r hr => (P.node r hr).mono (Mem.le_add P.sub B)
  wide := P.wide
  len := P.len
  small := P.small
theorem cols_loop {T : Nat → Option AF} (H : HasP T) {k : Nat} (hk : 1000010 ≤ k) {m : Mem} {h : AH} {pb rb : Nat} {p : Int} {S : PS} (hs : S.rows.length < 1000) (hp : 0 ≤ p ∧ p ≤ 1000000) {a : Int} (ha : 0 ≤ a ∧ a < S.rows.length) (hF : ∀ f, f ∈ S.F pb rb → f < h.next) (hm : ∀ f, h.next ≤ f → m f = none ∧ S.mw f = none) : ∀ (d i1 : Nat) (n p1 : Int) (h1 : AH) (x : AV) (l : List Int) (B : List Nat), n = d → d < i1 → d ≤ 4 → l.length + d ≤ 10 → Next 0 m h m h1 pb rb p1 S S → p ≤ p1 → p1 + d ≤ p + 20 → Own h1 1 x (l.map fun n => [.int .i64 n]) B → (∀ b, b ∈ B → h.next ≤ b) →
    W (spec_planner_node.L4 (run T k) k i1 (.ptr pb 0) (.ptr rb 0) a x n h1) (NodePost m h pb rb p S) := by
  intro d
  induction d with
  | zero =>
    intro i1 n p1 h1 x l B hn h1' h2 hl N q0 q1 o hB
    obtain ⟨i1, rfl⟩ : ∃ j, i1 = j + 1 := ⟨i1 - 1, by omega⟩
    rw [spec_planner_node.L4_succ]
    refine W.bif_ (fun c => ?_) fun c => ?_
    · have : 0 < n := by simpa using c
      omega
    · rw [spec_planner_node.J7_eq]
      refine W.fill (cs := [.int .i64 3, .int .i64 a, .int .i64 0, .int .i64 0, x, .int .i64 0, .int .i64 0, .int .i64 0, .int .i64 0, .int .i64 0]) (by cases x <;> first | rfl | (rcases o.2 with ⟨h, _⟩ | ⟨_, _, h, _⟩ <;> simp at h)) ?_
      have P := N.pl.grow (B := B) fun b hb hf => by
        have e := hB b hb
        have := hF b hf
        omega
      refine add_arm H (by omega) (m1 := m.add h1 B) (p1 := p1) (S1 := S) ⟨P, N.ch, Mem.le_add N.pl.sub B, N.more, N.less, N.ws, N.wx, N.mw, fun x hx => by unfold Mem.add; rw [if_neg fun hb => by have := hB x hb; omega], N.fresh⟩ hs (by omega) ?_
      exact Node.mk (o.add) (by omega) _ _ _ _ _ _ _ _ _
  | succ d ih =>
    intro i1 n p1 h1 x l B hn h1' h2 hl N q0 q1 o hB
    obtain ⟨i1, rfl⟩ : ∃ j, i1 = j + 1 := ⟨i1 - 1, by omega⟩
    rw [spec_planner_node.L4_succ]
    refine W.bif_ (fun c => ?_) fun c => ?_
    · rw [spec_planner_node.J5_eq]
      simp only [nil_at, fld_at, Nat.zero_add, ld_at N.pl.blk (o := 3) rfl]
      refine W.idxInts N.pl.wide.sl ha.1 (by have := N.pl.len; omega) fun q n1 _ pt => W.ldI pt ?_
      refine pick_arm H (by omega) N (by omega) fun n2 h2 N2 c2 _ _ => ?_
      simp only [fill_one, new_eq]
      have hrb : rb < h1.next := N.pl.lt rb (by simp [PS.F])
      have o2 := o.keep N.pl.ok c2 (fun b hb hf => by simp at hf; subst hf; have := hB b hb; have := hF b (by simp [PS.F]); omega)
      have o3 := o2.keep N2.pl.ok (Ch.new (cs := [.int .i64 n2])) (by simp)
      have P3 := N2.pl.keep (N2.pl.ok.new (cs := [.int .i64 n2])) Ch.new (by simp)
      have N3 := N2.keep P3 Ch.new (by simp)
      have hlt := o3.lt P3.ok
      refine W.app o3 (Sl.blk (AH.new_same ..) rfl) (room_ok (by simp; omega) (by omega)) P3.ok fun v h4 B' a1 a2 a3 a4 => ?_
      rw [spec_planner_node.J6_eq, wr (by omega) (by omega)]
      have P4 := P3.keep a3 a2 fun f hf => ⟨fun hf' => by have := hB f hf; have := hF f hf'; omega, hm f (hB f hf)⟩
      refine ih i1 (n - 1) (p1 + 1) h4 v (l ++ [n2]) B' (by omega) (by omega) (by omega) (by simp; omega) (N3.keep P4 a2 fun x hx => .inr (.inr (hB x hx))) (by omega) (by omega) (by simpa using a1) ?_
      intro b hb
      rw [a4 b hb]
      exact N3.ch.next
    · have : n ≤ 0 := by simpa using c
      omega
theorem planner_node_ok {T : Nat → Option AF} (H : HasP T) {k : Nat} (hk : 1000020 ≤ k) {m : Mem} {h : AH} {pb rb : Nat} {p : Int} {S : PS} (P : Pl m h pb rb p S) (hs : S.rows.length < 1000) (hp : 0 ≤ p ∧ p ≤ 1000000) {t : Bool} :
    W (run T k 225 [.ptr pb 0, .bool t] h) (NodePost m h pb rb p S) := by
  obtain ⟨k, rfl⟩ : ∃ j, k = j + 1 := ⟨k - 1, by omega⟩
  rw [spec_planner_node_run T H.f225]
  have N := Next.refl P
  simp only [nil_at, fld_at, Nat.zero_add, ld_at P.blk (o := 0) rfl, ld_at P.blk (o := 1) rfl, ld_at P.blk (o := 2) rfl]
  refine W.len P.rows.sl (W.bif_ (fun c => ?_) fun c => ?_)
  · refine W.lenInts P.ws (pick_arm H (by omega) N (by omega) fun n h2 N2 _ _ _ => W.fill rfl ?_)
    exact add_arm H (by omega) N2 hs (by omega) (Node.mk0 _ _ _ _ _ _ _ _ _)
  have hr : S.rows.length ≠ 0 := by simpa using c
  refine pick_arm H (by omega) N (by omega) fun n1 h2 N2 _ _ _ => W.bif_ (fun c => ?_) fun c => ?_
  · simp only [nil_at, fld_at, Nat.zero_add, ld_at N2.pl.blk (o := 1) rfl]
    refine W.lenInts P.ws (pick_arm H (by omega) N2 (by omega) fun n h2 N2 _ _ _ => W.fill rfl ?_)
    exact add_arm H (by omega) N2 hs (by omega) (Node.mk0 _ _ _ _ _ _ _ _ _)
  rw [spec_planner_node.J1_eq]
  refine pick_arm H (by omega) N2 (by omega) fun a h3 N3 _ a0 a1 => ?_
  refine pick_arm H (by omega) N3 (by omega) fun b h4 N4 _ b0 b1 => ?_
  refine pick_arm H (by omega) N4 (by omega) fun q h5 N5 _ q0 q1 => ?_
  have ha : 0 ≤ a ∧ a < S.wide.length := by have := P.len; omega
  have hb : 0 ≤ b ∧ b < S.wide.length := by have := P.len; omega
  clear N N2 N3 N4
  have j3 : ∀ (q : Int) (t2 : Bool), W (spec_planner_node.J3 (run T k) k (.ptr pb 0) t (.ptr rb 0) a b q t2 h5) (NodePost m h pb rb p S) := by
    intro q t2
    rw [spec_planner_node.J3_eq]
    refine W.bif_ (fun _ => ?_) fun _ => W.bif_ (fun _ => ?_) fun _ => W.bif_ (fun _ => ?_) fun _ => W.bif_ (fun _ => ?_) fun _ => W.bif_ (fun _ => ?_) fun _ => ?_
    · simp only [fill_nil, new_eq]
      have P6 := N5.pl.keep (N5.pl.ok.new (cs := [])) Ch.new (by simp)
      have N6 := N5.keep P6 Ch.new (by simp)
      have hx : h.next ≤ h5.next := N5.ch.next
      refine pick_arm H (by omega) N6 (by omega) fun n h7 N7 c7 n0 n1 => ?_
      obtain ⟨j, rfl⟩ := Int.eq_ofNat_of_zero_le n0
      rw [wr (by omega) (by omega)]
      have hrb : rb < h5.next := N5.pl.lt rb (by simp [PS.F])
      exact cols_loop H (by omega) hs hp (by have := P.len; omega) P.lt (fun f hf => ⟨P.sub.fresh P.ok hf, P.subw.fresh P.ok hf⟩) (j + 1) k _ (p + 1 + 1 + 1 + 1 + 1) h7 _ [] [h5.next] (by omega) (by omega) (by omega) (by simp; omega) N7 (by omega) (by omega) (Own.new.keep P6.ok c7 (by simp; omega)) (by simp; exact hx)
    · simp only [nil_at, fld_at, Nat.zero_add, ld_at N5.pl.blk (o := 4) rfl, asK, kEq, cond_true]
      refine W.bif_ (fun _ => ?_) fun _ => stop_arm N5 (by omega)
      refine set_arm N5 (v := .int .i64 (IntKind.i64.wrap (S.u - 1))) (S2 := { S with u := IntKind.i64.wrap (S.u - 1) }) rfl (by omega) rfl rfl fun h6 N6 => ?_
      exact W.fill rfl (add_arm H (by omega) N6 hs (by omega) (Node.mk0 _ _ _ _ _ _ _ _ _))
    · simp only [nil_at, fld_at, Nat.zero_add, ld_at N5.pl.blk (o := 5) rfl, ld_at N5.pl.blk (o := 3) rfl, asK, kEq, cond_true]
      refine W.bif_ (fun _ => ?_) fun _ => stop_arm N5 (by omega)
      refine W.idxInts N5.pl.wide.sl ha.1 ha.2 fun q n1 _ pt => W.ldI pt ?_
      refine W.idxInts N5.pl.wide.sl hb.1 hb.2 fun q n2 _ pt => W.ldI pt ?_
      refine W.bif_ (fun _ => ?_) fun _ => stop_arm N5 (by omega)
      refine set_arm N5 (v := .int .i64 (IntKind.i64.wrap (S.j - 1))) (S2 := { S with j := IntKind.i64.wrap (S.j - 1) }) rfl (by omega) rfl rfl fun h6 N6 => ?_
      refine pick_arm H (by omega) N6 (by omega) fun n h7 N7 c7 n0 n1 => ?_
      exact W.fill rfl (add_arm H (by omega) N7 hs (by omega) (Node.mk0 _ _ _ _ _ _ _ _ _))
    · refine W.bif_ (fun _ => ?_) fun _ => stop_arm N5 (by omega)
      exact W.fill rfl (add_arm H (by omega) N5 hs (by omega) (Node.mk0 _ _ _ _ _ _ _ _ _))
    · refine W.bif_ (fun _ => ?_) fun _ => stop_arm N5 (by omega)
      exact W.fill rfl (add_arm H (by omega) N5 hs (by omega) (Node.mk0 _ _ _ _ _ _ _ _ _))
    · refine W.bif_ (fun _ => ?_) fun _ => stop_arm N5 (by omega)
      simp only [nil_at, fld_at, Nat.zero_add, ld_at N5.pl.blk (o := 6) rfl, ld_at N5.pl.blk (o := 3) rfl, asK, kEq, cond_true]
      refine W.bif_ (fun _ => ?_) fun _ => stop_arm N5 (by omega)
      refine W.idxInts N5.pl.wide.sl ha.1 ha.2 fun q n1 _ pt => W.ldI pt ?_
      refine W.bif_ (fun _ => ?_) fun _ => stop_arm N5 (by omega)
      refine set_arm N5 (v := .int .i64 (IntKind.i64.wrap (S.g - 1))) (S2 := { S with g := IntKind.i64.wrap (S.g - 1) }) rfl (by omega) rfl rfl fun h6 N6 => ?_
      simp only [ld_at N6.pl.blk (o := 3) rfl]
      refine W.idxInts N6.pl.wide.sl ha.1 ha.2 fun q n2 _ pt => W.ldI pt ?_
      refine W.idxJ N6.pl.wide.sl ha.1 ha.2 fun n3 hn3 => ?_
      refine W.ldI (Ints.pt N6.pl.wide.sl hn3) ?_
      refine pick_arm H (by omega) N6 (by omega) fun n4 h7 N7 c7 _ _ => ?_
      refine W.need_ (aLd_at N7.pl.blk rfl) (W.need_ (Ints.pt N7.pl.wide.sl hn3).ld ?_)
      refine pick_arm H (by omega) N7 (by omega) fun n5 h8 N8 c8 _ _ => ?_
      refine W.need_ (aLd_at N8.pl.blk rfl) (W.need_ (Ints.pt N8.pl.wide.sl hn3).ld ?_)
      refine pick_arm H (by omega) N8 (by omega) fun n6 h9 N9 c9 _ _ => ?_
      exact W.fill rfl (add_arm H (by omega) N9 hs (by omega) (Node.mk0 _ _ _ _ _ _ _ _ _))
  have j2 : ∀ (q : Int) (t2 : Bool), W (spec_planner_node.J2 (run T k) k (.ptr pb 0) t (.ptr rb 0) a b q t2 h5) (NodePost m h pb rb p S) := by
    intro q t2
    rw [spec_planner_node.J2_eq]
    refine W.bif_ (fun _ => ?_) fun _ => W.bif_ (fun _ => j3 _ _) fun _ => j3 _ _
    simp only [nil_at, fld_at, Nat.zero_add, ld_at N5.pl.blk (o := 3) rfl]
    refine W.idxInts N5.pl.wide.sl ha.1 ha.2 fun q n1 _ pt => W.ldI pt ?_
    refine W.call_ (randomPredicate_ok H.f241 H.f37 (by omega) N5.pl (by omega)) fun v h6 ⟨x, y, z, e, P6, c6⟩ => ?_
    subst e
    have N6 := N5.keep P6 c6 fun x hx => by simp at hx; right; left; exact hx
    exact W.fill rfl (add_arm H (by omega) N6 hs (by omega) (Node.mk0 _ _ _ _ _ _ _ _ _))
  exact W.bif_ (fun _ => j2 _ _) fun _ => j2 _ _
end Go.AM
