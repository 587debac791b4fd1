-- Contracts of the functions that one law reaches, written by a program of this session.
import Derived.Test.YtfcdnfbhoppefaaPFnExactPolyEvalx0
import Derived.Test.YtfcdnfbhoppefaaPFnExactPolyEvalx7
namespace Go.Proofs.Ytfcdnfbhoppefaa.PFnExactPolyEval
open Go.Proofs.Ytfcdnfbhoppefaa.Run Go.RowKit Go.Proofs.YtfcdnfbhoppefaaW.PrintWords Go.Proofs.YtfcdnfbhoppefaaW.PrintLast Go.Proofs.YtfcdnfbhoppefaaW.PrintMore
attribute [local go_sem] max2_int min2_int max_two min_two max_three min_three max_four min_four   -- for this text's walks alone
set_option linter.unusedVariables false
set_option linter.unusedSimpArgs false

/-! ### impl_ValidPoly: function 15 -/
mutual
def impl_ValidPoly.l0 : Nat → List (S52) → List (S52) → Int → Int → Option (Bool)
  | 0, _, _, _, _ => none
  | k + 1, x0, x7, x8, x9 => if x9 < x8 then (if 0 ≤ x9 then (if x9 < (x7.length : Int) then (if ((rd_T52 x7 x9).f0) = 0 then (impl_ValidPoly.j1 k x0 x7 x8 x9 true ((rd_T52 x7 x9).f0) ((rd_T52 x7 x9).f1)) else (if ((rd_T52 x7 x9).f0) < (-1000000) then (impl_ValidPoly.j1 k x0 x7 x8 x9 true ((rd_T52 x7 x9).f0) ((rd_T52 x7 x9).f1)) else (if ((rd_T52 x7 x9).f0) > 1000000 then (impl_ValidPoly.j1 k x0 x7 x8 x9 true ((rd_T52 x7 x9).f0) ((rd_T52 x7 x9).f1)) else (if (((rd_T52 x7 x9).f1).length : Int) > 6 then (impl_ValidPoly.j1 k x0 x7 x8 x9 true ((rd_T52 x7 x9).f0) ((rd_T52 x7 x9).f1)) else (if x9 > 0 then (if 0 ≤ (wrap64 (x9 - 1)) then (if (wrap64 (x9 - 1)) < (x0.length : Int) then ((impl_RowLess.f k ((rd_T52 x0 (wrap64 (x9 - 1))).f1) ((rd_T52 x7 x9).f1)).bind fun t220 => (impl_ValidPoly.j1 k x0 x7 x8 x9 (!t220) ((rd_T52 x7 x9).f0) ((rd_T52 x7 x9).f1))) else (none)) else (none)) else (impl_ValidPoly.j1 k x0 x7 x8 x9 false ((rd_T52 x7 x9).f0) ((rd_T52 x7 x9).f1))))))) else (none)) else (none)) else (some (decide ((x0.length : Int) ≤ 400)))
def impl_ValidPoly.j1 : Nat → List (S52) → List (S52) → Int → Int → Bool → Int → List Int → Option (Bool)
  | 0, _, _, _, _, _, _, _ => none
  | k + 1, x0, x7, x8, x9, x48, x219000, x219001 => if x48 = true then (some false) else (impl_ValidPoly.l1 k x0 x7 x8 x9 x219001 (x219001.length : Int) 0 x219000 x219001)
def impl_ValidPoly.l1 : Nat → List (S52) → List (S52) → Int → Int → List Int → Int → Int → Int → List Int → Option (Bool)
  | 0, _, _, _, _, _, _, _, _, _ => none
  | k + 1, x0, x7, x8, x9, x50, x51, x52, x219000, x219001 => if x52 < x51 then (if 0 ≤ x52 then (if x52 < (x50.length : Int) then (if (rd x50 x52) < 0 then (some false) else (if (rd x50 x52) > 299 then (some false) else (if x52 > 0 then (if 0 ≤ (wrap64 (x52 - 1)) then (if (wrap64 (x52 - 1)) < (x219001.length : Int) then (if (rd x50 x52) < (rd x219001 (wrap64 (x52 - 1))) then (some false) else (impl_ValidPoly.l1 k x0 x7 x8 x9 x50 x51 (wrap64 (x52 + 1)) x219000 x219001)) else (none)) else (none)) else (impl_ValidPoly.l1 k x0 x7 x8 x9 x50 x51 (wrap64 (x52 + 1)) x219000 x219001)))) else (none)) else (none)) else (impl_ValidPoly.l0 k x0 x7 x8 (wrap64 (x9 + 1)))
end
def impl_ValidPoly.f (k : Nat) (l0 : List (S52)) : Option (Bool) := impl_ValidPoly.l0 k l0 l0 (l0.length : Int) 0
theorem impl_ValidPoly.mono_l : ∀ k, (∀ y0 y1 y2 y3, LeO (impl_ValidPoly.l0 k y0 y1 y2 y3) (impl_ValidPoly.l0 (k + 1) y0 y1 y2 y3)) ∧ (∀ y0 y1 y2 y3 y4 y5 y6, LeO (impl_ValidPoly.j1 k y0 y1 y2 y3 y4 y5 y6) (impl_ValidPoly.j1 (k + 1) y0 y1 y2 y3 y4 y5 y6)) ∧ (∀ y0 y1 y2 y3 y4 y5 y6 y7 y8, LeO (impl_ValidPoly.l1 k y0 y1 y2 y3 y4 y5 y6 y7 y8) (impl_ValidPoly.l1 (k + 1) y0 y1 y2 y3 y4 y5 y6 y7 y8))
  | 0 => ⟨fun _ _ _ _ r h => by simp [impl_ValidPoly.l0] at h, fun _ _ _ _ _ _ _ r h => by simp [impl_ValidPoly.j1] at h, fun _ _ _ _ _ _ _ _ _ r h => by simp [impl_ValidPoly.l1] at h⟩
  | k + 1 => by
    obtain ⟨ih0, ih1, ih2⟩ := impl_ValidPoly.mono_l k
    refine ⟨?_, ?_, ?_⟩
    · intro y0 y1 y2 y3
      unfold impl_ValidPoly.l0
      repeat' first
      | (with_reducible exact ih0 _ _ _ _)
      | (with_reducible exact ih1 _ _ _ _ _ _ _)
      | (with_reducible exact ih2 _ _ _ _ _ _ _ _ _)
      | (with_reducible exact impl_RowLess.mono _ _ _)
      | (with_reducible exact LeO.refl _)
      | (with_reducible exact LeO.none _)
      | (with_reducible refine LeO.ite ?_ ?_)
      | (with_reducible refine LeO.bind ?_ (fun _ => ?_))
      | exact ih0 _ _ _ _
      | exact ih1 _ _ _ _ _ _ _
      | exact ih2 _ _ _ _ _ _ _ _ _
      | exact impl_RowLess.mono _ _ _
      | exact LeO.none _
      | refine LeO.ite ?_ ?_
      | refine LeO.bind ?_ (fun _ => ?_)
    · intro y0 y1 y2 y3 y4 y5 y6
      unfold impl_ValidPoly.j1
      repeat' first
      | (with_reducible exact ih0 _ _ _ _)
      | (with_reducible exact ih1 _ _ _ _ _ _ _)
      | (with_reducible exact ih2 _ _ _ _ _ _ _ _ _)
      | (with_reducible exact impl_RowLess.mono _ _ _)
      | (with_reducible exact LeO.refl _)
      | (with_reducible exact LeO.none _)
      | (with_reducible refine LeO.ite ?_ ?_)
      | (with_reducible refine LeO.bind ?_ (fun _ => ?_))
      | exact ih0 _ _ _ _
      | exact ih1 _ _ _ _ _ _ _
      | exact ih2 _ _ _ _ _ _ _ _ _
      | exact impl_RowLess.mono _ _ _
      | exact LeO.none _
      | refine LeO.ite ?_ ?_
      | refine LeO.bind ?_ (fun _ => ?_)
    · intro y0 y1 y2 y3 y4 y5 y6 y7 y8
      unfold impl_ValidPoly.l1
      repeat' first
      | (with_reducible exact ih0 _ _ _ _)
      | (with_reducible exact ih1 _ _ _ _ _ _ _)
      | (with_reducible exact ih2 _ _ _ _ _ _ _ _ _)
      | (with_reducible exact impl_RowLess.mono _ _ _)
      | (with_reducible exact LeO.refl _)
      | (with_reducible exact LeO.none _)
      | (with_reducible refine LeO.ite ?_ ?_)
      | (with_reducible refine LeO.bind ?_ (fun _ => ?_))
      | exact ih0 _ _ _ _
      | exact ih1 _ _ _ _ _ _ _
      | exact ih2 _ _ _ _ _ _ _ _ _
      | exact impl_RowLess.mono _ _ _
      | exact LeO.none _
      | refine LeO.ite ?_ ?_
      | refine LeO.bind ?_ (fun _ => ?_)
theorem impl_ValidPoly.mono : ∀ a0 k, LeO (impl_ValidPoly.f k a0) (impl_ValidPoly.f (k + 1) a0) := by
  intro a0 k
  obtain ⟨ih0, ih1, ih2⟩ := impl_ValidPoly.mono_l k
  unfold impl_ValidPoly.f
  repeat' first
      | (with_reducible exact ih0 _ _ _ _)
      | (with_reducible exact ih1 _ _ _ _ _ _ _)
      | (with_reducible exact ih2 _ _ _ _ _ _ _ _ _)
      | (with_reducible exact impl_RowLess.mono _ _ _)
      | (with_reducible exact LeO.refl _)
      | (with_reducible exact LeO.none _)
      | (with_reducible refine LeO.ite ?_ ?_)
      | (with_reducible refine LeO.bind ?_ (fun _ => ?_))
      | exact ih0 _ _ _ _
      | exact ih1 _ _ _ _ _ _ _
      | exact ih2 _ _ _ _ _ _ _ _ _
      | exact impl_RowLess.mono _ _ _
      | exact LeO.none _
      | refine LeO.ite ?_ ?_
      | refine LeO.bind ?_ (fun _ => ?_)
def impl_ValidPoly.T4 : Bool × List (List Nat × List Nat) := (true, [([], []), ([0], [0]), ([1], [1]), ([2], [2]), ([3], [3]), ([4, 3], [3, 4]), ([5, 3], [3, 5]), ([3, 6], [3, 6]), ([7, 3], [7]), ([8], [8]), ([9, 8], [8, 9]), ([10, 8], [8, 10]), ([8, 11], [8, 11]), ([12, 8], [12]), ([13], [13]), ([14, 13], [13, 14]), ([15, 13], [13, 15]), ([16, 13], [13, 16]), ([13, 17], [13, 17]), ([18, 13], [18]), ([19], [19]), ([20, 19], [19, 20]), ([21, 19, 19], [19, 21]), ([22], [22]), ([22], [22]), ([24, 22], [22, 24]), ([23, 25, 22], [22, 23, 25]), ([26, 22], [22, 26]), ([27, 22], [22, 27]), ([22], [22]), ([29, 22], [22, 29]), ([28, 30, 22, 22], [22, 28, 30]), ([31, 22], [22, 31]), ([22, 32, 19], [19, 22, 32]), ([19, 33], [19, 33])])
def impl_ValidPoly.B4 : List Nat := [0, 1, 3, 7, 15, 31, 63, 127, 255, 511, 1023, 2047, 4095, 8191, 16383, 32767, 65535, 131071, 262143, 524287, 1048575, 2097151, 4194303, 8388607, 8388607, 25165823, 67108863, 134217727, 268435455, 8388607, 545259519, 2147483647, 4294967295, 8589934591, 17179869183]
theorem impl_ValidPoly.tab4 : rtab .any (opsOf Try.f15 4) = impl_ValidPoly.T4 := by kernel_rfl
theorem impl_ValidPoly.bits4 : waitsOk impl_ValidPoly.T4.2 impl_ValidPoly.B4 = true := by kernel_rfl
set_option maxHeartbeats 8000000 in
set_option maxRecDepth 100000 in
theorem impl_ValidPoly.calls (k : Nat) (A0 : Option Addr) (c0 : Nat) (l0 : List (S52)) (r : Bool) (w : World) (hr0 : Kd.C k52 w A0 l0.length l0) (hc0 : l0.length ≤ c0) (h : impl_ValidPoly.f k l0 = some r) :
    Calls Try.prog 15 #[.slice A0 l0.length c0] w fun e w' => e = .returned (.bool r) ∧ Below w.heap.size w w' := by
  have hu52 := Try.underlying52
  have HR0 := Aside0.mk hr0
  have HC0 := Aside0.mk hc0
  clear hr0 hc0
  have HB := Aside0.mk (Below.refl w.heap.size w)
  have H : (impl_ValidPoly.l0 k l0 l0 (l0.length : Int) 0) = some r := h
  clear h
  have H' := Aside0.mk H
  clear H
  go_enter Try.func15, Try.ntmps15
  go_wp2
  go_loopg [9] k (fun kq v9 w' => ∃ (x9_1 : Int), v9 = .int .i64 x9_1 ∧ Aside0 (impl_ValidPoly.l0 kq l0 l0 (l0.length : Int) x9_1 = some r) ∧ Aside0 (kq ≤ k) ∧ Aside0 (Below w.heap.size w w'))
  case atStart => exact ⟨(0), (by first | rfl | (simp; done) | (simp [*]; done)), H', ⟨Nat.le_refl _⟩, ⟨by repeat (first | (with_reducible first | exact HB.out | apply below_alloc | apply pw_below_drewN | apply below_drew1) | exact HB.out)⟩⟩
  case round =>
    clear H'
    try clear c1
    obtain ⟨x9_1, rfl, HA, HK1, HB⟩ := hrel
    cases gk with
    | zero => exact absurd HA.out (by simp [impl_ValidPoly.l0])
    | succ k1 =>
      have H := HA.out
      clear HA
      simp only [impl_ValidPoly.l0] at H
      by_cases c2 : x9_1 < (l0.length : Int)
      rotate_left
      · rw [if_neg c2] at H
        have c2b0 : decide (x9_1 < (l0.length : Int)) = false := decide_eq_false c2
        clear c2
        obtain rfl := Option.some.inj H
        go_wp2
        go_ret
        exact ⟨by first | rfl | (simp [errW_none, errW_some] <;> rfl) | (simp [*, errW_none, errW_some] <;> rfl), by repeat (first | (with_reducible first | exact HB.out | apply below_alloc | apply pw_below_drewN | apply below_drew1) | exact HB.out)⟩
      rw [if_pos c2] at H
      have c2b0 : decide (x9_1 < (l0.length : Int)) = true := decide_eq_true c2
      clear c2
      by_cases c3 : 0 ≤ x9_1
      rotate_left
      · rw [if_neg c3] at H
        exact absurd H (by simp)
      rw [if_pos c3] at H
      have c3b0 : decide (0 ≤ x9_1) = true := decide_eq_true c3
      clear c3
      by_cases c4 : x9_1 < (l0.length : Int)
      rotate_left
      · rw [if_neg c4] at H
        exact absurd H (by simp)
      rw [if_pos c4] at H
      have c4b0 : decide (x9_1 < (l0.length : Int)) = true := decide_eq_true c4
      clear c4
      have HC5 := Aside0.mk H
      clear H
      have p217 : 0 ≤ (x9_1 : Int) := of_decide_eq_true (by first | (with_reducible assumption) | assumption)
      have q217 : x9_1 < (l0.length : Int) := of_decide_eq_true (by first | (with_reducible assumption) | assumption)
      obtain ⟨ad217, A217_1, c217_1, e217, hx217_0, hx217_1, hl217_1, hi217_1⟩ := at_T52 HR0.out x9_1 p217 q217
      cases e217
      replace hx217_0 := (HB.out.cell (World.block_lt_of_cell? w _ hx217_0)).trans hx217_0
      replace hx217_1 := (HB.out.cell (World.block_lt_of_cell? w _ hx217_1)).trans hx217_1
      have HR217_1 := Aside0.mk hi217_1
      have HC217_1 := Aside0.mk hl217_1
      clear hi217_1 hl217_1
      replace p217 := eq_true p217
      replace q217 := eq_true q217
      go_upto_region 4 with (first | ((with_reducible refine gate_dst (N := 4) rfl ?_); (try (refine gate_guard (by rfl) ?_; dsimp only)); refine box_event ?hg (N := 4) ?hd (cs := #[.int .i64 0, .slice none 0 0]) (t := 52) ?hr ?_; (case hd => rfl); (case hg => rfl); (case hr => first | (go_simp; done) | (go_simp; rfl)); intro gb218 hg w6 hbox hb; have n0_ := Aside0.mk (below_step (by repeat (first | (with_reducible first | exact HB.out | apply below_alloc | apply pw_below_drewN | apply below_drew1) | exact HB.out)) hb); have n1_ := Aside0.mk (hbox); have n2_ := Aside0.mk ((by rw [hg]; exact (below_size (by repeat (first | (with_reducible first | exact HB.out | apply below_alloc | apply pw_below_drewN | apply below_drew1) | exact HB.out))) : w.heap.size ≤ gb218)); have n3_ := Aside0.mk ((by rw [hg]; exact (below_size (by repeat (first | (with_reducible first | exact HB.out | apply below_alloc | apply pw_below_drewN | apply below_drew1) | exact HB.out))) : w.heap.size ≤ gb218)); clear HB; have HB := n0_; have BK218 := n1_; have GW218 := n2_; have GE218 := n3_; clear n0_ n1_ n2_ n3_; clear hb hbox hg; have hcz7_0 : w6.cell? ⟨gb218, 0, none⟩ = some (.int .i64 0) := (blk_cell BK218.out 0).trans rfl; have hcz7_1 : w6.cell? ⟨gb218, 1, none⟩ = some (.slice none 0 0) := (blk_cell BK218.out 1).trans rfl; have hfz7_0 := blk_frozen BK218.out 0; have hfz7_1 := blk_frozen BK218.out 1))
      (try simp only [Act.put, List.setIfInBounds_toArray, List.set_cons_zero, List.set_cons_succ])
      go_cut [48] (fun v48 wc => ∃ (kq : Nat) (x48_4 : Bool), v48 = .bool x48_4 ∧ Aside0 (impl_ValidPoly.j1 kq l0 l0 (l0.length : Int) x9_1 x48_4 ((rd_T52 l0 x9_1).f0) ((rd_T52 l0 x9_1).f1) = some r) ∧ Aside0 (kq ≤ k1) ∧ Aside0 (wc.heap[gb218]? = some (.cells #[.int .i64 ((rd_T52 l0 x9_1).f0), (.slice A217_1 ((rd_T52 l0 x9_1).f1).length c217_1)] 52 (0, 0))) ∧ Aside0 (Below w.heap.size w wc))
      case first =>
        have H := HC5.out
        clear HC5
        by_cases c8 : ((rd_T52 l0 x9_1).f0) = 0
        · rw [if_pos c8] at H
          have c8b0 : (((rd_T52 l0 x9_1).f0) == 0) = true := beq_iff_eq.mpr c8
          have c8b1 : (((rd_T52 l0 x9_1).f0) != 0) = false := bne_eq_false_iff_eq.mpr c8
          clear c8
          (first | rw [c8b0] | (simp only [i64_w, i32_w]; rw [c8b0]) | skip)
          have H' := Aside0.mk H
          clear H
          try go_wp2
          have n0_ : Aside0 (((w6.setCell ⟨gb218, 0, none⟩ (.int .i64 ((rd_T52 l0 x9_1).f0))).setCell ⟨gb218, 1, none⟩ (.slice A217_1 ((rd_T52 l0 x9_1).f1).length c217_1)).heap[gb218]? = some (.cells #[.int .i64 ((rd_T52 l0 x9_1).f0), .slice A217_1 ((rd_T52 l0 x9_1).f1).length c217_1] 52 (0, 0))) := ⟨by (with_reducible repeat (first | refine blk_drewN ?_ _ | refine blk_drew ?_ | refine blk_alloc ?_ _)); refine blk_put (cs := #[.int .i64 ((rd_T52 l0 x9_1).f0), .slice none 0 0]) ?_ 1 _ rfl; (with_reducible repeat (first | refine blk_drewN ?_ _ | refine blk_drew ?_ | refine blk_alloc ?_ _)); refine blk_put (cs := #[.int .i64 0, .slice none 0 0]) ?_ 0 _ rfl; (with_reducible repeat (first | refine blk_drewN ?_ _ | refine blk_drew ?_ | refine blk_alloc ?_ _)); exact BK218.out⟩
          have n1_ : Aside0 (Below w.heap.size w ((w6.setCell ⟨gb218, 0, none⟩ (.int .i64 ((rd_T52 l0 x9_1).f0))).setCell ⟨gb218, 1, none⟩ (.slice A217_1 ((rd_T52 l0 x9_1).f1).length c217_1))) := ⟨by repeat (first | (with_reducible first | exact HB.out | apply below_alloc | apply pw_below_drewN | apply below_drew1 | refine below_set ?_ GE218.out) | exact HB.out)⟩
          (try clear BK218)
          (try clear HB)
          generalize ((w6.setCell ⟨gb218, 0, none⟩ (.int .i64 ((rd_T52 l0 x9_1).f0))).setCell ⟨gb218, 1, none⟩ (.slice A217_1 ((rd_T52 l0 x9_1).f1).length c217_1)) = w9 at n0_ n1_ ⊢
          have BK218 := n0_
          have HB := n1_
          clear n0_ n1_
          have n0_ := Aside0.mk (blk_drew BK218.out)
          have n1_ := Aside0.mk (below_drew1 HB.out)
          clear BK218
          clear HB
          have BK218 := n0_
          have HB := n1_
          clear n0_ n1_
          refine start_ (n := 35) (S := fun w' => w'.cell? ⟨gb218, 0, none⟩ = some (.int .i64 ((rd_T52 l0 x9_1).f0)) ∧ w'.cell? ⟨gb218, 1, none⟩ = some (.slice A217_1 ((rd_T52 l0 x9_1).f1).length c217_1)) (ds := []) #[false, false, false, false, false, false, false, false, false, false, false, false, false, false, false, false, false, false, false, false, false, false, false, false, false, false, false, false, false, false, false, false, false, false, false] (by kernel_rfl) rfl rfl ⟨(blk_cell BK218.out 0).trans rfl, (blk_cell BK218.out 1).trans rfl⟩ (fun hHeld => ?_); refine with_tabW impl_ValidPoly.tab4 impl_ValidPoly.bits4 (fun HT_ HW_ => ?_)
          generalize w9.drew = w10 at BK218 HB hHeld ⊢
          refine sched_ [(0, some 14), (1, some 15), (2, some 16), (3, some 17)] ?_
          iterate 4 (refine quiet_ (v := ?_) (a' := ?_) rfl rfl (take_ofW HT_.out HW_.out (by kernel_rfl)) (fun _ _ _ h => h) ⟨by rfl, ?_⟩ hHeld ?_ ?_; rotate_left; (rintro w' ⟨s0, s1⟩; go_simp; with_reducible rfl); rotate_left; (simp only [Act.put, List.setIfInBounds_toArray, List.set_cons_zero, List.set_cons_succ, i64_w, i32_w]; rfl))
          refine schedEnd_ ?_
          refine sched_ [(4, some 18), (5, some 19), (6, some 20)] ?_
          iterate 3 (refine quietOff_ (a' := ?_) rfl rfl (take_ofW HT_.out HW_.out (by kernel_rfl)) (fun _ _ _ h => h) ⟨by rfl, rfl⟩ hHeld ?_ ?_; rotate_left; (simp only [Act.put, List.setIfInBounds_toArray, List.set_cons_zero, List.set_cons_succ, i64_w, i32_w]; rfl))
          refine schedEnd_ ?_
          refine sched_ [(7, some 21), (8, some 22)] ?_
          iterate 2 (refine quiet_ (v := ?_) (a' := ?_) rfl rfl (take_ofW HT_.out HW_.out (by kernel_rfl)) (fun _ _ _ h => h) ⟨by rfl, ?_⟩ hHeld ?_ ?_; rotate_left; (rintro w' ⟨s0, s1⟩; go_simp; with_reducible rfl); rotate_left; (simp only [Act.put, List.setIfInBounds_toArray, List.set_cons_zero, List.set_cons_succ, i64_w, i32_w]; rfl))
          refine schedEnd_ ?_
          refine sched_ [(9, some 23), (10, some 24), (11, some 25)] ?_
          iterate 3 (refine quietOff_ (a' := ?_) rfl rfl (take_ofW HT_.out HW_.out (by kernel_rfl)) (fun _ _ _ h => h) ⟨by rfl, rfl⟩ hHeld ?_ ?_; rotate_left; (simp only [Act.put, List.setIfInBounds_toArray, List.set_cons_zero, List.set_cons_succ, i64_w, i32_w]; rfl))
          refine schedEnd_ ?_
          refine sched_ [(12, some 26), (13, some 27)] ?_
          iterate 2 (refine quiet_ (v := ?_) (a' := ?_) rfl rfl (take_ofW HT_.out HW_.out (by kernel_rfl)) (fun _ _ _ h => h) ⟨by rfl, ?_⟩ hHeld ?_ ?_; rotate_left; (rintro w' ⟨s0, s1⟩; go_simp; with_reducible rfl); rotate_left; (simp only [Act.put, List.setIfInBounds_toArray, List.set_cons_zero, List.set_cons_succ, i64_w, i32_w]; rfl))
          refine schedEnd_ ?_
          refine sched_ [(14, some 28), (15, some 29), (16, some 30), (17, some 31)] ?_
          iterate 4 (refine quietOff_ (a' := ?_) rfl rfl (take_ofW HT_.out HW_.out (by kernel_rfl)) (fun _ _ _ h => h) ⟨by rfl, rfl⟩ hHeld ?_ ?_; rotate_left; (simp only [Act.put, List.setIfInBounds_toArray, List.set_cons_zero, List.set_cons_succ, i64_w, i32_w]; rfl))
          refine schedEnd_ ?_
          refine sched_ [(18, some 32), (19, some 33)] ?_
          iterate 2 (refine quiet_ (v := ?_) (a' := ?_) rfl rfl (take_ofW HT_.out HW_.out (by kernel_rfl)) (fun _ _ _ h => h) ⟨by rfl, ?_⟩ hHeld ?_ ?_; rotate_left; (rintro w' ⟨s0, s1⟩; go_simp; with_reducible rfl); rotate_left; (simp only [Act.put, List.setIfInBounds_toArray, List.set_cons_zero, List.set_cons_succ, i64_w, i32_w]; rfl))
          refine schedEnd_ ?_
          refine sched_ [(20, some 34), (21, some 35), (22, some 36), (23, some 37), (24, some 38), (25, some 39), (26, some 40), (27, some 41), (28, some 42), (29, some 43), (30, some 44), (31, some 45), (32, some 46), (33, some 47)] ?_
          iterate 14 (refine quietOff_ (a' := ?_) rfl rfl (take_ofW HT_.out HW_.out (by kernel_rfl)) (fun _ _ _ h => h) ⟨by rfl, rfl⟩ hHeld ?_ ?_; rotate_left; (simp only [Act.put, List.setIfInBounds_toArray, List.set_cons_zero, List.set_cons_succ, i64_w, i32_w]; rfl))
          refine schedEnd_ ?_
          refine sched_ [(34, some 48)] ?_
          iterate 1 (refine quiet_ (v := ?_) (a' := ?_) rfl rfl (take_ofW HT_.out HW_.out (by kernel_rfl)) (fun _ _ _ h => h) ⟨by rfl, ?_⟩ hHeld ?_ ?_; rotate_left; (rintro w' ⟨s0, s1⟩; go_simp; with_reducible rfl); rotate_left; (simp only [Act.put, List.setIfInBounds_toArray, List.set_cons_zero, List.set_cons_succ, i64_w, i32_w]; rfl))
          refine schedEnd_ ?_
          refine done_ (done_of HT_.out (by kernel_rfl)) ?_
          try go_wp2
          go_meet
          case rel => exact ⟨_, (true), (by first | rfl | (simp; done) | (simp [*]; done)), H', ⟨by have := HK1.out; first | omega | exact Nat.le_refl _⟩, ⟨by (with_reducible repeat (first | refine blk_drewN ?_ _ | refine blk_drew ?_ | refine blk_alloc ?_ _)); exact BK218.out⟩, ⟨by repeat (first | (with_reducible first | exact HB.out | apply below_alloc | apply pw_below_drewN | apply below_drew1 | refine below_set ?_ GE218.out) | exact HB.out)⟩⟩
        rw [if_neg c8] at H
        have c8b0 : (((rd_T52 l0 x9_1).f0) == 0) = false := beq_eq_false_iff_ne.mpr c8
        have c8b1 : (((rd_T52 l0 x9_1).f0) != 0) = true := bne_iff_ne.mpr c8
        (first | rw [c8b0] | (simp only [i64_w, i32_w]; rw [c8b0]) | skip)
        by_cases c11 : ((rd_T52 l0 x9_1).f0) < (-1000000)
        · rw [if_pos c11] at H
          have c11b0 : decide (((rd_T52 l0 x9_1).f0) < (-1000000)) = true := decide_eq_true c11
          clear c11
          have H' := Aside0.mk H
          clear H
          try go_wp2
          have n0_ : Aside0 (((w6.setCell ⟨gb218, 0, none⟩ (.int .i64 ((rd_T52 l0 x9_1).f0))).setCell ⟨gb218, 1, none⟩ (.slice A217_1 ((rd_T52 l0 x9_1).f1).length c217_1)).heap[gb218]? = some (.cells #[.int .i64 ((rd_T52 l0 x9_1).f0), .slice A217_1 ((rd_T52 l0 x9_1).f1).length c217_1] 52 (0, 0))) := ⟨by (with_reducible repeat (first | refine blk_drewN ?_ _ | refine blk_drew ?_ | refine blk_alloc ?_ _)); refine blk_put (cs := #[.int .i64 ((rd_T52 l0 x9_1).f0), .slice none 0 0]) ?_ 1 _ rfl; (with_reducible repeat (first | refine blk_drewN ?_ _ | refine blk_drew ?_ | refine blk_alloc ?_ _)); refine blk_put (cs := #[.int .i64 0, .slice none 0 0]) ?_ 0 _ rfl; (with_reducible repeat (first | refine blk_drewN ?_ _ | refine blk_drew ?_ | refine blk_alloc ?_ _)); exact BK218.out⟩
          have n1_ : Aside0 (Below w.heap.size w ((w6.setCell ⟨gb218, 0, none⟩ (.int .i64 ((rd_T52 l0 x9_1).f0))).setCell ⟨gb218, 1, none⟩ (.slice A217_1 ((rd_T52 l0 x9_1).f1).length c217_1))) := ⟨by repeat (first | (with_reducible first | exact HB.out | apply below_alloc | apply pw_below_drewN | apply below_drew1 | refine below_set ?_ GE218.out) | exact HB.out)⟩
          (try clear BK218)
          (try clear HB)
          generalize ((w6.setCell ⟨gb218, 0, none⟩ (.int .i64 ((rd_T52 l0 x9_1).f0))).setCell ⟨gb218, 1, none⟩ (.slice A217_1 ((rd_T52 l0 x9_1).f1).length c217_1)) = w12 at n0_ n1_ ⊢
          have BK218 := n0_
          have HB := n1_
          clear n0_ n1_
          have n0_ := Aside0.mk (blk_drew BK218.out)
          have n1_ := Aside0.mk (below_drew1 HB.out)
          clear BK218
          clear HB
          have BK218 := n0_
          have HB := n1_
          clear n0_ n1_
          refine start_ (n := 35) (S := fun w' => w'.cell? ⟨gb218, 0, none⟩ = some (.int .i64 ((rd_T52 l0 x9_1).f0)) ∧ w'.cell? ⟨gb218, 1, none⟩ = some (.slice A217_1 ((rd_T52 l0 x9_1).f1).length c217_1)) (ds := []) #[false, false, false, false, false, false, false, false, false, false, false, false, false, false, false, false, false, false, false, false, false, false, false, false, false, false, false, false, false, false, false, false, false, false, false] (by kernel_rfl) rfl rfl ⟨(blk_cell BK218.out 0).trans rfl, (blk_cell BK218.out 1).trans rfl⟩ (fun hHeld => ?_); refine with_tabW impl_ValidPoly.tab4 impl_ValidPoly.bits4 (fun HT_ HW_ => ?_)
          generalize w12.drew = w13 at BK218 HB hHeld ⊢
          refine sched_ [(0, some 14), (1, some 15), (2, some 16), (3, some 17), (4, some 18), (5, some 19), (6, some 20), (7, some 21), (8, some 22)] ?_
          iterate 9 (refine quiet_ (v := ?_) (a' := ?_) rfl rfl (take_ofW HT_.out HW_.out (by kernel_rfl)) (fun _ _ _ h => h) ⟨by rfl, ?_⟩ hHeld ?_ ?_; rotate_left; (rintro w' ⟨s0, s1⟩; go_simp; with_reducible rfl); rotate_left; (simp only [Act.put, List.setIfInBounds_toArray, List.set_cons_zero, List.set_cons_succ, i64_w, i32_w]; rfl))
          refine schedEnd_ ?_
          refine sched_ [(9, some 23), (10, some 24), (11, some 25)] ?_
          iterate 3 (refine quietOff_ (a' := ?_) rfl rfl (take_ofW HT_.out HW_.out (by kernel_rfl)) (fun _ _ _ h => h) ⟨by rfl, rfl⟩ hHeld ?_ ?_; rotate_left; (simp only [Act.put, List.setIfInBounds_toArray, List.set_cons_zero, List.set_cons_succ, i64_w, i32_w]; rfl))
          refine schedEnd_ ?_
          refine sched_ [(12, some 26), (13, some 27)] ?_
          iterate 2 (refine quiet_ (v := ?_) (a' := ?_) rfl rfl (take_ofW HT_.out HW_.out (by kernel_rfl)) (fun _ _ _ h => h) ⟨by rfl, ?_⟩ hHeld ?_ ?_; rotate_left; (rintro w' ⟨s0, s1⟩; go_simp; with_reducible rfl); rotate_left; (simp only [Act.put, List.setIfInBounds_toArray, List.set_cons_zero, List.set_cons_succ, i64_w, i32_w]; rfl))
          refine schedEnd_ ?_
          refine sched_ [(14, some 28), (15, some 29), (16, some 30), (17, some 31)] ?_
          iterate 4 (refine quietOff_ (a' := ?_) rfl rfl (take_ofW HT_.out HW_.out (by kernel_rfl)) (fun _ _ _ h => h) ⟨by rfl, rfl⟩ hHeld ?_ ?_; rotate_left; (simp only [Act.put, List.setIfInBounds_toArray, List.set_cons_zero, List.set_cons_succ, i64_w, i32_w]; rfl))
          refine schedEnd_ ?_
          refine sched_ [(18, some 32), (19, some 33)] ?_
          iterate 2 (refine quiet_ (v := ?_) (a' := ?_) rfl rfl (take_ofW HT_.out HW_.out (by kernel_rfl)) (fun _ _ _ h => h) ⟨by rfl, ?_⟩ hHeld ?_ ?_; rotate_left; (rintro w' ⟨s0, s1⟩; go_simp; with_reducible rfl); rotate_left; (simp only [Act.put, List.setIfInBounds_toArray, List.set_cons_zero, List.set_cons_succ, i64_w, i32_w]; rfl))
          refine schedEnd_ ?_
          refine sched_ [(20, some 34), (21, some 35), (22, some 36), (23, some 37), (24, some 38), (25, some 39), (26, some 40), (27, some 41), (28, some 42), (29, some 43), (30, some 44), (31, some 45), (32, some 46), (33, some 47)] ?_
          iterate 14 (refine quietOff_ (a' := ?_) rfl rfl (take_ofW HT_.out HW_.out (by kernel_rfl)) (fun _ _ _ h => h) ⟨by rfl, rfl⟩ hHeld ?_ ?_; rotate_left; (simp only [Act.put, List.setIfInBounds_toArray, List.set_cons_zero, List.set_cons_succ, i64_w, i32_w]; rfl))
          refine schedEnd_ ?_
          refine sched_ [(34, some 48)] ?_
          iterate 1 (refine quiet_ (v := ?_) (a' := ?_) rfl rfl (take_ofW HT_.out HW_.out (by kernel_rfl)) (fun _ _ _ h => h) ⟨by rfl, ?_⟩ hHeld ?_ ?_; rotate_left; (rintro w' ⟨s0, s1⟩; go_simp; with_reducible rfl); rotate_left; (simp only [Act.put, List.setIfInBounds_toArray, List.set_cons_zero, List.set_cons_succ, i64_w, i32_w]; rfl))
          refine schedEnd_ ?_
          refine done_ (done_of HT_.out (by kernel_rfl)) ?_
          try go_wp2
          go_meet
          case rel => exact ⟨_, (true), (by first | rfl | (simp; done) | (simp [*]; done)), H', ⟨by have := HK1.out; first | omega | exact Nat.le_refl _⟩, ⟨by (with_reducible repeat (first | refine blk_drewN ?_ _ | refine blk_drew ?_ | refine blk_alloc ?_ _)); exact BK218.out⟩, ⟨by repeat (first | (with_reducible first | exact HB.out | apply below_alloc | apply pw_below_drewN | apply below_drew1 | refine below_set ?_ GE218.out) | exact HB.out)⟩⟩
        rw [if_neg c11] at H
        have c11b0 : decide (((rd_T52 l0 x9_1).f0) < (-1000000)) = false := decide_eq_false c11
        clear c11
        by_cases c14 : ((rd_T52 l0 x9_1).f0) > 1000000
        · rw [if_pos c14] at H
          have c14b0 : decide (1000000 < ((rd_T52 l0 x9_1).f0)) = true := decide_eq_true c14
          clear c14
          have H' := Aside0.mk H
          clear H
          try go_wp2
          have n0_ : Aside0 (((w6.setCell ⟨gb218, 0, none⟩ (.int .i64 ((rd_T52 l0 x9_1).f0))).setCell ⟨gb218, 1, none⟩ (.slice A217_1 ((rd_T52 l0 x9_1).f1).length c217_1)).heap[gb218]? = some (.cells #[.int .i64 ((rd_T52 l0 x9_1).f0), .slice A217_1 ((rd_T52 l0 x9_1).f1).length c217_1] 52 (0, 0))) := ⟨by (with_reducible repeat (first | refine blk_drewN ?_ _ | refine blk_drew ?_ | refine blk_alloc ?_ _)); refine blk_put (cs := #[.int .i64 ((rd_T52 l0 x9_1).f0), .slice none 0 0]) ?_ 1 _ rfl; (with_reducible repeat (first | refine blk_drewN ?_ _ | refine blk_drew ?_ | refine blk_alloc ?_ _)); refine blk_put (cs := #[.int .i64 0, .slice none 0 0]) ?_ 0 _ rfl; (with_reducible repeat (first | refine blk_drewN ?_ _ | refine blk_drew ?_ | refine blk_alloc ?_ _)); exact BK218.out⟩
          have n1_ : Aside0 (Below w.heap.size w ((w6.setCell ⟨gb218, 0, none⟩ (.int .i64 ((rd_T52 l0 x9_1).f0))).setCell ⟨gb218, 1, none⟩ (.slice A217_1 ((rd_T52 l0 x9_1).f1).length c217_1))) := ⟨by repeat (first | (with_reducible first | exact HB.out | apply below_alloc | apply pw_below_drewN | apply below_drew1 | refine below_set ?_ GE218.out) | exact HB.out)⟩
          (try clear BK218)
          (try clear HB)
          generalize ((w6.setCell ⟨gb218, 0, none⟩ (.int .i64 ((rd_T52 l0 x9_1).f0))).setCell ⟨gb218, 1, none⟩ (.slice A217_1 ((rd_T52 l0 x9_1).f1).length c217_1)) = w15 at n0_ n1_ ⊢
          have BK218 := n0_
          have HB := n1_
          clear n0_ n1_
          have n0_ := Aside0.mk (blk_drew BK218.out)
          have n1_ := Aside0.mk (below_drew1 HB.out)
          clear BK218
          clear HB
          have BK218 := n0_
          have HB := n1_
          clear n0_ n1_
          refine start_ (n := 35) (S := fun w' => w'.cell? ⟨gb218, 0, none⟩ = some (.int .i64 ((rd_T52 l0 x9_1).f0)) ∧ w'.cell? ⟨gb218, 1, none⟩ = some (.slice A217_1 ((rd_T52 l0 x9_1).f1).length c217_1)) (ds := []) #[false, false, false, false, false, false, false, false, false, false, false, false, false, false, false, false, false, false, false, false, false, false, false, false, false, false, false, false, false, false, false, false, false, false, false] (by kernel_rfl) rfl rfl ⟨(blk_cell BK218.out 0).trans rfl, (blk_cell BK218.out 1).trans rfl⟩ (fun hHeld => ?_); refine with_tabW impl_ValidPoly.tab4 impl_ValidPoly.bits4 (fun HT_ HW_ => ?_)
          generalize w15.drew = w16 at BK218 HB hHeld ⊢
          refine sched_ [(0, some 14), (1, some 15), (2, some 16), (3, some 17), (4, some 18), (5, some 19), (6, some 20), (7, some 21), (8, some 22), (9, some 23), (10, some 24), (11, some 25), (12, some 26), (13, some 27)] ?_
          iterate 14 (refine quiet_ (v := ?_) (a' := ?_) rfl rfl (take_ofW HT_.out HW_.out (by kernel_rfl)) (fun _ _ _ h => h) ⟨by rfl, ?_⟩ hHeld ?_ ?_; rotate_left; (rintro w' ⟨s0, s1⟩; go_simp; with_reducible rfl); rotate_left; (simp only [Act.put, List.setIfInBounds_toArray, List.set_cons_zero, List.set_cons_succ, i64_w, i32_w]; rfl))
          refine schedEnd_ ?_
          refine sched_ [(14, some 28), (15, some 29), (16, some 30), (17, some 31)] ?_
          iterate 4 (refine quietOff_ (a' := ?_) rfl rfl (take_ofW HT_.out HW_.out (by kernel_rfl)) (fun _ _ _ h => h) ⟨by rfl, rfl⟩ hHeld ?_ ?_; rotate_left; (simp only [Act.put, List.setIfInBounds_toArray, List.set_cons_zero, List.set_cons_succ, i64_w, i32_w]; rfl))
          refine schedEnd_ ?_
          refine sched_ [(18, some 32), (19, some 33)] ?_
          iterate 2 (refine quiet_ (v := ?_) (a' := ?_) rfl rfl (take_ofW HT_.out HW_.out (by kernel_rfl)) (fun _ _ _ h => h) ⟨by rfl, ?_⟩ hHeld ?_ ?_; rotate_left; (rintro w' ⟨s0, s1⟩; go_simp; with_reducible rfl); rotate_left; (simp only [Act.put, List.setIfInBounds_toArray, List.set_cons_zero, List.set_cons_succ, i64_w, i32_w]; rfl))
          refine schedEnd_ ?_
          refine sched_ [(20, some 34), (21, some 35), (22, some 36), (23, some 37), (24, some 38), (25, some 39), (26, some 40), (27, some 41), (28, some 42), (29, some 43), (30, some 44), (31, some 45), (32, some 46), (33, some 47)] ?_
          iterate 14 (refine quietOff_ (a' := ?_) rfl rfl (take_ofW HT_.out HW_.out (by kernel_rfl)) (fun _ _ _ h => h) ⟨by rfl, rfl⟩ hHeld ?_ ?_; rotate_left; (simp only [Act.put, List.setIfInBounds_toArray, List.set_cons_zero, List.set_cons_succ, i64_w, i32_w]; rfl))
          refine schedEnd_ ?_
          refine sched_ [(34, some 48)] ?_
          iterate 1 (refine quiet_ (v := ?_) (a' := ?_) rfl rfl (take_ofW HT_.out HW_.out (by kernel_rfl)) (fun _ _ _ h => h) ⟨by rfl, ?_⟩ hHeld ?_ ?_; rotate_left; (rintro w' ⟨s0, s1⟩; go_simp; with_reducible rfl); rotate_left; (simp only [Act.put, List.setIfInBounds_toArray, List.set_cons_zero, List.set_cons_succ, i64_w, i32_w]; rfl))
          refine schedEnd_ ?_
          refine done_ (done_of HT_.out (by kernel_rfl)) ?_
          try go_wp2
          go_meet
          case rel => exact ⟨_, (true), (by first | rfl | (simp; done) | (simp [*]; done)), H', ⟨by have := HK1.out; first | omega | exact Nat.le_refl _⟩, ⟨by (with_reducible repeat (first | refine blk_drewN ?_ _ | refine blk_drew ?_ | refine blk_alloc ?_ _)); exact BK218.out⟩, ⟨by repeat (first | (with_reducible first | exact HB.out | apply below_alloc | apply pw_below_drewN | apply below_drew1 | refine below_set ?_ GE218.out) | exact HB.out)⟩⟩
        rw [if_neg c14] at H
        have c14b0 : decide (1000000 < ((rd_T52 l0 x9_1).f0)) = false := decide_eq_false c14
        clear c14
        by_cases c17 : (((rd_T52 l0 x9_1).f1).length : Int) > 6
        · rw [if_pos c17] at H
          have c17b0 : decide (6 < (((rd_T52 l0 x9_1).f1).length : Int)) = true := decide_eq_true c17
          have c17b1 : decide (6 < ((rd_T52 l0 x9_1).f1).length) = true := decide_eq_true (by omega)
          clear c17
          have H' := Aside0.mk H
          clear H
          try go_wp2
          have n0_ : Aside0 (((w6.setCell ⟨gb218, 0, none⟩ (.int .i64 ((rd_T52 l0 x9_1).f0))).setCell ⟨gb218, 1, none⟩ (.slice A217_1 ((rd_T52 l0 x9_1).f1).length c217_1)).heap[gb218]? = some (.cells #[.int .i64 ((rd_T52 l0 x9_1).f0), .slice A217_1 ((rd_T52 l0 x9_1).f1).length c217_1] 52 (0, 0))) := ⟨by (with_reducible repeat (first | refine blk_drewN ?_ _ | refine blk_drew ?_ | refine blk_alloc ?_ _)); refine blk_put (cs := #[.int .i64 ((rd_T52 l0 x9_1).f0), .slice none 0 0]) ?_ 1 _ rfl; (with_reducible repeat (first | refine blk_drewN ?_ _ | refine blk_drew ?_ | refine blk_alloc ?_ _)); refine blk_put (cs := #[.int .i64 0, .slice none 0 0]) ?_ 0 _ rfl; (with_reducible repeat (first | refine blk_drewN ?_ _ | refine blk_drew ?_ | refine blk_alloc ?_ _)); exact BK218.out⟩
          have n1_ : Aside0 (Below w.heap.size w ((w6.setCell ⟨gb218, 0, none⟩ (.int .i64 ((rd_T52 l0 x9_1).f0))).setCell ⟨gb218, 1, none⟩ (.slice A217_1 ((rd_T52 l0 x9_1).f1).length c217_1))) := ⟨by repeat (first | (with_reducible first | exact HB.out | apply below_alloc | apply pw_below_drewN | apply below_drew1 | refine below_set ?_ GE218.out) | exact HB.out)⟩
          (try clear BK218)
          (try clear HB)
          generalize ((w6.setCell ⟨gb218, 0, none⟩ (.int .i64 ((rd_T52 l0 x9_1).f0))).setCell ⟨gb218, 1, none⟩ (.slice A217_1 ((rd_T52 l0 x9_1).f1).length c217_1)) = w18 at n0_ n1_ ⊢
          have BK218 := n0_
          have HB := n1_
          clear n0_ n1_
          have n0_ := Aside0.mk (blk_drew BK218.out)
          have n1_ := Aside0.mk (below_drew1 HB.out)
          clear BK218
          clear HB
          have BK218 := n0_
          have HB := n1_
          clear n0_ n1_
          refine start_ (n := 35) (S := fun w' => w'.cell? ⟨gb218, 0, none⟩ = some (.int .i64 ((rd_T52 l0 x9_1).f0)) ∧ w'.cell? ⟨gb218, 1, none⟩ = some (.slice A217_1 ((rd_T52 l0 x9_1).f1).length c217_1)) (ds := []) #[false, false, false, false, false, false, false, false, false, false, false, false, false, false, false, false, false, false, false, false, false, false, false, false, false, false, false, false, false, false, false, false, false, false, false] (by kernel_rfl) rfl rfl ⟨(blk_cell BK218.out 0).trans rfl, (blk_cell BK218.out 1).trans rfl⟩ (fun hHeld => ?_); refine with_tabW impl_ValidPoly.tab4 impl_ValidPoly.bits4 (fun HT_ HW_ => ?_)
          generalize w18.drew = w19 at BK218 HB hHeld ⊢
          refine sched_ [(0, some 14), (1, some 15), (2, some 16), (3, some 17), (4, some 18), (5, some 19), (6, some 20), (7, some 21), (8, some 22), (9, some 23), (10, some 24), (11, some 25), (12, some 26), (13, some 27), (14, some 28), (15, some 29), (16, some 30), (17, some 31), (18, some 32), (19, some 33)] ?_
          iterate 20 (refine quiet_ (v := ?_) (a' := ?_) rfl rfl (take_ofW HT_.out HW_.out (by kernel_rfl)) (fun _ _ _ h => h) ⟨by rfl, ?_⟩ hHeld ?_ ?_; rotate_left; (rintro w' ⟨s0, s1⟩; go_simp; with_reducible rfl); rotate_left; (simp only [Act.put, List.setIfInBounds_toArray, List.set_cons_zero, List.set_cons_succ, i64_w, i32_w]; rfl))
          refine schedEnd_ ?_
          refine sched_ [(20, some 34), (21, some 35), (22, some 36), (23, some 37), (24, some 38), (25, some 39), (26, some 40), (27, some 41), (28, some 42), (29, some 43), (30, some 44), (31, some 45), (32, some 46), (33, some 47)] ?_
          iterate 14 (refine quietOff_ (a' := ?_) rfl rfl (take_ofW HT_.out HW_.out (by kernel_rfl)) (fun _ _ _ h => h) ⟨by rfl, rfl⟩ hHeld ?_ ?_; rotate_left; (simp only [Act.put, List.setIfInBounds_toArray, List.set_cons_zero, List.set_cons_succ, i64_w, i32_w]; rfl))
          refine schedEnd_ ?_
          refine sched_ [(34, some 48)] ?_
          iterate 1 (refine quiet_ (v := ?_) (a' := ?_) rfl rfl (take_ofW HT_.out HW_.out (by kernel_rfl)) (fun _ _ _ h => h) ⟨by rfl, ?_⟩ hHeld ?_ ?_; rotate_left; (rintro w' ⟨s0, s1⟩; go_simp; with_reducible rfl); rotate_left; (simp only [Act.put, List.setIfInBounds_toArray, List.set_cons_zero, List.set_cons_succ, i64_w, i32_w]; rfl))
          refine schedEnd_ ?_
          refine done_ (done_of HT_.out (by kernel_rfl)) ?_
          try go_wp2
          go_meet
          case rel => exact ⟨_, (true), (by first | rfl | (simp; done) | (simp [*]; done)), H', ⟨by have := HK1.out; first | omega | exact Nat.le_refl _⟩, ⟨by (with_reducible repeat (first | refine blk_drewN ?_ _ | refine blk_drew ?_ | refine blk_alloc ?_ _)); exact BK218.out⟩, ⟨by repeat (first | (with_reducible first | exact HB.out | apply below_alloc | apply pw_below_drewN | apply below_drew1 | refine below_set ?_ GE218.out) | exact HB.out)⟩⟩
        rw [if_neg c17] at H
        have c17b0 : decide (6 < (((rd_T52 l0 x9_1).f1).length : Int)) = false := decide_eq_false c17
        have c17b1 : decide (6 < ((rd_T52 l0 x9_1).f1).length) = false := decide_eq_false (by omega)
        clear c17
        by_cases c20 : x9_1 > 0
        rotate_left
        · rw [if_neg c20] at H
          have c20b0 : decide (0 < x9_1) = false := decide_eq_false c20
          clear c20
          have H' := Aside0.mk H
          clear H
          try go_wp2
          have n0_ : Aside0 (((w6.setCell ⟨gb218, 0, none⟩ (.int .i64 ((rd_T52 l0 x9_1).f0))).setCell ⟨gb218, 1, none⟩ (.slice A217_1 ((rd_T52 l0 x9_1).f1).length c217_1)).heap[gb218]? = some (.cells #[.int .i64 ((rd_T52 l0 x9_1).f0), .slice A217_1 ((rd_T52 l0 x9_1).f1).length c217_1] 52 (0, 0))) := ⟨by (with_reducible repeat (first | refine blk_drewN ?_ _ | refine blk_drew ?_ | refine blk_alloc ?_ _)); refine blk_put (cs := #[.int .i64 ((rd_T52 l0 x9_1).f0), .slice none 0 0]) ?_ 1 _ rfl; (with_reducible repeat (first | refine blk_drewN ?_ _ | refine blk_drew ?_ | refine blk_alloc ?_ _)); refine blk_put (cs := #[.int .i64 0, .slice none 0 0]) ?_ 0 _ rfl; (with_reducible repeat (first | refine blk_drewN ?_ _ | refine blk_drew ?_ | refine blk_alloc ?_ _)); exact BK218.out⟩
          have n1_ : Aside0 (Below w.heap.size w ((w6.setCell ⟨gb218, 0, none⟩ (.int .i64 ((rd_T52 l0 x9_1).f0))).setCell ⟨gb218, 1, none⟩ (.slice A217_1 ((rd_T52 l0 x9_1).f1).length c217_1))) := ⟨by repeat (first | (with_reducible first | exact HB.out | apply below_alloc | apply pw_below_drewN | apply below_drew1 | refine below_set ?_ GE218.out) | exact HB.out)⟩
          (try clear BK218)
          (try clear HB)
          generalize ((w6.setCell ⟨gb218, 0, none⟩ (.int .i64 ((rd_T52 l0 x9_1).f0))).setCell ⟨gb218, 1, none⟩ (.slice A217_1 ((rd_T52 l0 x9_1).f1).length c217_1)) = w27 at n0_ n1_ ⊢
          have BK218 := n0_
          have HB := n1_
          clear n0_ n1_
          have n0_ := Aside0.mk (blk_drew BK218.out)
          have n1_ := Aside0.mk (below_drew1 HB.out)
          clear BK218
          clear HB
          have BK218 := n0_
          have HB := n1_
          clear n0_ n1_
          refine start_ (n := 35) (S := fun w' => w'.cell? ⟨gb218, 0, none⟩ = some (.int .i64 ((rd_T52 l0 x9_1).f0)) ∧ w'.cell? ⟨gb218, 1, none⟩ = some (.slice A217_1 ((rd_T52 l0 x9_1).f1).length c217_1)) (ds := []) #[false, false, false, false, false, false, false, false, false, false, false, false, false, false, false, false, false, false, false, false, false, false, false, false, false, false, false, false, false, false, false, false, false, false, false] (by kernel_rfl) rfl rfl ⟨(blk_cell BK218.out 0).trans rfl, (blk_cell BK218.out 1).trans rfl⟩ (fun hHeld => ?_); refine with_tabW impl_ValidPoly.tab4 impl_ValidPoly.bits4 (fun HT_ HW_ => ?_)
          generalize w27.drew = w28 at BK218 HB hHeld ⊢
          refine sched_ [(0, some 14), (1, some 15), (2, some 16), (3, some 17), (4, some 18), (5, some 19), (6, some 20), (7, some 21), (8, some 22), (9, some 23), (10, some 24), (11, some 25), (12, some 26), (13, some 27), (14, some 28), (15, some 29), (16, some 30), (17, some 31), (18, some 32), (19, some 33), (20, some 34), (21, some 35), (22, some 36)] ?_
          iterate 23 (refine quiet_ (v := ?_) (a' := ?_) rfl rfl (take_ofW HT_.out HW_.out (by kernel_rfl)) (fun _ _ _ h => h) ⟨by rfl, ?_⟩ hHeld ?_ ?_; rotate_left; (rintro w' ⟨s0, s1⟩; go_simp; with_reducible rfl); rotate_left; (simp only [Act.put, List.setIfInBounds_toArray, List.set_cons_zero, List.set_cons_succ, i64_w, i32_w]; rfl))
          refine schedEnd_ ?_
          refine sched_ [(23, some 37), (24, some 38), (25, some 39), (26, some 40), (27, some 41), (28, some 42), (29, some 43), (30, some 44), (31, some 45), (32, some 46)] ?_
          iterate 10 (refine quietOff_ (a' := ?_) rfl rfl (take_ofW HT_.out HW_.out (by kernel_rfl)) (fun _ _ _ h => h) ⟨by rfl, rfl⟩ hHeld ?_ ?_; rotate_left; (simp only [Act.put, List.setIfInBounds_toArray, List.set_cons_zero, List.set_cons_succ, i64_w, i32_w]; rfl))
          refine schedEnd_ ?_
          refine sched_ [(33, some 47), (34, some 48)] ?_
          iterate 2 (refine quiet_ (v := ?_) (a' := ?_) rfl rfl (take_ofW HT_.out HW_.out (by kernel_rfl)) (fun _ _ _ h => h) ⟨by rfl, ?_⟩ hHeld ?_ ?_; rotate_left; (rintro w' ⟨s0, s1⟩; go_simp; with_reducible rfl); rotate_left; (simp only [Act.put, List.setIfInBounds_toArray, List.set_cons_zero, List.set_cons_succ, i64_w, i32_w]; rfl))
          refine schedEnd_ ?_
          refine done_ (done_of HT_.out (by kernel_rfl)) ?_
          try go_wp2
          go_meet
          case rel => exact ⟨_, (false), (by first | rfl | (simp; done) | (simp [*]; done)), H', ⟨by have := HK1.out; first | omega | exact Nat.le_refl _⟩, ⟨by (with_reducible repeat (first | refine blk_drewN ?_ _ | refine blk_drew ?_ | refine blk_alloc ?_ _)); exact BK218.out⟩, ⟨by repeat (first | (with_reducible first | exact HB.out | apply below_alloc | apply pw_below_drewN | apply below_drew1 | refine below_set ?_ GE218.out) | exact HB.out)⟩⟩
        rw [if_pos c20] at H
        have c20b0 : decide (0 < x9_1) = true := decide_eq_true c20
        clear c20
        obtain ⟨ji21, hji21⟩ : ∃ j_ : Int, (wrap64 (x9_1 - 1)) = j_ := ⟨_, rfl⟩
        replace H : (if 0 ≤ (ji21) then (if (ji21) < (l0.length : Int) then ((impl_RowLess.f k1 ((rd_T52 l0 (ji21)).f1) ((rd_T52 l0 x9_1).f1)).bind fun t220 => (impl_ValidPoly.j1 k1 l0 l0 (l0.length : Int) x9_1 (!t220) ((rd_T52 l0 x9_1).f0) ((rd_T52 l0 x9_1).f1))) else (none)) else (none)) = some r := by first | (rw [hji21] at H; exact H) | (simp only [hji21] at H ⊢; exact H)
        have hji21w : (IntKind.i64.wrap (x9_1 - 1)) = ji21 := (i64_w _).trans hji21
        by_cases c22 : 0 ≤ (ji21)
        rotate_left
        · rw [if_neg c22] at H
          exact absurd H (by simp)
        rw [if_pos c22] at H
        have c22b0 : decide (0 ≤ (ji21)) = true := decide_eq_true c22
        clear c22
        by_cases c23 : (ji21) < (l0.length : Int)
        rotate_left
        · rw [if_neg c23] at H
          exact absurd H (by simp)
        rw [if_pos c23] at H
        have c23b0 : decide ((ji21) < (l0.length : Int)) = true := decide_eq_true c23
        clear c23
        replace H := Option.bind_eq_some_iff.mp H
        obtain ⟨t220, A240, H⟩ := H
        replace H : (impl_ValidPoly.j1 k1 l0 l0 (l0.length : Int) x9_1 (!t220) ((rd_T52 l0 x9_1).f0) ((rd_T52 l0 x9_1).f1)) = some r := H
        have A24 := Aside0.mk A240
        clear A240
        have H' := Aside0.mk H
        clear H
        try go_wp2
        have n0_ : Aside0 (((w6.setCell ⟨gb218, 0, none⟩ (.int .i64 ((rd_T52 l0 x9_1).f0))).setCell ⟨gb218, 1, none⟩ (.slice A217_1 ((rd_T52 l0 x9_1).f1).length c217_1)).heap[gb218]? = some (.cells #[.int .i64 ((rd_T52 l0 x9_1).f0), .slice A217_1 ((rd_T52 l0 x9_1).f1).length c217_1] 52 (0, 0))) := ⟨by (with_reducible repeat (first | refine blk_drewN ?_ _ | refine blk_drew ?_ | refine blk_alloc ?_ _)); refine blk_put (cs := #[.int .i64 ((rd_T52 l0 x9_1).f0), .slice none 0 0]) ?_ 1 _ rfl; (with_reducible repeat (first | refine blk_drewN ?_ _ | refine blk_drew ?_ | refine blk_alloc ?_ _)); refine blk_put (cs := #[.int .i64 0, .slice none 0 0]) ?_ 0 _ rfl; (with_reducible repeat (first | refine blk_drewN ?_ _ | refine blk_drew ?_ | refine blk_alloc ?_ _)); exact BK218.out⟩
        have n1_ : Aside0 (Below w.heap.size w ((w6.setCell ⟨gb218, 0, none⟩ (.int .i64 ((rd_T52 l0 x9_1).f0))).setCell ⟨gb218, 1, none⟩ (.slice A217_1 ((rd_T52 l0 x9_1).f1).length c217_1))) := ⟨by repeat (first | (with_reducible first | exact HB.out | apply below_alloc | apply pw_below_drewN | apply below_drew1 | refine below_set ?_ GE218.out) | exact HB.out)⟩
        (try clear BK218)
        (try clear HB)
        generalize ((w6.setCell ⟨gb218, 0, none⟩ (.int .i64 ((rd_T52 l0 x9_1).f0))).setCell ⟨gb218, 1, none⟩ (.slice A217_1 ((rd_T52 l0 x9_1).f1).length c217_1)) = w25 at n0_ n1_ ⊢
        have BK218 := n0_
        have HB := n1_
        clear n0_ n1_
        have n0_ := Aside0.mk (blk_drew BK218.out)
        have n1_ := Aside0.mk (below_drew1 HB.out)
        clear BK218
        clear HB
        have BK218 := n0_
        have HB := n1_
        clear n0_ n1_
        have p219 : 0 ≤ ((ji21) : Int) := of_decide_eq_true (by first | (with_reducible assumption) | assumption)
        have q219 : (ji21) < (l0.length : Int) := of_decide_eq_true (by first | (with_reducible assumption) | assumption)
        obtain ⟨ad219, A219_1, c219_1, e219, hx219_0, hx219_1, hl219_1, hi219_1⟩ := at_T52 HR0.out (ji21) p219 q219
        have hw219_1 := hx219_1
        have hw219_0 := hx219_0
        obtain rfl : ad217 = ad219 := (by injection e219)
        replace hx219_0 := (HB.out.cell (World.block_lt_of_cell? w _ hx219_0)).trans hx219_0
        replace hx219_1 := (HB.out.cell (World.block_lt_of_cell? w _ hx219_1)).trans hx219_1
        have HR219_1 := Aside0.mk hi219_1
        have HC219_1 := Aside0.mk hl219_1
        clear hi219_1 hl219_1
        replace p219 := eq_true p219
        replace q219 := eq_true q219
        refine start_ (n := 35) (S := fun w' => w'.cell? ⟨gb218, 0, none⟩ = some (.int .i64 ((rd_T52 l0 x9_1).f0)) ∧ w'.cell? ⟨gb218, 1, none⟩ = some (.slice A217_1 ((rd_T52 l0 x9_1).f1).length c217_1) ∧ w'.cell? (ad217.add (((ji21)).toNat * 2)) = some (.int .i64 ((rd_T52 l0 (ji21)).f0)) ∧ w'.cell? ⟨(ad217.add (((ji21)).toNat * 2)).block, (ad217.add (((ji21)).toNat * 2)).off + 1, none⟩ = some (.slice A219_1 ((rd_T52 l0 (ji21)).f1).length c219_1)) (ds := []) #[false, false, false, false, false, false, false, false, false, false, false, false, false, false, false, false, false, false, false, false, false, false, false, false, false, false, false, false, false, false, false, false, false, false, false] (by kernel_rfl) rfl rfl ⟨(blk_cell BK218.out 0).trans rfl, (blk_cell BK218.out 1).trans rfl, ((HB.out.cell (World.block_lt_of_cell? w _ hw219_0)).trans hw219_0), ((HB.out.cell (World.block_lt_of_cell? w _ hw219_1)).trans hw219_1)⟩ (fun hHeld => ?_); refine with_tabW impl_ValidPoly.tab4 impl_ValidPoly.bits4 (fun HT_ HW_ => ?_)
        generalize w25.drew = w26 at BK218 HB HR219_1 hx219_0 hx219_1 hHeld ⊢
        refine sched_ [(0, some 14), (1, some 15), (2, some 16), (3, some 17), (4, some 18), (5, some 19), (6, some 20), (7, some 21), (8, some 22), (9, some 23), (10, some 24), (11, some 25), (12, some 26), (13, some 27), (14, some 28), (15, some 29), (16, some 30), (17, some 31), (18, some 32), (19, some 33), (20, some 34), (21, some 35), (22, some 36), (23, some 37), (24, some 38), (25, some 39), (26, some 40), (27, some 41), (29, some 43), (28, some 42), (30, some 44)] ?_
        iterate 31 (refine quiet_ (v := ?_) (a' := ?_) rfl rfl (take_ofW HT_.out HW_.out (by kernel_rfl)) (fun _ _ _ h => h) ⟨by rfl, ?_⟩ hHeld ?_ ?_; rotate_left; (rintro w' ⟨s0, s1, s2, s3⟩; go_simp; with_reducible rfl); rotate_left; (simp only [Act.put, List.setIfInBounds_toArray, List.set_cons_zero, List.set_cons_succ, i64_w, i32_w]; rfl))
        refine schedEnd_ ?_
        refine one_ (i := 31) (N := some 45) #[true, true, true, true, true, true, true, true, true, true, true, true, true, true, true, true, true, true, true, true, true, true, true, true, true, true, true, true, true, true, true, true, false, false, false] rfl rfl (one_of HT_.out (by kernel_rfl)) (by decide) (fun K hK => ?_)
        refine goes_ Try.func42 (by kernel_rfl) rfl #[.slice A219_1 ((rd_T52 l0 (ji21)).f1).length c219_1, .slice A217_1 ((rd_T52 l0 x9_1).f1).length c217_1] (by rfl) rfl rfl (by (try simp only [List.map_toArray, List.map_cons, List.map_nil]); first | done | (simp only [hji21]; rfl) | rfl | (simp only [List.length_drop, List.length_take]; rfl)) ?_
        with_reducible refine (impl_RowLess.calls k1 _ _ ((rd_T52 l0 (ji21)).f1) _ _ ((rd_T52 l0 x9_1).f1) t220 _ ?side1 ?side2 ?side3 ?side4 A24.out).mono ?_
        (case side1 => repeat (first | exact (Kd.C_below HR219_1.out HB.out) | (with_reducible refine Kd.C_alloc ?_ _) | (with_reducible refine Kd.C_drewN ?_ _) | (with_reducible refine Kd.C_drew ?_)))
        (case side2 => exact HC219_1.out)
        (case side3 => repeat (first | exact (Kd.C_below HR217_1.out HB.out) | (with_reducible refine Kd.C_alloc ?_ _) | (with_reducible refine Kd.C_drewN ?_ _) | (with_reducible refine Kd.C_drew ?_)))
        (case side4 => exact HC217_1.out)
        rintro e w' ⟨rfl, ⟨nd, rfl⟩⟩
        refine ⟨_, rfl, ?_⟩
        refine hK.out _ _ ⟨(blk_cell BK218.out 0).trans rfl, (blk_cell BK218.out 1).trans rfl, ((HB.out.cell (World.block_lt_of_cell? w _ hw219_0)).trans hw219_0), ((HB.out.cell (World.block_lt_of_cell? w _ hw219_1)).trans hw219_1)⟩ (fun hHeld => ?_)
        clear hK K
        refine norm_ (a' := ?_) ?_ ?_
        rotate_left
        · show Act.put _ (some 45) _ = _
          simp only [Act.put, List.setIfInBounds_toArray, List.set_cons_zero, List.set_cons_succ, i64_w, i32_w]
          rfl
        refine sched_ [(32, some 46), (33, some 47), (34, some 48)] ?_
        iterate 3 (refine quiet_ (v := ?_) (a' := ?_) rfl rfl (take_ofW HT_.out HW_.out (by kernel_rfl)) (fun _ _ _ h => h) ⟨by rfl, ?_⟩ hHeld ?_ ?_; rotate_left; (rintro w' ⟨s0, s1, s2, s3⟩; go_simp; with_reducible rfl); rotate_left; (simp only [Act.put, List.setIfInBounds_toArray, List.set_cons_zero, List.set_cons_succ, i64_w, i32_w]; rfl))
        refine schedEnd_ ?_
        refine done_ (done_of HT_.out (by kernel_rfl)) ?_
        try go_wp2
        go_meet
        case rel => exact ⟨_, (!t220), (by first | rfl | (simp; done) | (simp [*]; done)), H', ⟨by have := HK1.out; first | omega | exact Nat.le_refl _⟩, ⟨by (with_reducible repeat (first | refine blk_drewN ?_ _ | refine blk_drew ?_ | refine blk_alloc ?_ _)); exact BK218.out⟩, ⟨by repeat (first | (with_reducible first | exact HB.out | apply below_alloc | apply pw_below_drewN | apply below_drew1 | refine below_set ?_ GE218.out) | exact HB.out)⟩⟩
      case rest =>
        clear HC5
        try clear c1
        try clear c2
        try clear c2b0
        try clear p2
        try clear q2
        try clear hx2
        try clear c3
        try clear c3b0
        try clear c4
        try clear c4b0
        try clear p6
        try clear c8
        try clear c8b0
        try clear c8b1
        try clear c11
        try clear c11b0
        try clear c14
        try clear c14b0
        try clear c15
        try clear c17
        try clear c17b0
        try clear c17b1
        try clear c20
        try clear c20b0
        try clear c21
        try clear p21
        try clear q21
        try clear hx21
        try clear c22
        try clear c22b0
        try clear c23
        try clear c23b0
        try clear hcz7_0
        try clear hcz7_1
        try clear hfz7_0
        try clear hfz7_1
        try clear hx217_0
        try clear hx217_1
        try clear hx219_0
        try clear hx219_1
        try clear p217
        try clear p219
        try clear q217
        try clear q219
        obtain ⟨kq, x48_4, rfl, HA, HJ4, BK218, HB⟩ := hcut
        cases kq with
        | zero => exact absurd HA.out (by simp [impl_ValidPoly.j1])
        | succ kj4 =>
          have H := HA.out
          clear HA
          simp only [impl_ValidPoly.j1] at H
          by_cases c29 : x48_4 = true
          · subst c29
            have H1 : (some false) = some r := by rw [if_pos rfl] at H; exact H
            clear H
            have H := H1
            clear H1
            obtain rfl := Option.some.inj H
            go_wp2
            go_ret
            exact ⟨by first | rfl | (simp [errW_none, errW_some] <;> rfl) | (simp [*, errW_none, errW_some] <;> rfl), by repeat (first | (with_reducible first | exact HB.out | apply below_alloc | apply pw_below_drewN | apply below_drew1 | refine below_set ?_ GE218.out) | exact HB.out)⟩
          replace c29 := Bool.eq_false_iff.mpr c29
          subst c29
          have H1 : (impl_ValidPoly.l1 kj4 l0 l0 (l0.length : Int) x9_1 ((rd_T52 l0 x9_1).f1) (((rd_T52 l0 x9_1).f1).length : Int) 0 ((rd_T52 l0 x9_1).f0) ((rd_T52 l0 x9_1).f1)) = some r := by rw [if_neg (show ¬ (false = true) by decide)] at H; exact H
          clear H
          have H := H1
          clear H1
          have H' := Aside0.mk H
          clear H
          have hcz30_0 : wc.cell? ⟨gb218, 0, none⟩ = some (.int .i64 ((rd_T52 l0 x9_1).f0)) := (blk_cell BK218.out 0).trans rfl
          have hcz30_1 : wc.cell? ⟨gb218, 1, none⟩ = some (.slice A217_1 ((rd_T52 l0 x9_1).f1).length c217_1) := (blk_cell BK218.out 1).trans rfl
          have hfz30_0 := blk_frozen BK218.out 0
          have hfz30_1 := blk_frozen BK218.out 1
          go_wp2
          go_loopg [52] kj4 (fun kq v52 w' => ∃ (x52_3 : Int), v52 = .int .i64 x52_3 ∧ Aside0 (impl_ValidPoly.l1 kq l0 l0 (l0.length : Int) x9_1 ((rd_T52 l0 x9_1).f1) (((rd_T52 l0 x9_1).f1).length : Int) x52_3 ((rd_T52 l0 x9_1).f0) ((rd_T52 l0 x9_1).f1) = some r) ∧ Aside0 (kq ≤ kj4) ∧ Aside0 (w'.heap[gb218]? = some (.cells #[.int .i64 ((rd_T52 l0 x9_1).f0), (.slice A217_1 ((rd_T52 l0 x9_1).f1).length c217_1)] 52 (0, 0))) ∧ Aside0 (Below w.heap.size w w'))
          case atStart => exact ⟨(0), (by first | rfl | (simp; done) | (simp [*]; done)), H', ⟨Nat.le_refl _⟩, ⟨by (with_reducible repeat (first | refine blk_drewN ?_ _ | refine blk_drew ?_ | refine blk_alloc ?_ _)); exact BK218.out⟩, ⟨by repeat (first | (with_reducible first | exact HB.out | apply below_alloc | apply pw_below_drewN | apply below_drew1 | refine below_set ?_ GE218.out) | exact HB.out)⟩⟩
          case round =>
            clear H'
            try clear c1
            try clear c2
            try clear c2b0
            try clear p2
            try clear q2
            try clear hx2
            try clear c3
            try clear c3b0
            try clear c4
            try clear c4b0
            try clear p6
            try clear c8
            try clear c8b0
            try clear c8b1
            try clear c11
            try clear c11b0
            try clear c14
            try clear c14b0
            try clear c15
            try clear c17
            try clear c17b0
            try clear c17b1
            try clear c20
            try clear c20b0
            try clear c21
            try clear p21
            try clear q21
            try clear hx21
            try clear c22
            try clear c22b0
            try clear c23
            try clear c23b0
            try clear c29
            try clear hcz30_0
            try clear hcz30_1
            try clear hcz7_0
            try clear hcz7_1
            try clear hfz30_0
            try clear hfz30_1
            try clear hfz7_0
            try clear hfz7_1
            try clear hx217_0
            try clear hx217_1
            try clear hx219_0
            try clear hx219_1
            try clear p2
            try clear p21
            try clear p217
            try clear p219
            try clear p6
            try clear q2
            try clear q21
            try clear q217
            try clear q219
            obtain ⟨x52_3, rfl, HA, HK3, BK218, HB⟩ := hrel
            cases gk with
            | zero => exact absurd HA.out (by simp [impl_ValidPoly.l1])
            | succ k3 =>
              have H := HA.out
              clear HA
              simp only [impl_ValidPoly.l1] at H
              by_cases c31 : x52_3 < (((rd_T52 l0 x9_1).f1).length : Int)
              rotate_left
              · rw [if_neg c31] at H
                have c31b0 : decide (x52_3 < (((rd_T52 l0 x9_1).f1).length : Int)) = false := decide_eq_false c31
                clear c31
                have H' := Aside0.mk H
                clear H
                go_wp2
                go_roundg k3
                case measure => have := HK1.out; have := HJ4.out; have := HK3.out; omega
                case rel => exact ⟨(wrap64 (x9_1 + 1)), (by first | rfl | (simp; done) | (simp [*]; done)), H', ⟨by have := HK1.out; have := HJ4.out; have := HK3.out; omega⟩, ⟨by repeat (first | (with_reducible first | exact HB.out | apply below_alloc | apply pw_below_drewN | apply below_drew1 | refine below_set ?_ GE218.out) | exact HB.out)⟩⟩
              rw [if_pos c31] at H
              have c31b0 : decide (x52_3 < (((rd_T52 l0 x9_1).f1).length : Int)) = true := decide_eq_true c31
              clear c31
              by_cases c32 : 0 ≤ x52_3
              rotate_left
              · rw [if_neg c32] at H
                exact absurd H (by simp)
              rw [if_pos c32] at H
              have c32b0 : decide (0 ≤ x52_3) = true := decide_eq_true c32
              clear c32
              by_cases c33 : x52_3 < (((rd_T52 l0 x9_1).f1).length : Int)
              rotate_left
              · rw [if_neg c33] at H
                exact absurd H (by simp)
              rw [if_pos c33] at H
              have c33b0 : decide (x52_3 < (((rd_T52 l0 x9_1).f1).length : Int)) = true := decide_eq_true c33
              clear c33
              by_cases c34 : (rd ((rd_T52 l0 x9_1).f1) x52_3) < 0
              · rw [if_pos c34] at H
                have c34b0 : decide ((rd ((rd_T52 l0 x9_1).f1) x52_3) < 0) = true := decide_eq_true c34
                clear c34
                obtain rfl := Option.some.inj H
                have p221 : 0 ≤ (x52_3 : Int) := of_decide_eq_true (by first | (with_reducible assumption) | assumption)
                have q221 : x52_3 < (((rd_T52 l0 x9_1).f1).length : Int) := of_decide_eq_true (by first | (with_reducible assumption) | assumption)
                obtain ⟨ad221, e221, hx221_0⟩ := Kd.at_int HR217_1.out x52_3 p221 q221
                cases e221
                replace hx221_0 := (HB.out.cell (World.block_lt_of_cell? w _ hx221_0)).trans hx221_0
                replace p221 := eq_true p221
                replace q221 := eq_true q221
                go_wp2
                go_ret
                exact ⟨by first | rfl | (simp [errW_none, errW_some] <;> rfl) | (simp [*, errW_none, errW_some] <;> rfl), by repeat (first | (with_reducible first | exact HB.out | apply below_alloc | apply pw_below_drewN | apply below_drew1 | refine below_set ?_ GE218.out) | exact HB.out)⟩
              rw [if_neg c34] at H
              have c34b0 : decide ((rd ((rd_T52 l0 x9_1).f1) x52_3) < 0) = false := decide_eq_false c34
              clear c34
              by_cases c35 : (rd ((rd_T52 l0 x9_1).f1) x52_3) > 299
              · rw [if_pos c35] at H
                have c35b0 : decide (299 < (rd ((rd_T52 l0 x9_1).f1) x52_3)) = true := decide_eq_true c35
                clear c35
                obtain rfl := Option.some.inj H
                have p221 : 0 ≤ (x52_3 : Int) := of_decide_eq_true (by first | (with_reducible assumption) | assumption)
                have q221 : x52_3 < (((rd_T52 l0 x9_1).f1).length : Int) := of_decide_eq_true (by first | (with_reducible assumption) | assumption)
                obtain ⟨ad221, e221, hx221_0⟩ := Kd.at_int HR217_1.out x52_3 p221 q221
                cases e221
                replace hx221_0 := (HB.out.cell (World.block_lt_of_cell? w _ hx221_0)).trans hx221_0
                replace p221 := eq_true p221
                replace q221 := eq_true q221
                go_wp2
                go_ret
                exact ⟨by first | rfl | (simp [errW_none, errW_some] <;> rfl) | (simp [*, errW_none, errW_some] <;> rfl), by repeat (first | (with_reducible first | exact HB.out | apply below_alloc | apply pw_below_drewN | apply below_drew1 | refine below_set ?_ GE218.out) | exact HB.out)⟩
              rw [if_neg c35] at H
              have c35b0 : decide (299 < (rd ((rd_T52 l0 x9_1).f1) x52_3)) = false := decide_eq_false c35
              clear c35
              by_cases c36 : x52_3 > 0
              rotate_left
              · rw [if_neg c36] at H
                have c36b0 : decide (0 < x52_3) = false := decide_eq_false c36
                clear c36
                have H' := Aside0.mk H
                clear H
                have p221 : 0 ≤ (x52_3 : Int) := of_decide_eq_true (by first | (with_reducible assumption) | assumption)
                have q221 : x52_3 < (((rd_T52 l0 x9_1).f1).length : Int) := of_decide_eq_true (by first | (with_reducible assumption) | assumption)
                obtain ⟨ad221, e221, hx221_0⟩ := Kd.at_int HR217_1.out x52_3 p221 q221
                cases e221
                replace hx221_0 := (HB.out.cell (World.block_lt_of_cell? w _ hx221_0)).trans hx221_0
                replace p221 := eq_true p221
                replace q221 := eq_true q221
                go_wp2
                go_roundg k3
                case measure => have := HK1.out; have := HJ4.out; have := HK3.out; omega
                case rel => exact ⟨(wrap64 (x52_3 + 1)), (by first | rfl | (simp; done) | (simp [*]; done)), H', ⟨by have := HK1.out; have := HJ4.out; have := HK3.out; omega⟩, ⟨by (with_reducible repeat (first | refine blk_drewN ?_ _ | refine blk_drew ?_ | refine blk_alloc ?_ _)); exact BK218.out⟩, ⟨by repeat (first | (with_reducible first | exact HB.out | apply below_alloc | apply pw_below_drewN | apply below_drew1 | refine below_set ?_ GE218.out) | exact HB.out)⟩⟩
              rw [if_pos c36] at H
              have c36b0 : decide (0 < x52_3) = true := decide_eq_true c36
              clear c36
              obtain ⟨ji37, hji37⟩ : ∃ j_ : Int, (wrap64 (x52_3 - 1)) = j_ := ⟨_, rfl⟩
              replace H : (if 0 ≤ (ji37) then (if (ji37) < (((rd_T52 l0 x9_1).f1).length : Int) then (if (rd ((rd_T52 l0 x9_1).f1) x52_3) < (rd ((rd_T52 l0 x9_1).f1) (ji37)) then (some false) else (impl_ValidPoly.l1 k3 l0 l0 (l0.length : Int) x9_1 ((rd_T52 l0 x9_1).f1) (((rd_T52 l0 x9_1).f1).length : Int) (wrap64 (x52_3 + 1)) ((rd_T52 l0 x9_1).f0) ((rd_T52 l0 x9_1).f1))) else (none)) else (none)) = some r := by first | (rw [hji37] at H; exact H) | (simp only [hji37] at H ⊢; exact H)
              have hji37w : (IntKind.i64.wrap (x52_3 - 1)) = ji37 := (i64_w _).trans hji37
              by_cases c38 : 0 ≤ (ji37)
              rotate_left
              · rw [if_neg c38] at H
                exact absurd H (by simp)
              rw [if_pos c38] at H
              have c38b0 : decide (0 ≤ (ji37)) = true := decide_eq_true c38
              clear c38
              by_cases c39 : (ji37) < (((rd_T52 l0 x9_1).f1).length : Int)
              rotate_left
              · rw [if_neg c39] at H
                exact absurd H (by simp)
              rw [if_pos c39] at H
              have c39b0 : decide ((ji37) < (((rd_T52 l0 x9_1).f1).length : Int)) = true := decide_eq_true c39
              clear c39
              by_cases c40 : (rd ((rd_T52 l0 x9_1).f1) x52_3) < (rd ((rd_T52 l0 x9_1).f1) (ji37))
              · rw [if_pos c40] at H
                have c40b0 : decide ((rd ((rd_T52 l0 x9_1).f1) x52_3) < (rd ((rd_T52 l0 x9_1).f1) (ji37))) = true := decide_eq_true c40
                clear c40
                obtain rfl := Option.some.inj H
                have p221 : 0 ≤ (x52_3 : Int) := of_decide_eq_true (by first | (with_reducible assumption) | assumption)
                have q221 : x52_3 < (((rd_T52 l0 x9_1).f1).length : Int) := of_decide_eq_true (by first | (with_reducible assumption) | assumption)
                obtain ⟨ad221, e221, hx221_0⟩ := Kd.at_int HR217_1.out x52_3 p221 q221
                cases e221
                replace hx221_0 := (HB.out.cell (World.block_lt_of_cell? w _ hx221_0)).trans hx221_0
                replace p221 := eq_true p221
                replace q221 := eq_true q221
                have hcz41_0 : wr.cell? ⟨gb218, 0, none⟩ = some (.int .i64 ((rd_T52 l0 x9_1).f0)) := (blk_cell BK218.out 0).trans rfl
                have hcz41_1 : wr.cell? ⟨gb218, 1, none⟩ = some (.slice (some ad221) ((rd_T52 l0 x9_1).f1).length c217_1) := (blk_cell BK218.out 1).trans rfl
                have hfz41_0 := blk_frozen BK218.out 0
                have hfz41_1 := blk_frozen BK218.out 1
                have p222 : 0 ≤ ((ji37) : Int) := of_decide_eq_true (by first | (with_reducible assumption) | assumption)
                have q222 : (ji37) < (((rd_T52 l0 x9_1).f1).length : Int) := of_decide_eq_true (by first | (with_reducible assumption) | assumption)
                obtain ⟨ad222, e222, hx222_0⟩ := Kd.at_int HR217_1.out (ji37) p222 q222
                obtain rfl : ad221 = ad222 := (by injection e222)
                replace hx222_0 := (HB.out.cell (World.block_lt_of_cell? w _ hx222_0)).trans hx222_0
                replace p222 := eq_true p222
                replace q222 := eq_true q222
                go_wp2
                go_ret
                exact ⟨by first | rfl | (simp [errW_none, errW_some] <;> rfl) | (simp only [← hji37]; first | rfl | (simp [errW_none, errW_some] <;> rfl)) | (simp [*, errW_none, errW_some] <;> rfl), by repeat (first | (with_reducible first | exact HB.out | apply below_alloc | apply pw_below_drewN | apply below_drew1 | refine below_set ?_ GE218.out) | exact HB.out)⟩
              rw [if_neg c40] at H
              have c40b0 : decide ((rd ((rd_T52 l0 x9_1).f1) x52_3) < (rd ((rd_T52 l0 x9_1).f1) (ji37))) = false := decide_eq_false c40
              clear c40
              have H' := Aside0.mk H
              clear H
              have p221 : 0 ≤ (x52_3 : Int) := of_decide_eq_true (by first | (with_reducible assumption) | assumption)
              have q221 : x52_3 < (((rd_T52 l0 x9_1).f1).length : Int) := of_decide_eq_true (by first | (with_reducible assumption) | assumption)
              obtain ⟨ad221, e221, hx221_0⟩ := Kd.at_int HR217_1.out x52_3 p221 q221
              cases e221
              replace hx221_0 := (HB.out.cell (World.block_lt_of_cell? w _ hx221_0)).trans hx221_0
              replace p221 := eq_true p221
              replace q221 := eq_true q221
              have hcz42_0 : wr.cell? ⟨gb218, 0, none⟩ = some (.int .i64 ((rd_T52 l0 x9_1).f0)) := (blk_cell BK218.out 0).trans rfl
              have hcz42_1 : wr.cell? ⟨gb218, 1, none⟩ = some (.slice (some ad221) ((rd_T52 l0 x9_1).f1).length c217_1) := (blk_cell BK218.out 1).trans rfl
              have hfz42_0 := blk_frozen BK218.out 0
              have hfz42_1 := blk_frozen BK218.out 1
              have p222 : 0 ≤ ((ji37) : Int) := of_decide_eq_true (by first | (with_reducible assumption) | assumption)
              have q222 : (ji37) < (((rd_T52 l0 x9_1).f1).length : Int) := of_decide_eq_true (by first | (with_reducible assumption) | assumption)
              obtain ⟨ad222, e222, hx222_0⟩ := Kd.at_int HR217_1.out (ji37) p222 q222
              obtain rfl : ad221 = ad222 := (by injection e222)
              replace hx222_0 := (HB.out.cell (World.block_lt_of_cell? w _ hx222_0)).trans hx222_0
              replace p222 := eq_true p222
              replace q222 := eq_true q222
              go_wp2
              go_roundg k3
              case measure => have := HK1.out; have := HJ4.out; have := HK3.out; omega
              case rel => exact ⟨(wrap64 (x52_3 + 1)), (by first | rfl | (simp; done) | (simp [*]; done)), H', ⟨by have := HK1.out; have := HJ4.out; have := HK3.out; omega⟩, ⟨by (with_reducible repeat (first | refine blk_drewN ?_ _ | refine blk_drew ?_ | refine blk_alloc ?_ _)); exact BK218.out⟩, ⟨by repeat (first | (with_reducible first | exact HB.out | apply below_alloc | apply pw_below_drewN | apply below_drew1 | refine below_set ?_ GE218.out) | exact HB.out)⟩⟩

end Go.Proofs.Ytfcdnfbhoppefaa.PFnExactPolyEval
