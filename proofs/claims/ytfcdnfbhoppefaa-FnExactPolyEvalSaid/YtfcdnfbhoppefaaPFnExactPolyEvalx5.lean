-- Contracts of the functions that one law reaches, written by a program of this session.
import Derived.Test.YtfcdnfbhoppefaaPFnExactPolyEvalx0
import Derived.Test.YtfcdnfbhoppefaaPFnExactPolyEvalx2
import Derived.Test.YtfcdnfbhoppefaaPFnExactPolyEvalx4
namespace Go.Proofs.Ytfcdnfbhoppefaa.PFnExactPolyEval
open Go.Proofs.Ytfcdnfbhoppefaa.Run Go.RowKit Go.Proofs.YtfcdnfbhoppefaaW.PrintWords Go.Proofs.YtfcdnfbhoppefaaW.PrintLast Go.Proofs.YtfcdnfbhoppefaaW.PrintMore
attribute [local go_sem] max2_int min2_int max_two min_two max_three min_three max_four min_four   -- for this text's walks alone
set_option linter.unusedVariables false
set_option linter.unusedSimpArgs false

/-! ### spec_validZSet: function 80 -/
def spec_validZSet.l0 : Nat → List (S75) → Int → Option (Bool)
  | 0, _, _ => none
  | k + 1, x0, x3 => if x3 < (x0.length : Int) then (if 0 ≤ x3 then ((spec_validRow.f k ((rd_T75 x0 x3).f0)).bind fun t161 => (if t161 = true then (if 0 < (x0.length : Int) then (if (((rd_T75 x0 x3).f0).length : Int) = (((rd_T75 x0 0).f0).length : Int) then (if ((rd_T75 x0 x3).f1) = 0 then (some false) else ((spec_inRange.f ((rd_T75 x0 x3).f1) (-1000000) 1000000).bind fun t166 => (if t166 = true then (if x3 > 0 then (if 0 ≤ (wrap64 (x3 - 1)) then (if (wrap64 (x3 - 1)) < (x0.length : Int) then ((spec_rowLess.f k ((rd_T75 x0 (wrap64 (x3 - 1))).f0) ((rd_T75 x0 x3).f0)).bind fun t169 => (if t169 = true then (spec_validZSet.l0 k x0 (wrap64 (x3 + 1))) else (some false))) else (none)) else (none)) else (spec_validZSet.l0 k x0 (wrap64 (x3 + 1)))) else (some false)))) else (some false)) else (none)) else (some false))) else (none)) else (some (decide ((x0.length : Int) ≤ 400)))
def spec_validZSet.f (k : Nat) (l0 : List (S75)) : Option (Bool) := spec_validZSet.l0 k l0 0
theorem spec_validZSet.mono_l : ∀ k, (∀ y0 y1, LeO (spec_validZSet.l0 k y0 y1) (spec_validZSet.l0 (k + 1) y0 y1))
  | 0 => fun _ _ r h => by simp [spec_validZSet.l0] at h
  | k + 1 => by
    have ih0 := spec_validZSet.mono_l k
    · intro y0 y1
      unfold spec_validZSet.l0
      repeat' first
      | (with_reducible exact ih0 _ _)
      | (with_reducible exact spec_rowLess.mono _ _ _)
      | (with_reducible exact spec_validRow.mono _ _)
      | (with_reducible exact LeO.refl _)
      | (with_reducible exact LeO.none _)
      | (with_reducible refine LeO.ite ?_ ?_)
      | (with_reducible refine LeO.bind ?_ (fun _ => ?_))
      | exact ih0 _ _
      | exact spec_rowLess.mono _ _ _
      | exact spec_validRow.mono _ _
      | exact LeO.none _
      | refine LeO.ite ?_ ?_
      | refine LeO.bind ?_ (fun _ => ?_)
theorem spec_validZSet.mono : ∀ a0 k, LeO (spec_validZSet.f k a0) (spec_validZSet.f (k + 1) a0) := by
  intro a0 k
  have ih0 := spec_validZSet.mono_l k
  unfold spec_validZSet.f
  repeat' first
      | (with_reducible exact ih0 _ _)
      | (with_reducible exact spec_rowLess.mono _ _ _)
      | (with_reducible exact spec_validRow.mono _ _)
      | (with_reducible exact LeO.refl _)
      | (with_reducible exact LeO.none _)
      | (with_reducible refine LeO.ite ?_ ?_)
      | (with_reducible refine LeO.bind ?_ (fun _ => ?_))
      | exact ih0 _ _
      | exact spec_rowLess.mono _ _ _
      | exact spec_validRow.mono _ _
      | exact LeO.none _
      | refine LeO.ite ?_ ?_
      | refine LeO.bind ?_ (fun _ => ?_)
def spec_validZSet.T4 : Bool × List (List Nat × List Nat) := (true, [([], []), ([], []), ([0, 1], [0, 1]), ([2], [2]), ([3], [3]), ([4], [4]), ([5], [5]), ([6, 5], [6]), ([7], [7]), ([7], [7]), ([8, 9, 7], [7, 8, 9]), ([10, 7], [7, 10]), ([11, 7], [7, 11]), ([12, 7], [7, 12]), ([7], [7]), ([14, 7], [7, 14]), ([15, 7], [7, 15]), ([16, 7], [7, 16]), ([17, 7], [7, 17]), ([13, 18, 7], [7, 13, 18]), ([7, 19], [7, 19]), ([20, 7], [20]), ([21], [21]), ([21], [21]), ([22, 23, 21], [21, 22, 23]), ([24, 21], [21, 24]), ([25, 21], [21, 25]), ([26, 21], [21, 26]), ([21, 27], [21, 27]), ([28, 21], [28]), ([29], [29]), ([29], [29]), ([30, 31, 29], [29, 30, 31]), ([32, 29], [29, 32]), ([33, 29], [29, 33]), ([34, 29, 29], [29, 34]), ([35, 29], [29, 35]), ([29, 36], [29, 36]), ([37, 35], [37]), ([38], [38]), ([39, 38], [38, 39]), ([40, 38, 38], [38, 40]), ([41], [41]), ([41], [41]), ([43, 41], [41, 43]), ([42, 44, 41], [41, 42, 44]), ([45, 41], [41, 45]), ([46, 41], [41, 46]), ([41], [41]), ([41], [41]), ([48, 49, 41], [41, 48, 49]), ([50, 41], [41, 50]), ([51, 41], [41, 51]), ([47, 52, 41, 41], [41, 47, 52]), ([53, 41], [41, 53]), ([41, 54, 38], [38, 41, 54]), ([38, 55], [38, 55])])
def spec_validZSet.B4 : List Nat := [0, 0, 3, 7, 15, 31, 63, 127, 255, 255, 1023, 2047, 4095, 8191, 255, 16639, 49407, 114943, 246015, 524287, 1048575, 2097151, 4194303, 4194303, 16777215, 33554431, 67108863, 134217727, 268435455, 536870911, 1073741823, 1073741823, 4294967295, 8589934591, 17179869183, 34359738367, 68719476735, 137438953471, 274877906943, 549755813887, 1099511627775, 2199023255551, 4398046511103, 4398046511103, 13194139533311, 35184372088831, 70368744177663, 140737488355327, 4398046511103, 4398046511103, 848822976643071, 1974722883485695, 4226522697170943, 9007199254740991, 18014398509481983, 36028797018963967, 72057594037927935]
theorem spec_validZSet.tab4 : rtab .any (opsOf Try.f80 4) = spec_validZSet.T4 := by kernel_rfl
theorem spec_validZSet.bits4 : waitsOk spec_validZSet.T4.2 spec_validZSet.B4 = true := by kernel_rfl
set_option maxHeartbeats 8000000 in
set_option maxRecDepth 100000 in
theorem spec_validZSet.calls (k : Nat) (A0 : Option Addr) (c0 : Nat) (l0 : List (S75)) (r : Bool) (w : World) (hr0 : Kd.C k75 w A0 l0.length l0) (hc0 : l0.length ≤ c0) (h : spec_validZSet.f k l0 = some r) :
    Calls Try.prog 80 #[.slice A0 l0.length c0] w fun e w' => e = .returned (.bool r) ∧ Below w.heap.size w w' := by
  have HR0 := Aside0.mk hr0
  have HC0 := Aside0.mk hc0
  clear hr0 hc0
  have HB := Aside0.mk (Below.refl w.heap.size w)
  have H : (spec_validZSet.l0 k l0 0) = some r := h
  clear h
  have H' := Aside0.mk H
  clear H
  go_enter Try.func80, Try.ntmps80
  go_wp2
  go_loopg [3] k (fun kq v3 w' => ∃ (x3_1 : Int), v3 = .int .i64 x3_1 ∧ Aside0 (spec_validZSet.l0 kq l0 x3_1 = some r) ∧ Aside0 (kq ≤ k) ∧ Aside0 (Below w.heap.size w w'))
  case atStart => exact ⟨(0), (by first | rfl | (simp; done) | (simp [*]; done)), H', ⟨Nat.le_refl _⟩, ⟨by repeat (first | (with_reducible first | exact HB.out | apply below_alloc | apply pw_below_drewN | apply below_drew1) | exact HB.out)⟩⟩
  case round =>
    clear H'
    obtain ⟨x3_1, rfl, HA, HK1, HB⟩ := hrel
    cases gk with
    | zero => exact absurd HA.out (by simp [spec_validZSet.l0])
    | succ k1 =>
      have H := HA.out
      clear HA
      simp only [spec_validZSet.l0] at H
      by_cases c2 : x3_1 < (l0.length : Int)
      rotate_left
      · rw [if_neg c2] at H
        have c2b0 : decide (x3_1 < (l0.length : Int)) = false := decide_eq_false c2
        clear c2
        obtain rfl := Option.some.inj H
        go_wp2
        go_ret
        exact ⟨by first | rfl | (simp [errW_none, errW_some] <;> rfl) | (simp [*, errW_none, errW_some] <;> rfl), by repeat (first | (with_reducible first | exact HB.out | apply below_alloc | apply pw_below_drewN | apply below_drew1) | exact HB.out)⟩
      rw [if_pos c2] at H
      have c2b0 : decide (x3_1 < (l0.length : Int)) = true := decide_eq_true c2
      clear c2
      by_cases c3 : 0 ≤ x3_1
      rotate_left
      · rw [if_neg c3] at H
        exact absurd H (by simp)
      rw [if_pos c3] at H
      have c3b0 : decide (0 ≤ x3_1) = true := decide_eq_true c3
      clear c3
      replace H := Option.bind_eq_some_iff.mp H
      obtain ⟨t161, A40, H⟩ := H
      replace H : (if t161 = true then (if 0 < (l0.length : Int) then (if (((rd_T75 l0 x3_1).f0).length : Int) = (((rd_T75 l0 0).f0).length : Int) then (if ((rd_T75 l0 x3_1).f1) = 0 then (some false) else ((spec_inRange.f ((rd_T75 l0 x3_1).f1) (-1000000) 1000000).bind fun t166 => (if t166 = true then (if x3_1 > 0 then (if 0 ≤ (wrap64 (x3_1 - 1)) then (if (wrap64 (x3_1 - 1)) < (l0.length : Int) then ((spec_rowLess.f k1 ((rd_T75 l0 (wrap64 (x3_1 - 1))).f0) ((rd_T75 l0 x3_1).f0)).bind fun t169 => (if t169 = true then (spec_validZSet.l0 k1 l0 (wrap64 (x3_1 + 1))) else (some false))) else (none)) else (none)) else (spec_validZSet.l0 k1 l0 (wrap64 (x3_1 + 1)))) else (some false)))) else (some false)) else (none)) else (some false)) = some r := H
      have A4 := Aside0.mk A40
      clear A40
      by_cases c5 : t161 = true
      rotate_left
      · replace c5 := Bool.eq_false_iff.mpr c5
        subst c5
        have H1 : (some false) = some r := by rw [if_neg (show ¬ (false = true) by decide)] at H; exact H
        clear H
        have H := H1
        clear H1
        obtain rfl := Option.some.inj H
        try go_wp2
        have n0_ := Aside0.mk (below_drew1 HB.out)
        clear HB
        have HB := n0_
        clear n0_
        have p160 : 0 ≤ (x3_1 : Int) := of_decide_eq_true (by first | (with_reducible assumption) | assumption)
        have q160 : x3_1 < (l0.length : Int) := of_decide_eq_true (by first | (with_reducible assumption) | assumption)
        obtain ⟨ad160, A160_0, c160_0, e160, hx160_0, hx160_1, hl160_0, hi160_0⟩ := at_T75 HR0.out x3_1 p160 q160
        have hw160_1 := hx160_1
        have hw160_0 := hx160_0
        cases e160
        replace hx160_0 := (HB.out.cell (World.block_lt_of_cell? w _ hx160_0)).trans hx160_0
        replace hx160_1 := (HB.out.cell (World.block_lt_of_cell? w _ hx160_1)).trans hx160_1
        have HR160_0 := Aside0.mk hi160_0
        have HC160_0 := Aside0.mk hl160_0
        clear hi160_0 hl160_0
        replace p160 := eq_true p160
        replace q160 := eq_true q160
        refine start_ (n := 57) (S := fun w' => w'.cell? (ad160.add ((x3_1).toNat * 2)) = some (.slice A160_0 ((rd_T75 l0 x3_1).f0).length c160_0) ∧ w'.cell? ⟨(ad160.add ((x3_1).toNat * 2)).block, (ad160.add ((x3_1).toNat * 2)).off + 1, none⟩ = some (.int .i64 ((rd_T75 l0 x3_1).f1))) (ds := []) #[false, false, false, false, false, false, false, false, false, false, false, false, false, false, false, false, false, false, false, false, false, false, false, false, false, false, false, false, false, false, false, false, false, false, false, false, false, false, false, false, false, false, false, false, false, false, false, false, false, false, false, false, false, false, false, false, false] (by kernel_rfl) rfl rfl ⟨((HB.out.cell (World.block_lt_of_cell? w _ hw160_0)).trans hw160_0), ((HB.out.cell (World.block_lt_of_cell? w _ hw160_1)).trans hw160_1)⟩ (fun hHeld => ?_); refine with_tabW spec_validZSet.tab4 spec_validZSet.bits4 (fun HT_ HW_ => ?_)
        generalize wr.drew = w23 at HB HR160_0 hx160_0 hx160_1 hHeld ⊢
        refine sched_ [(0, some 10), (1, some 11), (2, some 12), (3, some 13), (4, some 14)] ?_
        iterate 5 (refine quiet_ (v := ?_) (a' := ?_) rfl rfl (take_ofW HT_.out HW_.out (by kernel_rfl)) (fun _ _ _ h => h) ⟨by rfl, ?_⟩ hHeld ?_ ?_; rotate_left; (rintro w' ⟨s0, s1⟩; go_simp; with_reducible rfl); rotate_left; (simp only [Act.put, List.setIfInBounds_toArray, List.set_cons_zero, List.set_cons_succ, i64_w, i32_w]; rfl))
        refine schedEnd_ ?_
        refine one_ (i := 5) (N := some 15) #[true, true, true, true, true, true, false, false, false, false, false, false, false, false, false, false, false, false, false, false, false, false, false, false, false, false, false, false, false, false, false, false, false, false, false, false, false, false, false, false, false, false, false, false, false, false, false, false, false, false, false, false, false, false, false, false, false] rfl rfl (one_of HT_.out (by kernel_rfl)) (by decide) (fun K hK => ?_)
        refine goes_ Try.func102 (by kernel_rfl) rfl #[.slice A160_0 ((rd_T75 l0 x3_1).f0).length c160_0] (by rfl) rfl rfl (by (try simp only [List.map_toArray, List.map_cons, List.map_nil]); first | done | rfl | (simp only [List.length_drop, List.length_take]; rfl)) ?_
        with_reducible refine (spec_validRow.calls k1 _ _ ((rd_T75 l0 x3_1).f0) false _ ?side1 ?side2 A4.out).mono ?_
        (case side1 => repeat (first | exact (Kd.C_below HR160_0.out HB.out) | (with_reducible refine Kd.C_alloc ?_ _) | (with_reducible refine Kd.C_drewN ?_ _) | (with_reducible refine Kd.C_drew ?_)))
        (case side2 => exact HC160_0.out)
        rintro e w' ⟨rfl, ⟨nd, rfl⟩⟩
        refine ⟨_, rfl, ?_⟩
        refine hK.out _ _ ⟨((HB.out.cell (World.block_lt_of_cell? w _ hw160_0)).trans hw160_0), ((HB.out.cell (World.block_lt_of_cell? w _ hw160_1)).trans hw160_1)⟩ (fun hHeld => ?_)
        clear hK K
        refine norm_ (a' := ?_) ?_ ?_
        rotate_left
        · show Act.put _ (some 15) _ = _
          simp only [Act.put, List.setIfInBounds_toArray, List.set_cons_zero, List.set_cons_succ, i64_w, i32_w]
          rfl
        refine sched_ [(6, some 16), (7, some 17)] ?_
        iterate 2 (refine quiet_ (v := ?_) (a' := ?_) rfl rfl (take_ofW HT_.out HW_.out (by kernel_rfl)) (fun _ _ _ h => h) ⟨by rfl, ?_⟩ hHeld ?_ ?_; rotate_left; (rintro w' ⟨s0, s1⟩; go_simp; with_reducible rfl); rotate_left; (simp only [Act.put, List.setIfInBounds_toArray, List.set_cons_zero, List.set_cons_succ, i64_w, i32_w]; rfl))
        refine schedEnd_ ?_
        refine sched_ [(8, some 18), (9, some 19), (10, some 20), (11, some 21), (12, some 22), (13, some 23), (14, some 24), (15, some 25), (16, some 26), (17, some 27), (18, some 28), (19, some 29)] ?_
        iterate 12 (refine quietOff_ (a' := ?_) rfl rfl (take_ofW HT_.out HW_.out (by kernel_rfl)) (fun _ _ _ h => h) ⟨by rfl, rfl⟩ hHeld ?_ ?_; rotate_left; (simp only [Act.put, List.setIfInBounds_toArray, List.set_cons_zero, List.set_cons_succ, i64_w, i32_w]; rfl))
        refine schedEnd_ ?_
        refine sched_ [(20, some 30), (21, some 31)] ?_
        iterate 2 (refine quiet_ (v := ?_) (a' := ?_) rfl rfl (take_ofW HT_.out HW_.out (by kernel_rfl)) (fun _ _ _ h => h) ⟨by rfl, ?_⟩ hHeld ?_ ?_; rotate_left; (rintro w' ⟨s0, s1⟩; go_simp; with_reducible rfl); rotate_left; (simp only [Act.put, List.setIfInBounds_toArray, List.set_cons_zero, List.set_cons_succ, i64_w, i32_w]; rfl))
        refine schedEnd_ ?_
        refine sched_ [(22, some 32), (23, some 33), (24, some 34), (25, some 35), (26, some 36), (27, some 37)] ?_
        iterate 6 (refine quietOff_ (a' := ?_) rfl rfl (take_ofW HT_.out HW_.out (by kernel_rfl)) (fun _ _ _ h => h) ⟨by rfl, rfl⟩ hHeld ?_ ?_; rotate_left; (simp only [Act.put, List.setIfInBounds_toArray, List.set_cons_zero, List.set_cons_succ, i64_w, i32_w]; rfl))
        refine schedEnd_ ?_
        refine sched_ [(28, some 38), (29, some 39)] ?_
        iterate 2 (refine quiet_ (v := ?_) (a' := ?_) rfl rfl (take_ofW HT_.out HW_.out (by kernel_rfl)) (fun _ _ _ h => h) ⟨by rfl, ?_⟩ hHeld ?_ ?_; rotate_left; (rintro w' ⟨s0, s1⟩; go_simp; with_reducible rfl); rotate_left; (simp only [Act.put, List.setIfInBounds_toArray, List.set_cons_zero, List.set_cons_succ, i64_w, i32_w]; rfl))
        refine schedEnd_ ?_
        refine sched_ [(30, some 40), (31, some 41), (32, some 42), (33, some 43), (34, some 44), (35, some 45), (36, some 46)] ?_
        iterate 7 (refine quietOff_ (a' := ?_) rfl rfl (take_ofW HT_.out HW_.out (by kernel_rfl)) (fun _ _ _ h => h) ⟨by rfl, rfl⟩ hHeld ?_ ?_; rotate_left; (simp only [Act.put, List.setIfInBounds_toArray, List.set_cons_zero, List.set_cons_succ, i64_w, i32_w]; rfl))
        refine schedEnd_ ?_
        refine sched_ [(37, some 47), (38, some 48)] ?_
        iterate 2 (refine quiet_ (v := ?_) (a' := ?_) rfl rfl (take_ofW HT_.out HW_.out (by kernel_rfl)) (fun _ _ _ h => h) ⟨by rfl, ?_⟩ hHeld ?_ ?_; rotate_left; (rintro w' ⟨s0, s1⟩; go_simp; with_reducible rfl); rotate_left; (simp only [Act.put, List.setIfInBounds_toArray, List.set_cons_zero, List.set_cons_succ, i64_w, i32_w]; rfl))
        refine schedEnd_ ?_
        refine sched_ [(39, some 49), (40, some 50), (41, some 51), (42, some 52), (43, some 53), (44, some 54), (45, some 55), (46, some 56), (47, some 57), (48, some 58), (49, some 59), (50, some 60), (51, some 61), (52, some 62), (53, some 63), (54, some 64), (55, some 65)] ?_
        iterate 17 (refine quietOff_ (a' := ?_) rfl rfl (take_ofW HT_.out HW_.out (by kernel_rfl)) (fun _ _ _ h => h) ⟨by rfl, rfl⟩ hHeld ?_ ?_; rotate_left; (simp only [Act.put, List.setIfInBounds_toArray, List.set_cons_zero, List.set_cons_succ, i64_w, i32_w]; rfl))
        refine schedEnd_ ?_
        refine sched_ [(56, some 66)] ?_
        iterate 1 (refine quiet_ (v := ?_) (a' := ?_) rfl rfl (take_ofW HT_.out HW_.out (by kernel_rfl)) (fun _ _ _ h => h) ⟨by rfl, ?_⟩ hHeld ?_ ?_; rotate_left; (rintro w' ⟨s0, s1⟩; go_simp; with_reducible rfl); rotate_left; (simp only [Act.put, List.setIfInBounds_toArray, List.set_cons_zero, List.set_cons_succ, i64_w, i32_w]; rfl))
        refine schedEnd_ ?_
        refine done_ (done_of HT_.out (by kernel_rfl)) ?_
        try go_wp2
        go_ret
        exact ⟨by first | rfl | (simp [errW_none, errW_some] <;> rfl) | (simp [*, errW_none, errW_some] <;> rfl), by repeat (first | (with_reducible first | exact HB.out | apply below_alloc | apply pw_below_drewN | apply below_drew1) | exact HB.out)⟩
      subst c5
      have H1 : (if 0 < (l0.length : Int) then (if (((rd_T75 l0 x3_1).f0).length : Int) = (((rd_T75 l0 0).f0).length : Int) then (if ((rd_T75 l0 x3_1).f1) = 0 then (some false) else ((spec_inRange.f ((rd_T75 l0 x3_1).f1) (-1000000) 1000000).bind fun t166 => (if t166 = true then (if x3_1 > 0 then (if 0 ≤ (wrap64 (x3_1 - 1)) then (if (wrap64 (x3_1 - 1)) < (l0.length : Int) then ((spec_rowLess.f k1 ((rd_T75 l0 (wrap64 (x3_1 - 1))).f0) ((rd_T75 l0 x3_1).f0)).bind fun t169 => (if t169 = true then (spec_validZSet.l0 k1 l0 (wrap64 (x3_1 + 1))) else (some false))) else (none)) else (none)) else (spec_validZSet.l0 k1 l0 (wrap64 (x3_1 + 1)))) else (some false)))) else (some false)) else (none)) = some r := by rw [if_pos rfl] at H; exact H
      clear H
      have H := H1
      clear H1
      by_cases c6 : 0 < (l0.length : Int)
      rotate_left
      · rw [if_neg c6] at H
        exact absurd H (by simp)
      rw [if_pos c6] at H
      have c6b0 : decide (0 < (l0.length : Int)) = true := decide_eq_true c6
      have c6b1 : decide (0 < l0.length) = true := decide_eq_true (by omega)
      clear c6
      by_cases c7 : (((rd_T75 l0 x3_1).f0).length : Int) = (((rd_T75 l0 0).f0).length : Int)
      rotate_left
      · rw [if_neg c7] at H
        have c7b0 : ((((rd_T75 l0 x3_1).f0).length : Int) == (((rd_T75 l0 0).f0).length : Int)) = false := beq_eq_false_iff_ne.mpr c7
        have c7b1 : ((((rd_T75 l0 x3_1).f0).length : Int) != (((rd_T75 l0 0).f0).length : Int)) = true := bne_iff_ne.mpr c7
        have c7b2 : (((rd_T75 l0 x3_1).f0).length == ((rd_T75 l0 0).f0).length) = false := by first | simpa using c7 | (simp at c7 ⊢; omega)
        obtain rfl := Option.some.inj H
        try go_wp2
        have n0_ := Aside0.mk (below_drew1 HB.out)
        clear HB
        have HB := n0_
        clear n0_
        have p160 : 0 ≤ (x3_1 : Int) := of_decide_eq_true (by first | (with_reducible assumption) | assumption)
        have q160 : x3_1 < (l0.length : Int) := of_decide_eq_true (by first | (with_reducible assumption) | assumption)
        obtain ⟨ad160, A160_0, c160_0, e160, hx160_0, hx160_1, hl160_0, hi160_0⟩ := at_T75 HR0.out x3_1 p160 q160
        have hw160_1 := hx160_1
        have hw160_0 := hx160_0
        cases e160
        replace hx160_0 := (HB.out.cell (World.block_lt_of_cell? w _ hx160_0)).trans hx160_0
        replace hx160_1 := (HB.out.cell (World.block_lt_of_cell? w _ hx160_1)).trans hx160_1
        have HR160_0 := Aside0.mk hi160_0
        have HC160_0 := Aside0.mk hl160_0
        clear hi160_0 hl160_0
        replace p160 := eq_true p160
        replace q160 := eq_true q160
        have p162 : 0 ≤ (x3_1 : Int) := of_decide_eq_true (by first | (with_reducible assumption) | assumption)
        have q162 : x3_1 < (l0.length : Int) := of_decide_eq_true (by first | (with_reducible assumption) | assumption)
        obtain ⟨ad162, A162_0, c162_0, e162, hx162_0, hx162_1, hl162_0, hi162_0⟩ := at_T75 HR0.out x3_1 p162 q162
        have hw162_1 := hx162_1
        have hw162_0 := hx162_0
        obtain rfl : ad160 = ad162 := (by injection e162)
        replace hx162_0 := (HB.out.cell (World.block_lt_of_cell? w _ hx162_0)).trans hx162_0
        replace hx162_1 := (HB.out.cell (World.block_lt_of_cell? w _ hx162_1)).trans hx162_1
        have HR162_0 := Aside0.mk hi162_0
        have HC162_0 := Aside0.mk hl162_0
        clear hi162_0 hl162_0
        replace p162 := eq_true p162
        replace q162 := eq_true q162
        have ea_ := Option.some.inj (hx160_0.symm.trans hx162_0)
        injection ea_ with ea_ en_ ec_
        subst ea_
        subst ec_
        clear en_
        have p163 : 0 ≤ (0 : Int) := (by omega)
        have q163 : 0 < (l0.length : Int) := of_decide_eq_true (by first | (with_reducible assumption) | assumption)
        obtain ⟨ad163, A163_0, c163_0, e163, hx163_0, hx163_1, hl163_0, hi163_0⟩ := at_T75 HR0.out 0 p163 q163
        have hw163_1 := hx163_1
        (try rw [show ((0 : Int)).toNat = 0 from rfl] at hw163_1)
        (try rw [show 0 * 2 = 0 from rfl] at hw163_1)
        (try rw [Addr.add_zero'] at hw163_1)
        have hw163_0 := hx163_0
        (try rw [show ((0 : Int)).toNat = 0 from rfl] at hw163_0)
        (try rw [show 0 * 2 = 0 from rfl] at hw163_0)
        (try rw [Addr.add_zero'] at hw163_0)
        obtain rfl : ad160 = ad163 := (by injection e163)
        have qi163 : (0 < l0.length) = True := eq_true (by omega)
        (try rw [show ((0 : Int)).toNat = 0 from rfl] at hx163_0)
        (try rw [show 0 * 2 = 0 from rfl] at hx163_0)
        (try rw [Addr.add_zero'] at hx163_0)
        (try rw [show ((0 : Int)).toNat = 0 from rfl] at hx163_1)
        (try rw [show 0 * 2 = 0 from rfl] at hx163_1)
        (try rw [Addr.add_zero'] at hx163_1)
        replace hx163_0 := (HB.out.cell (World.block_lt_of_cell? w _ hx163_0)).trans hx163_0
        replace hx163_1 := (HB.out.cell (World.block_lt_of_cell? w _ hx163_1)).trans hx163_1
        have HR163_0 := Aside0.mk hi163_0
        have HC163_0 := Aside0.mk hl163_0
        clear hi163_0 hl163_0
        replace p163 := eq_true p163
        replace q163 := eq_true q163
        refine start_ (n := 57) (S := fun w' => w'.cell? (ad160.add ((x3_1).toNat * 2)) = some (.slice A160_0 ((rd_T75 l0 x3_1).f0).length c160_0) ∧ w'.cell? ⟨(ad160.add ((x3_1).toNat * 2)).block, (ad160.add ((x3_1).toNat * 2)).off + 1, none⟩ = some (.int .i64 ((rd_T75 l0 x3_1).f1)) ∧ w'.cell? (ad160.add ((x3_1).toNat * 2)) = some (.slice A160_0 ((rd_T75 l0 x3_1).f0).length c160_0) ∧ w'.cell? ⟨(ad160.add ((x3_1).toNat * 2)).block, (ad160.add ((x3_1).toNat * 2)).off + 1, none⟩ = some (.int .i64 ((rd_T75 l0 x3_1).f1)) ∧ w'.cell? ad160 = some (.slice A163_0 ((rd_T75 l0 0).f0).length c163_0) ∧ w'.cell? ⟨ad160.block, ad160.off + 1, none⟩ = some (.int .i64 ((rd_T75 l0 0).f1))) (ds := []) #[false, false, false, false, false, false, false, false, false, false, false, false, false, false, false, false, false, false, false, false, false, false, false, false, false, false, false, false, false, false, false, false, false, false, false, false, false, false, false, false, false, false, false, false, false, false, false, false, false, false, false, false, false, false, false, false, false] (by kernel_rfl) rfl rfl ⟨((HB.out.cell (World.block_lt_of_cell? w _ hw160_0)).trans hw160_0), ((HB.out.cell (World.block_lt_of_cell? w _ hw160_1)).trans hw160_1), ((HB.out.cell (World.block_lt_of_cell? w _ hw162_0)).trans hw162_0), ((HB.out.cell (World.block_lt_of_cell? w _ hw162_1)).trans hw162_1), ((HB.out.cell (World.block_lt_of_cell? w _ hw163_0)).trans hw163_0), ((HB.out.cell (World.block_lt_of_cell? w _ hw163_1)).trans hw163_1)⟩ (fun hHeld => ?_); refine with_tabW spec_validZSet.tab4 spec_validZSet.bits4 (fun HT_ HW_ => ?_)
        generalize wr.drew = w22 at HB HR160_0 HR162_0 HR163_0 hx160_0 hx160_1 hx162_0 hx162_1 hx163_0 hx163_1 hHeld ⊢
        refine sched_ [(0, some 10), (1, some 11), (2, some 12), (3, some 13), (4, some 14)] ?_
        iterate 5 (refine quiet_ (v := ?_) (a' := ?_) rfl rfl (take_ofW HT_.out HW_.out (by kernel_rfl)) (fun _ _ _ h => h) ⟨by rfl, ?_⟩ hHeld ?_ ?_; rotate_left; (rintro w' ⟨s0, s1, s2, s3, s4, s5⟩; go_simp; with_reducible rfl); rotate_left; (simp only [Act.put, List.setIfInBounds_toArray, List.set_cons_zero, List.set_cons_succ, i64_w, i32_w]; rfl))
        refine schedEnd_ ?_
        refine one_ (i := 5) (N := some 15) #[true, true, true, true, true, true, false, false, false, false, false, false, false, false, false, false, false, false, false, false, false, false, false, false, false, false, false, false, false, false, false, false, false, false, false, false, false, false, false, false, false, false, false, false, false, false, false, false, false, false, false, false, false, false, false, false, false] rfl rfl (one_of HT_.out (by kernel_rfl)) (by decide) (fun K hK => ?_)
        refine goes_ Try.func102 (by kernel_rfl) rfl #[.slice A160_0 ((rd_T75 l0 x3_1).f0).length c160_0] (by rfl) rfl rfl (by (try simp only [List.map_toArray, List.map_cons, List.map_nil]); first | done | rfl | (simp only [List.length_drop, List.length_take]; rfl)) ?_
        with_reducible refine (spec_validRow.calls k1 _ _ ((rd_T75 l0 x3_1).f0) true _ ?side1 ?side2 A4.out).mono ?_
        (case side1 => repeat (first | exact (Kd.C_below HR160_0.out HB.out) | (with_reducible refine Kd.C_alloc ?_ _) | (with_reducible refine Kd.C_drewN ?_ _) | (with_reducible refine Kd.C_drew ?_)))
        (case side2 => exact HC160_0.out)
        rintro e w' ⟨rfl, ⟨nd, rfl⟩⟩
        refine ⟨_, rfl, ?_⟩
        refine hK.out _ _ ⟨((HB.out.cell (World.block_lt_of_cell? w _ hw160_0)).trans hw160_0), ((HB.out.cell (World.block_lt_of_cell? w _ hw160_1)).trans hw160_1), ((HB.out.cell (World.block_lt_of_cell? w _ hw162_0)).trans hw162_0), ((HB.out.cell (World.block_lt_of_cell? w _ hw162_1)).trans hw162_1), ((HB.out.cell (World.block_lt_of_cell? w _ hw163_0)).trans hw163_0), ((HB.out.cell (World.block_lt_of_cell? w _ hw163_1)).trans hw163_1)⟩ (fun hHeld => ?_)
        clear hK K
        refine norm_ (a' := ?_) ?_ ?_
        rotate_left
        · show Act.put _ (some 15) _ = _
          simp only [Act.put, List.setIfInBounds_toArray, List.set_cons_zero, List.set_cons_succ, i64_w, i32_w]
          rfl
        refine sched_ [(6, some 16), (7, some 17), (8, some 18), (9, some 19), (10, some 20), (11, some 21), (14, some 24), (15, some 25), (16, some 26), (12, some 22), (13, some 23), (17, some 27), (18, some 28), (19, some 29), (20, some 30), (21, some 31)] ?_
        iterate 16 (refine quiet_ (v := ?_) (a' := ?_) rfl rfl (take_ofW HT_.out HW_.out (by kernel_rfl)) (fun _ _ _ h => h) ⟨by rfl, ?_⟩ hHeld ?_ ?_; rotate_left; (rintro w' ⟨s0, s1, s2, s3, s4, s5⟩; go_simp; with_reducible rfl); rotate_left; (simp only [Act.put, List.setIfInBounds_toArray, List.set_cons_zero, List.set_cons_succ, i64_w, i32_w]; rfl))
        refine schedEnd_ ?_
        refine sched_ [(22, some 32), (23, some 33), (24, some 34), (25, some 35), (26, some 36), (27, some 37)] ?_
        iterate 6 (refine quietOff_ (a' := ?_) rfl rfl (take_ofW HT_.out HW_.out (by kernel_rfl)) (fun _ _ _ h => h) ⟨by rfl, rfl⟩ hHeld ?_ ?_; rotate_left; (simp only [Act.put, List.setIfInBounds_toArray, List.set_cons_zero, List.set_cons_succ, i64_w, i32_w]; rfl))
        refine schedEnd_ ?_
        refine sched_ [(28, some 38), (29, some 39)] ?_
        iterate 2 (refine quiet_ (v := ?_) (a' := ?_) rfl rfl (take_ofW HT_.out HW_.out (by kernel_rfl)) (fun _ _ _ h => h) ⟨by rfl, ?_⟩ hHeld ?_ ?_; rotate_left; (rintro w' ⟨s0, s1, s2, s3, s4, s5⟩; go_simp; with_reducible rfl); rotate_left; (simp only [Act.put, List.setIfInBounds_toArray, List.set_cons_zero, List.set_cons_succ, i64_w, i32_w]; rfl))
        refine schedEnd_ ?_
        refine sched_ [(30, some 40), (31, some 41), (32, some 42), (33, some 43), (34, some 44), (35, some 45), (36, some 46)] ?_
        iterate 7 (refine quietOff_ (a' := ?_) rfl rfl (take_ofW HT_.out HW_.out (by kernel_rfl)) (fun _ _ _ h => h) ⟨by rfl, rfl⟩ hHeld ?_ ?_; rotate_left; (simp only [Act.put, List.setIfInBounds_toArray, List.set_cons_zero, List.set_cons_succ, i64_w, i32_w]; rfl))
        refine schedEnd_ ?_
        refine sched_ [(37, some 47), (38, some 48)] ?_
        iterate 2 (refine quiet_ (v := ?_) (a' := ?_) rfl rfl (take_ofW HT_.out HW_.out (by kernel_rfl)) (fun _ _ _ h => h) ⟨by rfl, ?_⟩ hHeld ?_ ?_; rotate_left; (rintro w' ⟨s0, s1, s2, s3, s4, s5⟩; go_simp; with_reducible rfl); rotate_left; (simp only [Act.put, List.setIfInBounds_toArray, List.set_cons_zero, List.set_cons_succ, i64_w, i32_w]; rfl))
        refine schedEnd_ ?_
        refine sched_ [(39, some 49), (40, some 50), (41, some 51), (42, some 52), (43, some 53), (44, some 54), (45, some 55), (46, some 56), (47, some 57), (48, some 58), (49, some 59), (50, some 60), (51, some 61), (52, some 62), (53, some 63), (54, some 64), (55, some 65)] ?_
        iterate 17 (refine quietOff_ (a' := ?_) rfl rfl (take_ofW HT_.out HW_.out (by kernel_rfl)) (fun _ _ _ h => h) ⟨by rfl, rfl⟩ hHeld ?_ ?_; rotate_left; (simp only [Act.put, List.setIfInBounds_toArray, List.set_cons_zero, List.set_cons_succ, i64_w, i32_w]; rfl))
        refine schedEnd_ ?_
        refine sched_ [(56, some 66)] ?_
        iterate 1 (refine quiet_ (v := ?_) (a' := ?_) rfl rfl (take_ofW HT_.out HW_.out (by kernel_rfl)) (fun _ _ _ h => h) ⟨by rfl, ?_⟩ hHeld ?_ ?_; rotate_left; (rintro w' ⟨s0, s1, s2, s3, s4, s5⟩; go_simp; with_reducible rfl); rotate_left; (simp only [Act.put, List.setIfInBounds_toArray, List.set_cons_zero, List.set_cons_succ, i64_w, i32_w]; rfl))
        refine schedEnd_ ?_
        refine done_ (done_of HT_.out (by kernel_rfl)) ?_
        try go_wp2
        go_ret
        exact ⟨by first | rfl | (simp [errW_none, errW_some] <;> rfl) | (simp [*, errW_none, errW_some] <;> rfl), by repeat (first | (with_reducible first | exact HB.out | apply below_alloc | apply pw_below_drewN | apply below_drew1) | exact HB.out)⟩
      rw [if_pos c7] at H
      have c7b0 : ((((rd_T75 l0 x3_1).f0).length : Int) == (((rd_T75 l0 0).f0).length : Int)) = true := beq_iff_eq.mpr c7
      have c7b1 : ((((rd_T75 l0 x3_1).f0).length : Int) != (((rd_T75 l0 0).f0).length : Int)) = false := bne_eq_false_iff_eq.mpr c7
      have c7b2 : (((rd_T75 l0 x3_1).f0).length == ((rd_T75 l0 0).f0).length) = true := by first | simpa using c7 | (simp at c7 ⊢; omega)
      clear c7
      by_cases c8 : ((rd_T75 l0 x3_1).f1) = 0
      · rw [if_pos c8] at H
        have c8b0 : (((rd_T75 l0 x3_1).f1) == 0) = true := beq_iff_eq.mpr c8
        have c8b1 : (((rd_T75 l0 x3_1).f1) != 0) = false := bne_eq_false_iff_eq.mpr c8
        clear c8
        obtain rfl := Option.some.inj H
        try go_wp2
        have n0_ := Aside0.mk (below_drew1 HB.out)
        clear HB
        have HB := n0_
        clear n0_
        have p160 : 0 ≤ (x3_1 : Int) := of_decide_eq_true (by first | (with_reducible assumption) | assumption)
        have q160 : x3_1 < (l0.length : Int) := of_decide_eq_true (by first | (with_reducible assumption) | assumption)
        obtain ⟨ad160, A160_0, c160_0, e160, hx160_0, hx160_1, hl160_0, hi160_0⟩ := at_T75 HR0.out x3_1 p160 q160
        have hw160_1 := hx160_1
        have hw160_0 := hx160_0
        cases e160
        replace hx160_0 := (HB.out.cell (World.block_lt_of_cell? w _ hx160_0)).trans hx160_0
        replace hx160_1 := (HB.out.cell (World.block_lt_of_cell? w _ hx160_1)).trans hx160_1
        have HR160_0 := Aside0.mk hi160_0
        have HC160_0 := Aside0.mk hl160_0
        clear hi160_0 hl160_0
        replace p160 := eq_true p160
        replace q160 := eq_true q160
        have p162 : 0 ≤ (x3_1 : Int) := of_decide_eq_true (by first | (with_reducible assumption) | assumption)
        have q162 : x3_1 < (l0.length : Int) := of_decide_eq_true (by first | (with_reducible assumption) | assumption)
        obtain ⟨ad162, A162_0, c162_0, e162, hx162_0, hx162_1, hl162_0, hi162_0⟩ := at_T75 HR0.out x3_1 p162 q162
        have hw162_1 := hx162_1
        have hw162_0 := hx162_0
        obtain rfl : ad160 = ad162 := (by injection e162)
        replace hx162_0 := (HB.out.cell (World.block_lt_of_cell? w _ hx162_0)).trans hx162_0
        replace hx162_1 := (HB.out.cell (World.block_lt_of_cell? w _ hx162_1)).trans hx162_1
        have HR162_0 := Aside0.mk hi162_0
        have HC162_0 := Aside0.mk hl162_0
        clear hi162_0 hl162_0
        replace p162 := eq_true p162
        replace q162 := eq_true q162
        have ea_ := Option.some.inj (hx160_0.symm.trans hx162_0)
        injection ea_ with ea_ en_ ec_
        subst ea_
        subst ec_
        clear en_
        have p163 : 0 ≤ (0 : Int) := (by omega)
        have q163 : 0 < (l0.length : Int) := of_decide_eq_true (by first | (with_reducible assumption) | assumption)
        obtain ⟨ad163, A163_0, c163_0, e163, hx163_0, hx163_1, hl163_0, hi163_0⟩ := at_T75 HR0.out 0 p163 q163
        have hw163_1 := hx163_1
        (try rw [show ((0 : Int)).toNat = 0 from rfl] at hw163_1)
        (try rw [show 0 * 2 = 0 from rfl] at hw163_1)
        (try rw [Addr.add_zero'] at hw163_1)
        have hw163_0 := hx163_0
        (try rw [show ((0 : Int)).toNat = 0 from rfl] at hw163_0)
        (try rw [show 0 * 2 = 0 from rfl] at hw163_0)
        (try rw [Addr.add_zero'] at hw163_0)
        obtain rfl : ad160 = ad163 := (by injection e163)
        have qi163 : (0 < l0.length) = True := eq_true (by omega)
        (try rw [show ((0 : Int)).toNat = 0 from rfl] at hx163_0)
        (try rw [show 0 * 2 = 0 from rfl] at hx163_0)
        (try rw [Addr.add_zero'] at hx163_0)
        (try rw [show ((0 : Int)).toNat = 0 from rfl] at hx163_1)
        (try rw [show 0 * 2 = 0 from rfl] at hx163_1)
        (try rw [Addr.add_zero'] at hx163_1)
        replace hx163_0 := (HB.out.cell (World.block_lt_of_cell? w _ hx163_0)).trans hx163_0
        replace hx163_1 := (HB.out.cell (World.block_lt_of_cell? w _ hx163_1)).trans hx163_1
        have HR163_0 := Aside0.mk hi163_0
        have HC163_0 := Aside0.mk hl163_0
        clear hi163_0 hl163_0
        replace p163 := eq_true p163
        replace q163 := eq_true q163
        have p164 : 0 ≤ (x3_1 : Int) := of_decide_eq_true (by first | (with_reducible assumption) | assumption)
        have q164 : x3_1 < (l0.length : Int) := of_decide_eq_true (by first | (with_reducible assumption) | assumption)
        obtain ⟨ad164, A164_0, c164_0, e164, hx164_0, hx164_1, hl164_0, hi164_0⟩ := at_T75 HR0.out x3_1 p164 q164
        have hw164_1 := hx164_1
        have hw164_0 := hx164_0
        obtain rfl : ad160 = ad164 := (by injection e164)
        replace hx164_0 := (HB.out.cell (World.block_lt_of_cell? w _ hx164_0)).trans hx164_0
        replace hx164_1 := (HB.out.cell (World.block_lt_of_cell? w _ hx164_1)).trans hx164_1
        have HR164_0 := Aside0.mk hi164_0
        have HC164_0 := Aside0.mk hl164_0
        clear hi164_0 hl164_0
        replace p164 := eq_true p164
        replace q164 := eq_true q164
        have ea_ := Option.some.inj (hx160_0.symm.trans hx164_0)
        injection ea_ with ea_ en_ ec_
        subst ea_
        subst ec_
        clear en_
        refine start_ (n := 57) (S := fun w' => w'.cell? (ad160.add ((x3_1).toNat * 2)) = some (.slice A160_0 ((rd_T75 l0 x3_1).f0).length c160_0) ∧ w'.cell? ⟨(ad160.add ((x3_1).toNat * 2)).block, (ad160.add ((x3_1).toNat * 2)).off + 1, none⟩ = some (.int .i64 ((rd_T75 l0 x3_1).f1)) ∧ w'.cell? (ad160.add ((x3_1).toNat * 2)) = some (.slice A160_0 ((rd_T75 l0 x3_1).f0).length c160_0) ∧ w'.cell? ⟨(ad160.add ((x3_1).toNat * 2)).block, (ad160.add ((x3_1).toNat * 2)).off + 1, none⟩ = some (.int .i64 ((rd_T75 l0 x3_1).f1)) ∧ w'.cell? ad160 = some (.slice A163_0 ((rd_T75 l0 0).f0).length c163_0) ∧ w'.cell? ⟨ad160.block, ad160.off + 1, none⟩ = some (.int .i64 ((rd_T75 l0 0).f1)) ∧ w'.cell? (ad160.add ((x3_1).toNat * 2)) = some (.slice A160_0 ((rd_T75 l0 x3_1).f0).length c160_0) ∧ w'.cell? ⟨(ad160.add ((x3_1).toNat * 2)).block, (ad160.add ((x3_1).toNat * 2)).off + 1, none⟩ = some (.int .i64 ((rd_T75 l0 x3_1).f1))) (ds := []) #[false, false, false, false, false, false, false, false, false, false, false, false, false, false, false, false, false, false, false, false, false, false, false, false, false, false, false, false, false, false, false, false, false, false, false, false, false, false, false, false, false, false, false, false, false, false, false, false, false, false, false, false, false, false, false, false, false] (by kernel_rfl) rfl rfl ⟨((HB.out.cell (World.block_lt_of_cell? w _ hw160_0)).trans hw160_0), ((HB.out.cell (World.block_lt_of_cell? w _ hw160_1)).trans hw160_1), ((HB.out.cell (World.block_lt_of_cell? w _ hw162_0)).trans hw162_0), ((HB.out.cell (World.block_lt_of_cell? w _ hw162_1)).trans hw162_1), ((HB.out.cell (World.block_lt_of_cell? w _ hw163_0)).trans hw163_0), ((HB.out.cell (World.block_lt_of_cell? w _ hw163_1)).trans hw163_1), ((HB.out.cell (World.block_lt_of_cell? w _ hw164_0)).trans hw164_0), ((HB.out.cell (World.block_lt_of_cell? w _ hw164_1)).trans hw164_1)⟩ (fun hHeld => ?_); refine with_tabW spec_validZSet.tab4 spec_validZSet.bits4 (fun HT_ HW_ => ?_)
        generalize wr.drew = w9 at HB HR160_0 HR162_0 HR163_0 HR164_0 hx160_0 hx160_1 hx162_0 hx162_1 hx163_0 hx163_1 hx164_0 hx164_1 hHeld ⊢
        refine sched_ [(0, some 10), (1, some 11), (2, some 12), (3, some 13), (4, some 14)] ?_
        iterate 5 (refine quiet_ (v := ?_) (a' := ?_) rfl rfl (take_ofW HT_.out HW_.out (by kernel_rfl)) (fun _ _ _ h => h) ⟨by rfl, ?_⟩ hHeld ?_ ?_; rotate_left; (rintro w' ⟨s0, s1, s2, s3, s4, s5, s6, s7⟩; go_simp; with_reducible rfl); rotate_left; (simp only [Act.put, List.setIfInBounds_toArray, List.set_cons_zero, List.set_cons_succ, i64_w, i32_w]; rfl))
        refine schedEnd_ ?_
        refine one_ (i := 5) (N := some 15) #[true, true, true, true, true, true, false, false, false, false, false, false, false, false, false, false, false, false, false, false, false, false, false, false, false, false, false, false, false, false, false, false, false, false, false, false, false, false, false, false, false, false, false, false, false, false, false, false, false, false, false, false, false, false, false, false, false] rfl rfl (one_of HT_.out (by kernel_rfl)) (by decide) (fun K hK => ?_)
        refine goes_ Try.func102 (by kernel_rfl) rfl #[.slice A160_0 ((rd_T75 l0 x3_1).f0).length c160_0] (by rfl) rfl rfl (by (try simp only [List.map_toArray, List.map_cons, List.map_nil]); first | done | rfl | (simp only [List.length_drop, List.length_take]; rfl)) ?_
        with_reducible refine (spec_validRow.calls k1 _ _ ((rd_T75 l0 x3_1).f0) true _ ?side1 ?side2 A4.out).mono ?_
        (case side1 => repeat (first | exact (Kd.C_below HR160_0.out HB.out) | (with_reducible refine Kd.C_alloc ?_ _) | (with_reducible refine Kd.C_drewN ?_ _) | (with_reducible refine Kd.C_drew ?_)))
        (case side2 => exact HC160_0.out)
        rintro e w' ⟨rfl, ⟨nd, rfl⟩⟩
        refine ⟨_, rfl, ?_⟩
        refine hK.out _ _ ⟨((HB.out.cell (World.block_lt_of_cell? w _ hw160_0)).trans hw160_0), ((HB.out.cell (World.block_lt_of_cell? w _ hw160_1)).trans hw160_1), ((HB.out.cell (World.block_lt_of_cell? w _ hw162_0)).trans hw162_0), ((HB.out.cell (World.block_lt_of_cell? w _ hw162_1)).trans hw162_1), ((HB.out.cell (World.block_lt_of_cell? w _ hw163_0)).trans hw163_0), ((HB.out.cell (World.block_lt_of_cell? w _ hw163_1)).trans hw163_1), ((HB.out.cell (World.block_lt_of_cell? w _ hw164_0)).trans hw164_0), ((HB.out.cell (World.block_lt_of_cell? w _ hw164_1)).trans hw164_1)⟩ (fun hHeld => ?_)
        clear hK K
        refine norm_ (a' := ?_) ?_ ?_
        rotate_left
        · show Act.put _ (some 15) _ = _
          simp only [Act.put, List.setIfInBounds_toArray, List.set_cons_zero, List.set_cons_succ, i64_w, i32_w]
          rfl
        refine sched_ [(6, some 16), (7, some 17), (8, some 18), (9, some 19), (10, some 20), (11, some 21), (14, some 24), (15, some 25), (16, some 26), (12, some 22), (13, some 23), (17, some 27), (18, some 28), (19, some 29), (20, some 30), (21, some 31), (22, some 32), (23, some 33), (24, some 34), (25, some 35), (26, some 36), (27, some 37), (28, some 38), (29, some 39)] ?_
        iterate 24 (refine quiet_ (v := ?_) (a' := ?_) rfl rfl (take_ofW HT_.out HW_.out (by kernel_rfl)) (fun _ _ _ h => h) ⟨by rfl, ?_⟩ hHeld ?_ ?_; rotate_left; (rintro w' ⟨s0, s1, s2, s3, s4, s5, s6, s7⟩; go_simp; with_reducible rfl); rotate_left; (simp only [Act.put, List.setIfInBounds_toArray, List.set_cons_zero, List.set_cons_succ, i64_w, i32_w]; rfl))
        refine schedEnd_ ?_
        refine sched_ [(30, some 40), (31, some 41), (32, some 42), (33, some 43), (34, some 44), (35, some 45), (36, some 46)] ?_
        iterate 7 (refine quietOff_ (a' := ?_) rfl rfl (take_ofW HT_.out HW_.out (by kernel_rfl)) (fun _ _ _ h => h) ⟨by rfl, rfl⟩ hHeld ?_ ?_; rotate_left; (simp only [Act.put, List.setIfInBounds_toArray, List.set_cons_zero, List.set_cons_succ, i64_w, i32_w]; rfl))
        refine schedEnd_ ?_
        refine sched_ [(37, some 47), (38, some 48)] ?_
        iterate 2 (refine quiet_ (v := ?_) (a' := ?_) rfl rfl (take_ofW HT_.out HW_.out (by kernel_rfl)) (fun _ _ _ h => h) ⟨by rfl, ?_⟩ hHeld ?_ ?_; rotate_left; (rintro w' ⟨s0, s1, s2, s3, s4, s5, s6, s7⟩; go_simp; with_reducible rfl); rotate_left; (simp only [Act.put, List.setIfInBounds_toArray, List.set_cons_zero, List.set_cons_succ, i64_w, i32_w]; rfl))
        refine schedEnd_ ?_
        refine sched_ [(39, some 49), (40, some 50), (41, some 51), (42, some 52), (43, some 53), (44, some 54), (45, some 55), (46, some 56), (47, some 57), (48, some 58), (49, some 59), (50, some 60), (51, some 61), (52, some 62), (53, some 63), (54, some 64), (55, some 65)] ?_
        iterate 17 (refine quietOff_ (a' := ?_) rfl rfl (take_ofW HT_.out HW_.out (by kernel_rfl)) (fun _ _ _ h => h) ⟨by rfl, rfl⟩ hHeld ?_ ?_; rotate_left; (simp only [Act.put, List.setIfInBounds_toArray, List.set_cons_zero, List.set_cons_succ, i64_w, i32_w]; rfl))
        refine schedEnd_ ?_
        refine sched_ [(56, some 66)] ?_
        iterate 1 (refine quiet_ (v := ?_) (a' := ?_) rfl rfl (take_ofW HT_.out HW_.out (by kernel_rfl)) (fun _ _ _ h => h) ⟨by rfl, ?_⟩ hHeld ?_ ?_; rotate_left; (rintro w' ⟨s0, s1, s2, s3, s4, s5, s6, s7⟩; go_simp; with_reducible rfl); rotate_left; (simp only [Act.put, List.setIfInBounds_toArray, List.set_cons_zero, List.set_cons_succ, i64_w, i32_w]; rfl))
        refine schedEnd_ ?_
        refine done_ (done_of HT_.out (by kernel_rfl)) ?_
        try go_wp2
        go_ret
        exact ⟨by first | rfl | (simp [errW_none, errW_some] <;> rfl) | (simp [*, errW_none, errW_some] <;> rfl), by repeat (first | (with_reducible first | exact HB.out | apply below_alloc | apply pw_below_drewN | apply below_drew1) | exact HB.out)⟩
      rw [if_neg c8] at H
      have c8b0 : (((rd_T75 l0 x3_1).f1) == 0) = false := beq_eq_false_iff_ne.mpr c8
      have c8b1 : (((rd_T75 l0 x3_1).f1) != 0) = true := bne_iff_ne.mpr c8
      replace H := Option.bind_eq_some_iff.mp H
      obtain ⟨t166, A100, H⟩ := H
      replace H : (if t166 = true then (if x3_1 > 0 then (if 0 ≤ (wrap64 (x3_1 - 1)) then (if (wrap64 (x3_1 - 1)) < (l0.length : Int) then ((spec_rowLess.f k1 ((rd_T75 l0 (wrap64 (x3_1 - 1))).f0) ((rd_T75 l0 x3_1).f0)).bind fun t169 => (if t169 = true then (spec_validZSet.l0 k1 l0 (wrap64 (x3_1 + 1))) else (some false))) else (none)) else (none)) else (spec_validZSet.l0 k1 l0 (wrap64 (x3_1 + 1)))) else (some false)) = some r := H
      have A10 := Aside0.mk A100
      clear A100
      by_cases c11 : t166 = true
      rotate_left
      · replace c11 := Bool.eq_false_iff.mpr c11
        subst c11
        have H1 : (some false) = some r := by rw [if_neg (show ¬ (false = true) by decide)] at H; exact H
        clear H
        have H := H1
        clear H1
        obtain rfl := Option.some.inj H
        try go_wp2
        have n0_ := Aside0.mk (below_drew1 HB.out)
        clear HB
        have HB := n0_
        clear n0_
        have p160 : 0 ≤ (x3_1 : Int) := of_decide_eq_true (by first | (with_reducible assumption) | assumption)
        have q160 : x3_1 < (l0.length : Int) := of_decide_eq_true (by first | (with_reducible assumption) | assumption)
        obtain ⟨ad160, A160_0, c160_0, e160, hx160_0, hx160_1, hl160_0, hi160_0⟩ := at_T75 HR0.out x3_1 p160 q160
        have hw160_1 := hx160_1
        have hw160_0 := hx160_0
        cases e160
        replace hx160_0 := (HB.out.cell (World.block_lt_of_cell? w _ hx160_0)).trans hx160_0
        replace hx160_1 := (HB.out.cell (World.block_lt_of_cell? w _ hx160_1)).trans hx160_1
        have HR160_0 := Aside0.mk hi160_0
        have HC160_0 := Aside0.mk hl160_0
        clear hi160_0 hl160_0
        replace p160 := eq_true p160
        replace q160 := eq_true q160
        have p162 : 0 ≤ (x3_1 : Int) := of_decide_eq_true (by first | (with_reducible assumption) | assumption)
        have q162 : x3_1 < (l0.length : Int) := of_decide_eq_true (by first | (with_reducible assumption) | assumption)
        obtain ⟨ad162, A162_0, c162_0, e162, hx162_0, hx162_1, hl162_0, hi162_0⟩ := at_T75 HR0.out x3_1 p162 q162
        have hw162_1 := hx162_1
        have hw162_0 := hx162_0
        obtain rfl : ad160 = ad162 := (by injection e162)
        replace hx162_0 := (HB.out.cell (World.block_lt_of_cell? w _ hx162_0)).trans hx162_0
        replace hx162_1 := (HB.out.cell (World.block_lt_of_cell? w _ hx162_1)).trans hx162_1
        have HR162_0 := Aside0.mk hi162_0
        have HC162_0 := Aside0.mk hl162_0
        clear hi162_0 hl162_0
        replace p162 := eq_true p162
        replace q162 := eq_true q162
        have ea_ := Option.some.inj (hx160_0.symm.trans hx162_0)
        injection ea_ with ea_ en_ ec_
        subst ea_
        subst ec_
        clear en_
        have p163 : 0 ≤ (0 : Int) := (by omega)
        have q163 : 0 < (l0.length : Int) := of_decide_eq_true (by first | (with_reducible assumption) | assumption)
        obtain ⟨ad163, A163_0, c163_0, e163, hx163_0, hx163_1, hl163_0, hi163_0⟩ := at_T75 HR0.out 0 p163 q163
        have hw163_1 := hx163_1
        (try rw [show ((0 : Int)).toNat = 0 from rfl] at hw163_1)
        (try rw [show 0 * 2 = 0 from rfl] at hw163_1)
        (try rw [Addr.add_zero'] at hw163_1)
        have hw163_0 := hx163_0
        (try rw [show ((0 : Int)).toNat = 0 from rfl] at hw163_0)
        (try rw [show 0 * 2 = 0 from rfl] at hw163_0)
        (try rw [Addr.add_zero'] at hw163_0)
        obtain rfl : ad160 = ad163 := (by injection e163)
        have qi163 : (0 < l0.length) = True := eq_true (by omega)
        (try rw [show ((0 : Int)).toNat = 0 from rfl] at hx163_0)
        (try rw [show 0 * 2 = 0 from rfl] at hx163_0)
        (try rw [Addr.add_zero'] at hx163_0)
        (try rw [show ((0 : Int)).toNat = 0 from rfl] at hx163_1)
        (try rw [show 0 * 2 = 0 from rfl] at hx163_1)
        (try rw [Addr.add_zero'] at hx163_1)
        replace hx163_0 := (HB.out.cell (World.block_lt_of_cell? w _ hx163_0)).trans hx163_0
        replace hx163_1 := (HB.out.cell (World.block_lt_of_cell? w _ hx163_1)).trans hx163_1
        have HR163_0 := Aside0.mk hi163_0
        have HC163_0 := Aside0.mk hl163_0
        clear hi163_0 hl163_0
        replace p163 := eq_true p163
        replace q163 := eq_true q163
        have p164 : 0 ≤ (x3_1 : Int) := of_decide_eq_true (by first | (with_reducible assumption) | assumption)
        have q164 : x3_1 < (l0.length : Int) := of_decide_eq_true (by first | (with_reducible assumption) | assumption)
        obtain ⟨ad164, A164_0, c164_0, e164, hx164_0, hx164_1, hl164_0, hi164_0⟩ := at_T75 HR0.out x3_1 p164 q164
        have hw164_1 := hx164_1
        have hw164_0 := hx164_0
        obtain rfl : ad160 = ad164 := (by injection e164)
        replace hx164_0 := (HB.out.cell (World.block_lt_of_cell? w _ hx164_0)).trans hx164_0
        replace hx164_1 := (HB.out.cell (World.block_lt_of_cell? w _ hx164_1)).trans hx164_1
        have HR164_0 := Aside0.mk hi164_0
        have HC164_0 := Aside0.mk hl164_0
        clear hi164_0 hl164_0
        replace p164 := eq_true p164
        replace q164 := eq_true q164
        have ea_ := Option.some.inj (hx160_0.symm.trans hx164_0)
        injection ea_ with ea_ en_ ec_
        subst ea_
        subst ec_
        clear en_
        have p165 : 0 ≤ (x3_1 : Int) := of_decide_eq_true (by first | (with_reducible assumption) | assumption)
        have q165 : x3_1 < (l0.length : Int) := of_decide_eq_true (by first | (with_reducible assumption) | assumption)
        obtain ⟨ad165, A165_0, c165_0, e165, hx165_0, hx165_1, hl165_0, hi165_0⟩ := at_T75 HR0.out x3_1 p165 q165
        have hw165_1 := hx165_1
        have hw165_0 := hx165_0
        obtain rfl : ad160 = ad165 := (by injection e165)
        replace hx165_0 := (HB.out.cell (World.block_lt_of_cell? w _ hx165_0)).trans hx165_0
        replace hx165_1 := (HB.out.cell (World.block_lt_of_cell? w _ hx165_1)).trans hx165_1
        have HR165_0 := Aside0.mk hi165_0
        have HC165_0 := Aside0.mk hl165_0
        clear hi165_0 hl165_0
        replace p165 := eq_true p165
        replace q165 := eq_true q165
        have ea_ := Option.some.inj (hx160_0.symm.trans hx165_0)
        injection ea_ with ea_ en_ ec_
        subst ea_
        subst ec_
        clear en_
        refine start_ (n := 57) (S := fun w' => w'.cell? (ad160.add ((x3_1).toNat * 2)) = some (.slice A160_0 ((rd_T75 l0 x3_1).f0).length c160_0) ∧ w'.cell? ⟨(ad160.add ((x3_1).toNat * 2)).block, (ad160.add ((x3_1).toNat * 2)).off + 1, none⟩ = some (.int .i64 ((rd_T75 l0 x3_1).f1)) ∧ w'.cell? (ad160.add ((x3_1).toNat * 2)) = some (.slice A160_0 ((rd_T75 l0 x3_1).f0).length c160_0) ∧ w'.cell? ⟨(ad160.add ((x3_1).toNat * 2)).block, (ad160.add ((x3_1).toNat * 2)).off + 1, none⟩ = some (.int .i64 ((rd_T75 l0 x3_1).f1)) ∧ w'.cell? ad160 = some (.slice A163_0 ((rd_T75 l0 0).f0).length c163_0) ∧ w'.cell? ⟨ad160.block, ad160.off + 1, none⟩ = some (.int .i64 ((rd_T75 l0 0).f1)) ∧ w'.cell? (ad160.add ((x3_1).toNat * 2)) = some (.slice A160_0 ((rd_T75 l0 x3_1).f0).length c160_0) ∧ w'.cell? ⟨(ad160.add ((x3_1).toNat * 2)).block, (ad160.add ((x3_1).toNat * 2)).off + 1, none⟩ = some (.int .i64 ((rd_T75 l0 x3_1).f1)) ∧ w'.cell? (ad160.add ((x3_1).toNat * 2)) = some (.slice A160_0 ((rd_T75 l0 x3_1).f0).length c160_0) ∧ w'.cell? ⟨(ad160.add ((x3_1).toNat * 2)).block, (ad160.add ((x3_1).toNat * 2)).off + 1, none⟩ = some (.int .i64 ((rd_T75 l0 x3_1).f1))) (ds := []) #[false, false, false, false, false, false, false, false, false, false, false, false, false, false, false, false, false, false, false, false, false, false, false, false, false, false, false, false, false, false, false, false, false, false, false, false, false, false, false, false, false, false, false, false, false, false, false, false, false, false, false, false, false, false, false, false, false] (by kernel_rfl) rfl rfl ⟨((HB.out.cell (World.block_lt_of_cell? w _ hw160_0)).trans hw160_0), ((HB.out.cell (World.block_lt_of_cell? w _ hw160_1)).trans hw160_1), ((HB.out.cell (World.block_lt_of_cell? w _ hw162_0)).trans hw162_0), ((HB.out.cell (World.block_lt_of_cell? w _ hw162_1)).trans hw162_1), ((HB.out.cell (World.block_lt_of_cell? w _ hw163_0)).trans hw163_0), ((HB.out.cell (World.block_lt_of_cell? w _ hw163_1)).trans hw163_1), ((HB.out.cell (World.block_lt_of_cell? w _ hw164_0)).trans hw164_0), ((HB.out.cell (World.block_lt_of_cell? w _ hw164_1)).trans hw164_1), ((HB.out.cell (World.block_lt_of_cell? w _ hw165_0)).trans hw165_0), ((HB.out.cell (World.block_lt_of_cell? w _ hw165_1)).trans hw165_1)⟩ (fun hHeld => ?_); refine with_tabW spec_validZSet.tab4 spec_validZSet.bits4 (fun HT_ HW_ => ?_)
        generalize wr.drew = w21 at HB HR160_0 HR162_0 HR163_0 HR164_0 HR165_0 hx160_0 hx160_1 hx162_0 hx162_1 hx163_0 hx163_1 hx164_0 hx164_1 hx165_0 hx165_1 hHeld ⊢
        refine sched_ [(0, some 10), (1, some 11), (2, some 12), (3, some 13), (4, some 14)] ?_
        iterate 5 (refine quiet_ (v := ?_) (a' := ?_) rfl rfl (take_ofW HT_.out HW_.out (by kernel_rfl)) (fun _ _ _ h => h) ⟨by rfl, ?_⟩ hHeld ?_ ?_; rotate_left; (rintro w' ⟨s0, s1, s2, s3, s4, s5, s6, s7, s8, s9⟩; go_simp; with_reducible rfl); rotate_left; (simp only [Act.put, List.setIfInBounds_toArray, List.set_cons_zero, List.set_cons_succ, i64_w, i32_w]; rfl))
        refine schedEnd_ ?_
        refine one_ (i := 5) (N := some 15) #[true, true, true, true, true, true, false, false, false, false, false, false, false, false, false, false, false, false, false, false, false, false, false, false, false, false, false, false, false, false, false, false, false, false, false, false, false, false, false, false, false, false, false, false, false, false, false, false, false, false, false, false, false, false, false, false, false] rfl rfl (one_of HT_.out (by kernel_rfl)) (by decide) (fun K hK => ?_)
        refine goes_ Try.func102 (by kernel_rfl) rfl #[.slice A160_0 ((rd_T75 l0 x3_1).f0).length c160_0] (by rfl) rfl rfl (by (try simp only [List.map_toArray, List.map_cons, List.map_nil]); first | done | rfl | (simp only [List.length_drop, List.length_take]; rfl)) ?_
        with_reducible refine (spec_validRow.calls k1 _ _ ((rd_T75 l0 x3_1).f0) true _ ?side1 ?side2 A4.out).mono ?_
        (case side1 => repeat (first | exact (Kd.C_below HR160_0.out HB.out) | (with_reducible refine Kd.C_alloc ?_ _) | (with_reducible refine Kd.C_drewN ?_ _) | (with_reducible refine Kd.C_drew ?_)))
        (case side2 => exact HC160_0.out)
        rintro e w' ⟨rfl, ⟨nd, rfl⟩⟩
        refine ⟨_, rfl, ?_⟩
        refine hK.out _ _ ⟨((HB.out.cell (World.block_lt_of_cell? w _ hw160_0)).trans hw160_0), ((HB.out.cell (World.block_lt_of_cell? w _ hw160_1)).trans hw160_1), ((HB.out.cell (World.block_lt_of_cell? w _ hw162_0)).trans hw162_0), ((HB.out.cell (World.block_lt_of_cell? w _ hw162_1)).trans hw162_1), ((HB.out.cell (World.block_lt_of_cell? w _ hw163_0)).trans hw163_0), ((HB.out.cell (World.block_lt_of_cell? w _ hw163_1)).trans hw163_1), ((HB.out.cell (World.block_lt_of_cell? w _ hw164_0)).trans hw164_0), ((HB.out.cell (World.block_lt_of_cell? w _ hw164_1)).trans hw164_1), ((HB.out.cell (World.block_lt_of_cell? w _ hw165_0)).trans hw165_0), ((HB.out.cell (World.block_lt_of_cell? w _ hw165_1)).trans hw165_1)⟩ (fun hHeld => ?_)
        clear hK K
        refine norm_ (a' := ?_) ?_ ?_
        rotate_left
        · show Act.put _ (some 15) _ = _
          simp only [Act.put, List.setIfInBounds_toArray, List.set_cons_zero, List.set_cons_succ, i64_w, i32_w]
          rfl
        refine sched_ [(6, some 16), (7, some 17), (8, some 18), (9, some 19), (10, some 20), (11, some 21), (14, some 24), (15, some 25), (16, some 26), (12, some 22), (13, some 23), (17, some 27), (18, some 28), (19, some 29), (20, some 30), (21, some 31), (22, some 32), (23, some 33), (24, some 34), (25, some 35), (26, some 36), (27, some 37), (28, some 38), (29, some 39), (30, some 40), (31, some 41), (32, some 42), (33, some 43), (34, some 44)] ?_
        iterate 29 (refine quiet_ (v := ?_) (a' := ?_) rfl rfl (take_ofW HT_.out HW_.out (by kernel_rfl)) (fun _ _ _ h => h) ⟨by rfl, ?_⟩ hHeld ?_ ?_; rotate_left; (rintro w' ⟨s0, s1, s2, s3, s4, s5, s6, s7, s8, s9⟩; go_simp; with_reducible rfl); rotate_left; (simp only [Act.put, List.setIfInBounds_toArray, List.set_cons_zero, List.set_cons_succ, i64_w, i32_w]; rfl))
        refine schedEnd_ ?_
        refine one_ (i := 35) (N := some 45) #[true, true, true, true, true, true, true, true, true, true, true, true, true, true, true, true, true, true, true, true, true, true, true, true, true, true, true, true, true, true, true, true, true, true, true, true, false, false, false, false, false, false, false, false, false, false, false, false, false, false, false, false, false, false, false, false, false] rfl rfl (one_of HT_.out (by kernel_rfl)) (by decide) (fun K hK => ?_)
        refine goes_ Try.func48 (by kernel_rfl) rfl #[.int .i64 ((rd_T75 l0 x3_1).f1), .int .i64 (-1000000), .int .i64 1000000] (by rfl) rfl rfl (by (try simp only [List.map_toArray, List.map_cons, List.map_nil]); first | done | rfl | (simp only [List.length_drop, List.length_take]; rfl)) ?_
        with_reducible refine (spec_inRange.calls ((rd_T75 l0 x3_1).f1) (-1000000) 1000000 false _ A10.out).mono ?_
        rintro e w' ⟨rfl, ⟨nd, rfl⟩⟩
        refine ⟨_, rfl, ?_⟩
        refine hK.out _ _ ⟨((HB.out.cell (World.block_lt_of_cell? w _ hw160_0)).trans hw160_0), ((HB.out.cell (World.block_lt_of_cell? w _ hw160_1)).trans hw160_1), ((HB.out.cell (World.block_lt_of_cell? w _ hw162_0)).trans hw162_0), ((HB.out.cell (World.block_lt_of_cell? w _ hw162_1)).trans hw162_1), ((HB.out.cell (World.block_lt_of_cell? w _ hw163_0)).trans hw163_0), ((HB.out.cell (World.block_lt_of_cell? w _ hw163_1)).trans hw163_1), ((HB.out.cell (World.block_lt_of_cell? w _ hw164_0)).trans hw164_0), ((HB.out.cell (World.block_lt_of_cell? w _ hw164_1)).trans hw164_1), ((HB.out.cell (World.block_lt_of_cell? w _ hw165_0)).trans hw165_0), ((HB.out.cell (World.block_lt_of_cell? w _ hw165_1)).trans hw165_1)⟩ (fun hHeld => ?_)
        clear hK K
        refine norm_ (a' := ?_) ?_ ?_
        rotate_left
        · show Act.put _ (some 45) _ = _
          simp only [Act.put, List.setIfInBounds_toArray, List.set_cons_zero, List.set_cons_succ, i64_w, i32_w]
          rfl
        refine sched_ [(36, some 46), (37, some 47), (38, some 48)] ?_
        iterate 3 (refine quiet_ (v := ?_) (a' := ?_) rfl rfl (take_ofW HT_.out HW_.out (by kernel_rfl)) (fun _ _ _ h => h) ⟨by rfl, ?_⟩ hHeld ?_ ?_; rotate_left; (rintro w' ⟨s0, s1, s2, s3, s4, s5, s6, s7, s8, s9⟩; go_simp; with_reducible rfl); rotate_left; (simp only [Act.put, List.setIfInBounds_toArray, List.set_cons_zero, List.set_cons_succ, i64_w, i32_w]; rfl))
        refine schedEnd_ ?_
        refine sched_ [(39, some 49), (40, some 50), (41, some 51), (42, some 52), (43, some 53), (44, some 54), (45, some 55), (46, some 56), (47, some 57), (48, some 58), (49, some 59), (50, some 60), (51, some 61), (52, some 62), (53, some 63), (54, some 64), (55, some 65)] ?_
        iterate 17 (refine quietOff_ (a' := ?_) rfl rfl (take_ofW HT_.out HW_.out (by kernel_rfl)) (fun _ _ _ h => h) ⟨by rfl, rfl⟩ hHeld ?_ ?_; rotate_left; (simp only [Act.put, List.setIfInBounds_toArray, List.set_cons_zero, List.set_cons_succ, i64_w, i32_w]; rfl))
        refine schedEnd_ ?_
        refine sched_ [(56, some 66)] ?_
        iterate 1 (refine quiet_ (v := ?_) (a' := ?_) rfl rfl (take_ofW HT_.out HW_.out (by kernel_rfl)) (fun _ _ _ h => h) ⟨by rfl, ?_⟩ hHeld ?_ ?_; rotate_left; (rintro w' ⟨s0, s1, s2, s3, s4, s5, s6, s7, s8, s9⟩; go_simp; with_reducible rfl); rotate_left; (simp only [Act.put, List.setIfInBounds_toArray, List.set_cons_zero, List.set_cons_succ, i64_w, i32_w]; rfl))
        refine schedEnd_ ?_
        refine done_ (done_of HT_.out (by kernel_rfl)) ?_
        try go_wp2
        go_ret
        exact ⟨by first | rfl | (simp [errW_none, errW_some] <;> rfl) | (simp [*, errW_none, errW_some] <;> rfl), by repeat (first | (with_reducible first | exact HB.out | apply below_alloc | apply pw_below_drewN | apply below_drew1) | exact HB.out)⟩
      subst c11
      have H1 : (if x3_1 > 0 then (if 0 ≤ (wrap64 (x3_1 - 1)) then (if (wrap64 (x3_1 - 1)) < (l0.length : Int) then ((spec_rowLess.f k1 ((rd_T75 l0 (wrap64 (x3_1 - 1))).f0) ((rd_T75 l0 x3_1).f0)).bind fun t169 => (if t169 = true then (spec_validZSet.l0 k1 l0 (wrap64 (x3_1 + 1))) else (some false))) else (none)) else (none)) else (spec_validZSet.l0 k1 l0 (wrap64 (x3_1 + 1)))) = some r := by rw [if_pos rfl] at H; exact H
      clear H
      have H := H1
      clear H1
      by_cases c12 : x3_1 > 0
      rotate_left
      · rw [if_neg c12] at H
        have c12b0 : decide (0 < x3_1) = false := decide_eq_false c12
        clear c12
        have H' := Aside0.mk H
        clear H
        try go_wp2
        have n0_ := Aside0.mk (below_drew1 HB.out)
        clear HB
        have HB := n0_
        clear n0_
        have p160 : 0 ≤ (x3_1 : Int) := of_decide_eq_true (by first | (with_reducible assumption) | assumption)
        have q160 : x3_1 < (l0.length : Int) := of_decide_eq_true (by first | (with_reducible assumption) | assumption)
        obtain ⟨ad160, A160_0, c160_0, e160, hx160_0, hx160_1, hl160_0, hi160_0⟩ := at_T75 HR0.out x3_1 p160 q160
        have hw160_1 := hx160_1
        have hw160_0 := hx160_0
        cases e160
        replace hx160_0 := (HB.out.cell (World.block_lt_of_cell? w _ hx160_0)).trans hx160_0
        replace hx160_1 := (HB.out.cell (World.block_lt_of_cell? w _ hx160_1)).trans hx160_1
        have HR160_0 := Aside0.mk hi160_0
        have HC160_0 := Aside0.mk hl160_0
        clear hi160_0 hl160_0
        replace p160 := eq_true p160
        replace q160 := eq_true q160
        have p162 : 0 ≤ (x3_1 : Int) := of_decide_eq_true (by first | (with_reducible assumption) | assumption)
        have q162 : x3_1 < (l0.length : Int) := of_decide_eq_true (by first | (with_reducible assumption) | assumption)
        obtain ⟨ad162, A162_0, c162_0, e162, hx162_0, hx162_1, hl162_0, hi162_0⟩ := at_T75 HR0.out x3_1 p162 q162
        have hw162_1 := hx162_1
        have hw162_0 := hx162_0
        obtain rfl : ad160 = ad162 := (by injection e162)
        replace hx162_0 := (HB.out.cell (World.block_lt_of_cell? w _ hx162_0)).trans hx162_0
        replace hx162_1 := (HB.out.cell (World.block_lt_of_cell? w _ hx162_1)).trans hx162_1
        have HR162_0 := Aside0.mk hi162_0
        have HC162_0 := Aside0.mk hl162_0
        clear hi162_0 hl162_0
        replace p162 := eq_true p162
        replace q162 := eq_true q162
        have ea_ := Option.some.inj (hx160_0.symm.trans hx162_0)
        injection ea_ with ea_ en_ ec_
        subst ea_
        subst ec_
        clear en_
        have p163 : 0 ≤ (0 : Int) := (by omega)
        have q163 : 0 < (l0.length : Int) := of_decide_eq_true (by first | (with_reducible assumption) | assumption)
        obtain ⟨ad163, A163_0, c163_0, e163, hx163_0, hx163_1, hl163_0, hi163_0⟩ := at_T75 HR0.out 0 p163 q163
        have hw163_1 := hx163_1
        (try rw [show ((0 : Int)).toNat = 0 from rfl] at hw163_1)
        (try rw [show 0 * 2 = 0 from rfl] at hw163_1)
        (try rw [Addr.add_zero'] at hw163_1)
        have hw163_0 := hx163_0
        (try rw [show ((0 : Int)).toNat = 0 from rfl] at hw163_0)
        (try rw [show 0 * 2 = 0 from rfl] at hw163_0)
        (try rw [Addr.add_zero'] at hw163_0)
        obtain rfl : ad160 = ad163 := (by injection e163)
        have qi163 : (0 < l0.length) = True := eq_true (by omega)
        (try rw [show ((0 : Int)).toNat = 0 from rfl] at hx163_0)
        (try rw [show 0 * 2 = 0 from rfl] at hx163_0)
        (try rw [Addr.add_zero'] at hx163_0)
        (try rw [show ((0 : Int)).toNat = 0 from rfl] at hx163_1)
        (try rw [show 0 * 2 = 0 from rfl] at hx163_1)
        (try rw [Addr.add_zero'] at hx163_1)
        replace hx163_0 := (HB.out.cell (World.block_lt_of_cell? w _ hx163_0)).trans hx163_0
        replace hx163_1 := (HB.out.cell (World.block_lt_of_cell? w _ hx163_1)).trans hx163_1
        have HR163_0 := Aside0.mk hi163_0
        have HC163_0 := Aside0.mk hl163_0
        clear hi163_0 hl163_0
        replace p163 := eq_true p163
        replace q163 := eq_true q163
        have p164 : 0 ≤ (x3_1 : Int) := of_decide_eq_true (by first | (with_reducible assumption) | assumption)
        have q164 : x3_1 < (l0.length : Int) := of_decide_eq_true (by first | (with_reducible assumption) | assumption)
        obtain ⟨ad164, A164_0, c164_0, e164, hx164_0, hx164_1, hl164_0, hi164_0⟩ := at_T75 HR0.out x3_1 p164 q164
        have hw164_1 := hx164_1
        have hw164_0 := hx164_0
        obtain rfl : ad160 = ad164 := (by injection e164)
        replace hx164_0 := (HB.out.cell (World.block_lt_of_cell? w _ hx164_0)).trans hx164_0
        replace hx164_1 := (HB.out.cell (World.block_lt_of_cell? w _ hx164_1)).trans hx164_1
        have HR164_0 := Aside0.mk hi164_0
        have HC164_0 := Aside0.mk hl164_0
        clear hi164_0 hl164_0
        replace p164 := eq_true p164
        replace q164 := eq_true q164
        have ea_ := Option.some.inj (hx160_0.symm.trans hx164_0)
        injection ea_ with ea_ en_ ec_
        subst ea_
        subst ec_
        clear en_
        have p165 : 0 ≤ (x3_1 : Int) := of_decide_eq_true (by first | (with_reducible assumption) | assumption)
        have q165 : x3_1 < (l0.length : Int) := of_decide_eq_true (by first | (with_reducible assumption) | assumption)
        obtain ⟨ad165, A165_0, c165_0, e165, hx165_0, hx165_1, hl165_0, hi165_0⟩ := at_T75 HR0.out x3_1 p165 q165
        have hw165_1 := hx165_1
        have hw165_0 := hx165_0
        obtain rfl : ad160 = ad165 := (by injection e165)
        replace hx165_0 := (HB.out.cell (World.block_lt_of_cell? w _ hx165_0)).trans hx165_0
        replace hx165_1 := (HB.out.cell (World.block_lt_of_cell? w _ hx165_1)).trans hx165_1
        have HR165_0 := Aside0.mk hi165_0
        have HC165_0 := Aside0.mk hl165_0
        clear hi165_0 hl165_0
        replace p165 := eq_true p165
        replace q165 := eq_true q165
        have ea_ := Option.some.inj (hx160_0.symm.trans hx165_0)
        injection ea_ with ea_ en_ ec_
        subst ea_
        subst ec_
        clear en_
        refine start_ (n := 57) (S := fun w' => w'.cell? (ad160.add ((x3_1).toNat * 2)) = some (.slice A160_0 ((rd_T75 l0 x3_1).f0).length c160_0) ∧ w'.cell? ⟨(ad160.add ((x3_1).toNat * 2)).block, (ad160.add ((x3_1).toNat * 2)).off + 1, none⟩ = some (.int .i64 ((rd_T75 l0 x3_1).f1)) ∧ w'.cell? (ad160.add ((x3_1).toNat * 2)) = some (.slice A160_0 ((rd_T75 l0 x3_1).f0).length c160_0) ∧ w'.cell? ⟨(ad160.add ((x3_1).toNat * 2)).block, (ad160.add ((x3_1).toNat * 2)).off + 1, none⟩ = some (.int .i64 ((rd_T75 l0 x3_1).f1)) ∧ w'.cell? ad160 = some (.slice A163_0 ((rd_T75 l0 0).f0).length c163_0) ∧ w'.cell? ⟨ad160.block, ad160.off + 1, none⟩ = some (.int .i64 ((rd_T75 l0 0).f1)) ∧ w'.cell? (ad160.add ((x3_1).toNat * 2)) = some (.slice A160_0 ((rd_T75 l0 x3_1).f0).length c160_0) ∧ w'.cell? ⟨(ad160.add ((x3_1).toNat * 2)).block, (ad160.add ((x3_1).toNat * 2)).off + 1, none⟩ = some (.int .i64 ((rd_T75 l0 x3_1).f1)) ∧ w'.cell? (ad160.add ((x3_1).toNat * 2)) = some (.slice A160_0 ((rd_T75 l0 x3_1).f0).length c160_0) ∧ w'.cell? ⟨(ad160.add ((x3_1).toNat * 2)).block, (ad160.add ((x3_1).toNat * 2)).off + 1, none⟩ = some (.int .i64 ((rd_T75 l0 x3_1).f1))) (ds := []) #[false, false, false, false, false, false, false, false, false, false, false, false, false, false, false, false, false, false, false, false, false, false, false, false, false, false, false, false, false, false, false, false, false, false, false, false, false, false, false, false, false, false, false, false, false, false, false, false, false, false, false, false, false, false, false, false, false] (by kernel_rfl) rfl rfl ⟨((HB.out.cell (World.block_lt_of_cell? w _ hw160_0)).trans hw160_0), ((HB.out.cell (World.block_lt_of_cell? w _ hw160_1)).trans hw160_1), ((HB.out.cell (World.block_lt_of_cell? w _ hw162_0)).trans hw162_0), ((HB.out.cell (World.block_lt_of_cell? w _ hw162_1)).trans hw162_1), ((HB.out.cell (World.block_lt_of_cell? w _ hw163_0)).trans hw163_0), ((HB.out.cell (World.block_lt_of_cell? w _ hw163_1)).trans hw163_1), ((HB.out.cell (World.block_lt_of_cell? w _ hw164_0)).trans hw164_0), ((HB.out.cell (World.block_lt_of_cell? w _ hw164_1)).trans hw164_1), ((HB.out.cell (World.block_lt_of_cell? w _ hw165_0)).trans hw165_0), ((HB.out.cell (World.block_lt_of_cell? w _ hw165_1)).trans hw165_1)⟩ (fun hHeld => ?_); refine with_tabW spec_validZSet.tab4 spec_validZSet.bits4 (fun HT_ HW_ => ?_)
        generalize wr.drew = w20 at HB HR160_0 HR162_0 HR163_0 HR164_0 HR165_0 hx160_0 hx160_1 hx162_0 hx162_1 hx163_0 hx163_1 hx164_0 hx164_1 hx165_0 hx165_1 hHeld ⊢
        refine sched_ [(0, some 10), (1, some 11), (2, some 12), (3, some 13), (4, some 14)] ?_
        iterate 5 (refine quiet_ (v := ?_) (a' := ?_) rfl rfl (take_ofW HT_.out HW_.out (by kernel_rfl)) (fun _ _ _ h => h) ⟨by rfl, ?_⟩ hHeld ?_ ?_; rotate_left; (rintro w' ⟨s0, s1, s2, s3, s4, s5, s6, s7, s8, s9⟩; go_simp; with_reducible rfl); rotate_left; (simp only [Act.put, List.setIfInBounds_toArray, List.set_cons_zero, List.set_cons_succ, i64_w, i32_w]; rfl))
        refine schedEnd_ ?_
        refine one_ (i := 5) (N := some 15) #[true, true, true, true, true, true, false, false, false, false, false, false, false, false, false, false, false, false, false, false, false, false, false, false, false, false, false, false, false, false, false, false, false, false, false, false, false, false, false, false, false, false, false, false, false, false, false, false, false, false, false, false, false, false, false, false, false] rfl rfl (one_of HT_.out (by kernel_rfl)) (by decide) (fun K hK => ?_)
        refine goes_ Try.func102 (by kernel_rfl) rfl #[.slice A160_0 ((rd_T75 l0 x3_1).f0).length c160_0] (by rfl) rfl rfl (by (try simp only [List.map_toArray, List.map_cons, List.map_nil]); first | done | rfl | (simp only [List.length_drop, List.length_take]; rfl)) ?_
        with_reducible refine (spec_validRow.calls k1 _ _ ((rd_T75 l0 x3_1).f0) true _ ?side1 ?side2 A4.out).mono ?_
        (case side1 => repeat (first | exact (Kd.C_below HR160_0.out HB.out) | (with_reducible refine Kd.C_alloc ?_ _) | (with_reducible refine Kd.C_drewN ?_ _) | (with_reducible refine Kd.C_drew ?_)))
        (case side2 => exact HC160_0.out)
        rintro e w' ⟨rfl, ⟨nd, rfl⟩⟩
        refine ⟨_, rfl, ?_⟩
        refine hK.out _ _ ⟨((HB.out.cell (World.block_lt_of_cell? w _ hw160_0)).trans hw160_0), ((HB.out.cell (World.block_lt_of_cell? w _ hw160_1)).trans hw160_1), ((HB.out.cell (World.block_lt_of_cell? w _ hw162_0)).trans hw162_0), ((HB.out.cell (World.block_lt_of_cell? w _ hw162_1)).trans hw162_1), ((HB.out.cell (World.block_lt_of_cell? w _ hw163_0)).trans hw163_0), ((HB.out.cell (World.block_lt_of_cell? w _ hw163_1)).trans hw163_1), ((HB.out.cell (World.block_lt_of_cell? w _ hw164_0)).trans hw164_0), ((HB.out.cell (World.block_lt_of_cell? w _ hw164_1)).trans hw164_1), ((HB.out.cell (World.block_lt_of_cell? w _ hw165_0)).trans hw165_0), ((HB.out.cell (World.block_lt_of_cell? w _ hw165_1)).trans hw165_1)⟩ (fun hHeld => ?_)
        clear hK K
        refine norm_ (a' := ?_) ?_ ?_
        rotate_left
        · show Act.put _ (some 15) _ = _
          simp only [Act.put, List.setIfInBounds_toArray, List.set_cons_zero, List.set_cons_succ, i64_w, i32_w]
          rfl
        refine sched_ [(6, some 16), (7, some 17), (8, some 18), (9, some 19), (10, some 20), (11, some 21), (14, some 24), (15, some 25), (16, some 26), (12, some 22), (13, some 23), (17, some 27), (18, some 28), (19, some 29), (20, some 30), (21, some 31), (22, some 32), (23, some 33), (24, some 34), (25, some 35), (26, some 36), (27, some 37), (28, some 38), (29, some 39), (30, some 40), (31, some 41), (32, some 42), (33, some 43), (34, some 44)] ?_
        iterate 29 (refine quiet_ (v := ?_) (a' := ?_) rfl rfl (take_ofW HT_.out HW_.out (by kernel_rfl)) (fun _ _ _ h => h) ⟨by rfl, ?_⟩ hHeld ?_ ?_; rotate_left; (rintro w' ⟨s0, s1, s2, s3, s4, s5, s6, s7, s8, s9⟩; go_simp; with_reducible rfl); rotate_left; (simp only [Act.put, List.setIfInBounds_toArray, List.set_cons_zero, List.set_cons_succ, i64_w, i32_w]; rfl))
        refine schedEnd_ ?_
        refine one_ (i := 35) (N := some 45) #[true, true, true, true, true, true, true, true, true, true, true, true, true, true, true, true, true, true, true, true, true, true, true, true, true, true, true, true, true, true, true, true, true, true, true, true, false, false, false, false, false, false, false, false, false, false, false, false, false, false, false, false, false, false, false, false, false] rfl rfl (one_of HT_.out (by kernel_rfl)) (by decide) (fun K hK => ?_)
        refine goes_ Try.func48 (by kernel_rfl) rfl #[.int .i64 ((rd_T75 l0 x3_1).f1), .int .i64 (-1000000), .int .i64 1000000] (by rfl) rfl rfl (by (try simp only [List.map_toArray, List.map_cons, List.map_nil]); first | done | rfl | (simp only [List.length_drop, List.length_take]; rfl)) ?_
        with_reducible refine (spec_inRange.calls ((rd_T75 l0 x3_1).f1) (-1000000) 1000000 true _ A10.out).mono ?_
        rintro e w' ⟨rfl, ⟨nd, rfl⟩⟩
        refine ⟨_, rfl, ?_⟩
        refine hK.out _ _ ⟨((HB.out.cell (World.block_lt_of_cell? w _ hw160_0)).trans hw160_0), ((HB.out.cell (World.block_lt_of_cell? w _ hw160_1)).trans hw160_1), ((HB.out.cell (World.block_lt_of_cell? w _ hw162_0)).trans hw162_0), ((HB.out.cell (World.block_lt_of_cell? w _ hw162_1)).trans hw162_1), ((HB.out.cell (World.block_lt_of_cell? w _ hw163_0)).trans hw163_0), ((HB.out.cell (World.block_lt_of_cell? w _ hw163_1)).trans hw163_1), ((HB.out.cell (World.block_lt_of_cell? w _ hw164_0)).trans hw164_0), ((HB.out.cell (World.block_lt_of_cell? w _ hw164_1)).trans hw164_1), ((HB.out.cell (World.block_lt_of_cell? w _ hw165_0)).trans hw165_0), ((HB.out.cell (World.block_lt_of_cell? w _ hw165_1)).trans hw165_1)⟩ (fun hHeld => ?_)
        clear hK K
        refine norm_ (a' := ?_) ?_ ?_
        rotate_left
        · show Act.put _ (some 45) _ = _
          simp only [Act.put, List.setIfInBounds_toArray, List.set_cons_zero, List.set_cons_succ, i64_w, i32_w]
          rfl
        refine sched_ [(36, some 46), (37, some 47), (38, some 48), (39, some 49), (40, some 50), (41, some 51)] ?_
        iterate 6 (refine quiet_ (v := ?_) (a' := ?_) rfl rfl (take_ofW HT_.out HW_.out (by kernel_rfl)) (fun _ _ _ h => h) ⟨by rfl, ?_⟩ hHeld ?_ ?_; rotate_left; (rintro w' ⟨s0, s1, s2, s3, s4, s5, s6, s7, s8, s9⟩; go_simp; with_reducible rfl); rotate_left; (simp only [Act.put, List.setIfInBounds_toArray, List.set_cons_zero, List.set_cons_succ, i64_w, i32_w]; rfl))
        refine schedEnd_ ?_
        refine sched_ [(42, some 52), (43, some 53), (44, some 54), (45, some 55), (46, some 56), (47, some 57), (48, some 58), (49, some 59), (50, some 60), (51, some 61), (52, some 62), (53, some 63), (54, some 64)] ?_
        iterate 13 (refine quietOff_ (a' := ?_) rfl rfl (take_ofW HT_.out HW_.out (by kernel_rfl)) (fun _ _ _ h => h) ⟨by rfl, rfl⟩ hHeld ?_ ?_; rotate_left; (simp only [Act.put, List.setIfInBounds_toArray, List.set_cons_zero, List.set_cons_succ, i64_w, i32_w]; rfl))
        refine schedEnd_ ?_
        refine sched_ [(55, some 65), (56, some 66)] ?_
        iterate 2 (refine quiet_ (v := ?_) (a' := ?_) rfl rfl (take_ofW HT_.out HW_.out (by kernel_rfl)) (fun _ _ _ h => h) ⟨by rfl, ?_⟩ hHeld ?_ ?_; rotate_left; (rintro w' ⟨s0, s1, s2, s3, s4, s5, s6, s7, s8, s9⟩; go_simp; with_reducible rfl); rotate_left; (simp only [Act.put, List.setIfInBounds_toArray, List.set_cons_zero, List.set_cons_succ, i64_w, i32_w]; rfl))
        refine schedEnd_ ?_
        refine done_ (done_of HT_.out (by kernel_rfl)) ?_
        try go_wp2
        go_roundg k1
        case measure => have := HK1.out; omega
        case rel => exact ⟨(wrap64 (x3_1 + 1)), (by first | rfl | (simp; done) | (simp [*]; done)), H', ⟨by have := HK1.out; omega⟩, ⟨by repeat (first | (with_reducible first | exact HB.out | apply below_alloc | apply pw_below_drewN | apply below_drew1) | exact HB.out)⟩⟩
      rw [if_pos c12] at H
      have c12b0 : decide (0 < x3_1) = true := decide_eq_true c12
      clear c12
      obtain ⟨ji13, hji13⟩ : ∃ j_ : Int, (wrap64 (x3_1 - 1)) = j_ := ⟨_, rfl⟩
      replace H : (if 0 ≤ (ji13) then (if (ji13) < (l0.length : Int) then ((spec_rowLess.f k1 ((rd_T75 l0 (ji13)).f0) ((rd_T75 l0 x3_1).f0)).bind fun t169 => (if t169 = true then (spec_validZSet.l0 k1 l0 (wrap64 (x3_1 + 1))) else (some false))) else (none)) else (none)) = some r := by first | (rw [hji13] at H; exact H) | (simp only [hji13] at H ⊢; exact H)
      (try rw [hji13] at A4)
      (try rw [hji13] at A10)
      have hji13w : (IntKind.i64.wrap (x3_1 - 1)) = ji13 := (i64_w _).trans hji13
      by_cases c14 : 0 ≤ (ji13)
      rotate_left
      · rw [if_neg c14] at H
        exact absurd H (by simp)
      rw [if_pos c14] at H
      have c14b0 : decide (0 ≤ (ji13)) = true := decide_eq_true c14
      clear c14
      by_cases c15 : (ji13) < (l0.length : Int)
      rotate_left
      · rw [if_neg c15] at H
        exact absurd H (by simp)
      rw [if_pos c15] at H
      have c15b0 : decide ((ji13) < (l0.length : Int)) = true := decide_eq_true c15
      clear c15
      replace H := Option.bind_eq_some_iff.mp H
      obtain ⟨t169, A160, H⟩ := H
      replace H : (if t169 = true then (spec_validZSet.l0 k1 l0 (wrap64 (x3_1 + 1))) else (some false)) = some r := H
      have A16 := Aside0.mk A160
      clear A160
      by_cases c17 : t169 = true
      · subst c17
        have H1 : (spec_validZSet.l0 k1 l0 (wrap64 (x3_1 + 1))) = some r := by rw [if_pos rfl] at H; exact H
        clear H
        have H := H1
        clear H1
        have H' := Aside0.mk H
        clear H
        try go_wp2
        have n0_ := Aside0.mk (below_drew1 HB.out)
        clear HB
        have HB := n0_
        clear n0_
        have p160 : 0 ≤ (x3_1 : Int) := of_decide_eq_true (by first | (with_reducible assumption) | assumption)
        have q160 : x3_1 < (l0.length : Int) := of_decide_eq_true (by first | (with_reducible assumption) | assumption)
        obtain ⟨ad160, A160_0, c160_0, e160, hx160_0, hx160_1, hl160_0, hi160_0⟩ := at_T75 HR0.out x3_1 p160 q160
        have hw160_1 := hx160_1
        have hw160_0 := hx160_0
        cases e160
        replace hx160_0 := (HB.out.cell (World.block_lt_of_cell? w _ hx160_0)).trans hx160_0
        replace hx160_1 := (HB.out.cell (World.block_lt_of_cell? w _ hx160_1)).trans hx160_1
        have HR160_0 := Aside0.mk hi160_0
        have HC160_0 := Aside0.mk hl160_0
        clear hi160_0 hl160_0
        replace p160 := eq_true p160
        replace q160 := eq_true q160
        have p162 : 0 ≤ (x3_1 : Int) := of_decide_eq_true (by first | (with_reducible assumption) | assumption)
        have q162 : x3_1 < (l0.length : Int) := of_decide_eq_true (by first | (with_reducible assumption) | assumption)
        obtain ⟨ad162, A162_0, c162_0, e162, hx162_0, hx162_1, hl162_0, hi162_0⟩ := at_T75 HR0.out x3_1 p162 q162
        have hw162_1 := hx162_1
        have hw162_0 := hx162_0
        obtain rfl : ad160 = ad162 := (by injection e162)
        replace hx162_0 := (HB.out.cell (World.block_lt_of_cell? w _ hx162_0)).trans hx162_0
        replace hx162_1 := (HB.out.cell (World.block_lt_of_cell? w _ hx162_1)).trans hx162_1
        have HR162_0 := Aside0.mk hi162_0
        have HC162_0 := Aside0.mk hl162_0
        clear hi162_0 hl162_0
        replace p162 := eq_true p162
        replace q162 := eq_true q162
        have ea_ := Option.some.inj (hx160_0.symm.trans hx162_0)
        injection ea_ with ea_ en_ ec_
        subst ea_
        subst ec_
        clear en_
        have p163 : 0 ≤ (0 : Int) := (by omega)
        have q163 : 0 < (l0.length : Int) := of_decide_eq_true (by first | (with_reducible assumption) | assumption)
        obtain ⟨ad163, A163_0, c163_0, e163, hx163_0, hx163_1, hl163_0, hi163_0⟩ := at_T75 HR0.out 0 p163 q163
        have hw163_1 := hx163_1
        (try rw [show ((0 : Int)).toNat = 0 from rfl] at hw163_1)
        (try rw [show 0 * 2 = 0 from rfl] at hw163_1)
        (try rw [Addr.add_zero'] at hw163_1)
        have hw163_0 := hx163_0
        (try rw [show ((0 : Int)).toNat = 0 from rfl] at hw163_0)
        (try rw [show 0 * 2 = 0 from rfl] at hw163_0)
        (try rw [Addr.add_zero'] at hw163_0)
        obtain rfl : ad160 = ad163 := (by injection e163)
        have qi163 : (0 < l0.length) = True := eq_true (by omega)
        (try rw [show ((0 : Int)).toNat = 0 from rfl] at hx163_0)
        (try rw [show 0 * 2 = 0 from rfl] at hx163_0)
        (try rw [Addr.add_zero'] at hx163_0)
        (try rw [show ((0 : Int)).toNat = 0 from rfl] at hx163_1)
        (try rw [show 0 * 2 = 0 from rfl] at hx163_1)
        (try rw [Addr.add_zero'] at hx163_1)
        replace hx163_0 := (HB.out.cell (World.block_lt_of_cell? w _ hx163_0)).trans hx163_0
        replace hx163_1 := (HB.out.cell (World.block_lt_of_cell? w _ hx163_1)).trans hx163_1
        have HR163_0 := Aside0.mk hi163_0
        have HC163_0 := Aside0.mk hl163_0
        clear hi163_0 hl163_0
        replace p163 := eq_true p163
        replace q163 := eq_true q163
        have p164 : 0 ≤ (x3_1 : Int) := of_decide_eq_true (by first | (with_reducible assumption) | assumption)
        have q164 : x3_1 < (l0.length : Int) := of_decide_eq_true (by first | (with_reducible assumption) | assumption)
        obtain ⟨ad164, A164_0, c164_0, e164, hx164_0, hx164_1, hl164_0, hi164_0⟩ := at_T75 HR0.out x3_1 p164 q164
        have hw164_1 := hx164_1
        have hw164_0 := hx164_0
        obtain rfl : ad160 = ad164 := (by injection e164)
        replace hx164_0 := (HB.out.cell (World.block_lt_of_cell? w _ hx164_0)).trans hx164_0
        replace hx164_1 := (HB.out.cell (World.block_lt_of_cell? w _ hx164_1)).trans hx164_1
        have HR164_0 := Aside0.mk hi164_0
        have HC164_0 := Aside0.mk hl164_0
        clear hi164_0 hl164_0
        replace p164 := eq_true p164
        replace q164 := eq_true q164
        have ea_ := Option.some.inj (hx160_0.symm.trans hx164_0)
        injection ea_ with ea_ en_ ec_
        subst ea_
        subst ec_
        clear en_
        have p165 : 0 ≤ (x3_1 : Int) := of_decide_eq_true (by first | (with_reducible assumption) | assumption)
        have q165 : x3_1 < (l0.length : Int) := of_decide_eq_true (by first | (with_reducible assumption) | assumption)
        obtain ⟨ad165, A165_0, c165_0, e165, hx165_0, hx165_1, hl165_0, hi165_0⟩ := at_T75 HR0.out x3_1 p165 q165
        have hw165_1 := hx165_1
        have hw165_0 := hx165_0
        obtain rfl : ad160 = ad165 := (by injection e165)
        replace hx165_0 := (HB.out.cell (World.block_lt_of_cell? w _ hx165_0)).trans hx165_0
        replace hx165_1 := (HB.out.cell (World.block_lt_of_cell? w _ hx165_1)).trans hx165_1
        have HR165_0 := Aside0.mk hi165_0
        have HC165_0 := Aside0.mk hl165_0
        clear hi165_0 hl165_0
        replace p165 := eq_true p165
        replace q165 := eq_true q165
        have ea_ := Option.some.inj (hx160_0.symm.trans hx165_0)
        injection ea_ with ea_ en_ ec_
        subst ea_
        subst ec_
        clear en_
        have p167 : 0 ≤ ((ji13) : Int) := of_decide_eq_true (by first | (with_reducible assumption) | assumption)
        have q167 : (ji13) < (l0.length : Int) := of_decide_eq_true (by first | (with_reducible assumption) | assumption)
        obtain ⟨ad167, A167_0, c167_0, e167, hx167_0, hx167_1, hl167_0, hi167_0⟩ := at_T75 HR0.out (ji13) p167 q167
        have hw167_1 := hx167_1
        have hw167_0 := hx167_0
        obtain rfl : ad160 = ad167 := (by injection e167)
        replace hx167_0 := (HB.out.cell (World.block_lt_of_cell? w _ hx167_0)).trans hx167_0
        replace hx167_1 := (HB.out.cell (World.block_lt_of_cell? w _ hx167_1)).trans hx167_1
        have HR167_0 := Aside0.mk hi167_0
        have HC167_0 := Aside0.mk hl167_0
        clear hi167_0 hl167_0
        replace p167 := eq_true p167
        replace q167 := eq_true q167
        have p168 : 0 ≤ (x3_1 : Int) := of_decide_eq_true (by first | (with_reducible assumption) | assumption)
        have q168 : x3_1 < (l0.length : Int) := of_decide_eq_true (by first | (with_reducible assumption) | assumption)
        obtain ⟨ad168, A168_0, c168_0, e168, hx168_0, hx168_1, hl168_0, hi168_0⟩ := at_T75 HR0.out x3_1 p168 q168
        have hw168_1 := hx168_1
        have hw168_0 := hx168_0
        obtain rfl : ad160 = ad168 := (by injection e168)
        replace hx168_0 := (HB.out.cell (World.block_lt_of_cell? w _ hx168_0)).trans hx168_0
        replace hx168_1 := (HB.out.cell (World.block_lt_of_cell? w _ hx168_1)).trans hx168_1
        have HR168_0 := Aside0.mk hi168_0
        have HC168_0 := Aside0.mk hl168_0
        clear hi168_0 hl168_0
        replace p168 := eq_true p168
        replace q168 := eq_true q168
        have ea_ := Option.some.inj (hx160_0.symm.trans hx168_0)
        injection ea_ with ea_ en_ ec_
        subst ea_
        subst ec_
        clear en_
        refine start_ (n := 57) (S := fun w' => w'.cell? (ad160.add ((x3_1).toNat * 2)) = some (.slice A160_0 ((rd_T75 l0 x3_1).f0).length c160_0) ∧ w'.cell? ⟨(ad160.add ((x3_1).toNat * 2)).block, (ad160.add ((x3_1).toNat * 2)).off + 1, none⟩ = some (.int .i64 ((rd_T75 l0 x3_1).f1)) ∧ w'.cell? (ad160.add ((x3_1).toNat * 2)) = some (.slice A160_0 ((rd_T75 l0 x3_1).f0).length c160_0) ∧ w'.cell? ⟨(ad160.add ((x3_1).toNat * 2)).block, (ad160.add ((x3_1).toNat * 2)).off + 1, none⟩ = some (.int .i64 ((rd_T75 l0 x3_1).f1)) ∧ w'.cell? ad160 = some (.slice A163_0 ((rd_T75 l0 0).f0).length c163_0) ∧ w'.cell? ⟨ad160.block, ad160.off + 1, none⟩ = some (.int .i64 ((rd_T75 l0 0).f1)) ∧ w'.cell? (ad160.add ((x3_1).toNat * 2)) = some (.slice A160_0 ((rd_T75 l0 x3_1).f0).length c160_0) ∧ w'.cell? ⟨(ad160.add ((x3_1).toNat * 2)).block, (ad160.add ((x3_1).toNat * 2)).off + 1, none⟩ = some (.int .i64 ((rd_T75 l0 x3_1).f1)) ∧ w'.cell? (ad160.add ((x3_1).toNat * 2)) = some (.slice A160_0 ((rd_T75 l0 x3_1).f0).length c160_0) ∧ w'.cell? ⟨(ad160.add ((x3_1).toNat * 2)).block, (ad160.add ((x3_1).toNat * 2)).off + 1, none⟩ = some (.int .i64 ((rd_T75 l0 x3_1).f1)) ∧ w'.cell? (ad160.add (((ji13)).toNat * 2)) = some (.slice A167_0 ((rd_T75 l0 (ji13)).f0).length c167_0) ∧ w'.cell? ⟨(ad160.add (((ji13)).toNat * 2)).block, (ad160.add (((ji13)).toNat * 2)).off + 1, none⟩ = some (.int .i64 ((rd_T75 l0 (ji13)).f1)) ∧ w'.cell? (ad160.add ((x3_1).toNat * 2)) = some (.slice A160_0 ((rd_T75 l0 x3_1).f0).length c160_0) ∧ w'.cell? ⟨(ad160.add ((x3_1).toNat * 2)).block, (ad160.add ((x3_1).toNat * 2)).off + 1, none⟩ = some (.int .i64 ((rd_T75 l0 x3_1).f1))) (ds := []) #[false, false, false, false, false, false, false, false, false, false, false, false, false, false, false, false, false, false, false, false, false, false, false, false, false, false, false, false, false, false, false, false, false, false, false, false, false, false, false, false, false, false, false, false, false, false, false, false, false, false, false, false, false, false, false, false, false] (by kernel_rfl) rfl rfl ⟨((HB.out.cell (World.block_lt_of_cell? w _ hw160_0)).trans hw160_0), ((HB.out.cell (World.block_lt_of_cell? w _ hw160_1)).trans hw160_1), ((HB.out.cell (World.block_lt_of_cell? w _ hw162_0)).trans hw162_0), ((HB.out.cell (World.block_lt_of_cell? w _ hw162_1)).trans hw162_1), ((HB.out.cell (World.block_lt_of_cell? w _ hw163_0)).trans hw163_0), ((HB.out.cell (World.block_lt_of_cell? w _ hw163_1)).trans hw163_1), ((HB.out.cell (World.block_lt_of_cell? w _ hw164_0)).trans hw164_0), ((HB.out.cell (World.block_lt_of_cell? w _ hw164_1)).trans hw164_1), ((HB.out.cell (World.block_lt_of_cell? w _ hw165_0)).trans hw165_0), ((HB.out.cell (World.block_lt_of_cell? w _ hw165_1)).trans hw165_1), ((HB.out.cell (World.block_lt_of_cell? w _ hw167_0)).trans hw167_0), ((HB.out.cell (World.block_lt_of_cell? w _ hw167_1)).trans hw167_1), ((HB.out.cell (World.block_lt_of_cell? w _ hw168_0)).trans hw168_0), ((HB.out.cell (World.block_lt_of_cell? w _ hw168_1)).trans hw168_1)⟩ (fun hHeld => ?_); refine with_tabW spec_validZSet.tab4 spec_validZSet.bits4 (fun HT_ HW_ => ?_)
        generalize wr.drew = w18 at HB HR160_0 HR162_0 HR163_0 HR164_0 HR165_0 HR167_0 HR168_0 hx160_0 hx160_1 hx162_0 hx162_1 hx163_0 hx163_1 hx164_0 hx164_1 hx165_0 hx165_1 hx167_0 hx167_1 hx168_0 hx168_1 hHeld ⊢
        refine sched_ [(0, some 10), (1, some 11), (2, some 12), (3, some 13), (4, some 14)] ?_
        iterate 5 (refine quiet_ (v := ?_) (a' := ?_) rfl rfl (take_ofW HT_.out HW_.out (by kernel_rfl)) (fun _ _ _ h => h) ⟨by rfl, ?_⟩ hHeld ?_ ?_; rotate_left; (rintro w' ⟨s0, s1, s2, s3, s4, s5, s6, s7, s8, s9, s10, s11, s12, s13⟩; go_simp; with_reducible rfl); rotate_left; (simp only [Act.put, List.setIfInBounds_toArray, List.set_cons_zero, List.set_cons_succ, i64_w, i32_w]; rfl))
        refine schedEnd_ ?_
        refine one_ (i := 5) (N := some 15) #[true, true, true, true, true, true, false, false, false, false, false, false, false, false, false, false, false, false, false, false, false, false, false, false, false, false, false, false, false, false, false, false, false, false, false, false, false, false, false, false, false, false, false, false, false, false, false, false, false, false, false, false, false, false, false, false, false] rfl rfl (one_of HT_.out (by kernel_rfl)) (by decide) (fun K hK => ?_)
        refine goes_ Try.func102 (by kernel_rfl) rfl #[.slice A160_0 ((rd_T75 l0 x3_1).f0).length c160_0] (by rfl) rfl rfl (by (try simp only [List.map_toArray, List.map_cons, List.map_nil]); first | done | rfl | (simp only [List.length_drop, List.length_take]; rfl)) ?_
        with_reducible refine (spec_validRow.calls k1 _ _ ((rd_T75 l0 x3_1).f0) true _ ?side1 ?side2 A4.out).mono ?_
        (case side1 => repeat (first | exact (Kd.C_below HR160_0.out HB.out) | (with_reducible refine Kd.C_alloc ?_ _) | (with_reducible refine Kd.C_drewN ?_ _) | (with_reducible refine Kd.C_drew ?_)))
        (case side2 => exact HC160_0.out)
        rintro e w' ⟨rfl, ⟨nd, rfl⟩⟩
        refine ⟨_, rfl, ?_⟩
        refine hK.out _ _ ⟨((HB.out.cell (World.block_lt_of_cell? w _ hw160_0)).trans hw160_0), ((HB.out.cell (World.block_lt_of_cell? w _ hw160_1)).trans hw160_1), ((HB.out.cell (World.block_lt_of_cell? w _ hw162_0)).trans hw162_0), ((HB.out.cell (World.block_lt_of_cell? w _ hw162_1)).trans hw162_1), ((HB.out.cell (World.block_lt_of_cell? w _ hw163_0)).trans hw163_0), ((HB.out.cell (World.block_lt_of_cell? w _ hw163_1)).trans hw163_1), ((HB.out.cell (World.block_lt_of_cell? w _ hw164_0)).trans hw164_0), ((HB.out.cell (World.block_lt_of_cell? w _ hw164_1)).trans hw164_1), ((HB.out.cell (World.block_lt_of_cell? w _ hw165_0)).trans hw165_0), ((HB.out.cell (World.block_lt_of_cell? w _ hw165_1)).trans hw165_1), ((HB.out.cell (World.block_lt_of_cell? w _ hw167_0)).trans hw167_0), ((HB.out.cell (World.block_lt_of_cell? w _ hw167_1)).trans hw167_1), ((HB.out.cell (World.block_lt_of_cell? w _ hw168_0)).trans hw168_0), ((HB.out.cell (World.block_lt_of_cell? w _ hw168_1)).trans hw168_1)⟩ (fun hHeld => ?_)
        clear hK K
        refine norm_ (a' := ?_) ?_ ?_
        rotate_left
        · show Act.put _ (some 15) _ = _
          simp only [Act.put, List.setIfInBounds_toArray, List.set_cons_zero, List.set_cons_succ, i64_w, i32_w]
          rfl
        refine sched_ [(6, some 16), (7, some 17), (8, some 18), (9, some 19), (10, some 20), (11, some 21), (14, some 24), (15, some 25), (16, some 26), (12, some 22), (13, some 23), (17, some 27), (18, some 28), (19, some 29), (20, some 30), (21, some 31), (22, some 32), (23, some 33), (24, some 34), (25, some 35), (26, some 36), (27, some 37), (28, some 38), (29, some 39), (30, some 40), (31, some 41), (32, some 42), (33, some 43), (34, some 44)] ?_
        iterate 29 (refine quiet_ (v := ?_) (a' := ?_) rfl rfl (take_ofW HT_.out HW_.out (by kernel_rfl)) (fun _ _ _ h => h) ⟨by rfl, ?_⟩ hHeld ?_ ?_; rotate_left; (rintro w' ⟨s0, s1, s2, s3, s4, s5, s6, s7, s8, s9, s10, s11, s12, s13⟩; go_simp; with_reducible rfl); rotate_left; (simp only [Act.put, List.setIfInBounds_toArray, List.set_cons_zero, List.set_cons_succ, i64_w, i32_w]; rfl))
        refine schedEnd_ ?_
        refine one_ (i := 35) (N := some 45) #[true, true, true, true, true, true, true, true, true, true, true, true, true, true, true, true, true, true, true, true, true, true, true, true, true, true, true, true, true, true, true, true, true, true, true, true, false, false, false, false, false, false, false, false, false, false, false, false, false, false, false, false, false, false, false, false, false] rfl rfl (one_of HT_.out (by kernel_rfl)) (by decide) (fun K hK => ?_)
        refine goes_ Try.func48 (by kernel_rfl) rfl #[.int .i64 ((rd_T75 l0 x3_1).f1), .int .i64 (-1000000), .int .i64 1000000] (by rfl) rfl rfl (by (try simp only [List.map_toArray, List.map_cons, List.map_nil]); first | done | rfl | (simp only [List.length_drop, List.length_take]; rfl)) ?_
        with_reducible refine (spec_inRange.calls ((rd_T75 l0 x3_1).f1) (-1000000) 1000000 true _ A10.out).mono ?_
        rintro e w' ⟨rfl, ⟨nd, rfl⟩⟩
        refine ⟨_, rfl, ?_⟩
        refine hK.out _ _ ⟨((HB.out.cell (World.block_lt_of_cell? w _ hw160_0)).trans hw160_0), ((HB.out.cell (World.block_lt_of_cell? w _ hw160_1)).trans hw160_1), ((HB.out.cell (World.block_lt_of_cell? w _ hw162_0)).trans hw162_0), ((HB.out.cell (World.block_lt_of_cell? w _ hw162_1)).trans hw162_1), ((HB.out.cell (World.block_lt_of_cell? w _ hw163_0)).trans hw163_0), ((HB.out.cell (World.block_lt_of_cell? w _ hw163_1)).trans hw163_1), ((HB.out.cell (World.block_lt_of_cell? w _ hw164_0)).trans hw164_0), ((HB.out.cell (World.block_lt_of_cell? w _ hw164_1)).trans hw164_1), ((HB.out.cell (World.block_lt_of_cell? w _ hw165_0)).trans hw165_0), ((HB.out.cell (World.block_lt_of_cell? w _ hw165_1)).trans hw165_1), ((HB.out.cell (World.block_lt_of_cell? w _ hw167_0)).trans hw167_0), ((HB.out.cell (World.block_lt_of_cell? w _ hw167_1)).trans hw167_1), ((HB.out.cell (World.block_lt_of_cell? w _ hw168_0)).trans hw168_0), ((HB.out.cell (World.block_lt_of_cell? w _ hw168_1)).trans hw168_1)⟩ (fun hHeld => ?_)
        clear hK K
        refine norm_ (a' := ?_) ?_ ?_
        rotate_left
        · show Act.put _ (some 45) _ = _
          simp only [Act.put, List.setIfInBounds_toArray, List.set_cons_zero, List.set_cons_succ, i64_w, i32_w]
          rfl
        refine sched_ [(36, some 46), (37, some 47), (38, some 48), (39, some 49), (40, some 50), (41, some 51), (42, some 52), (43, some 53), (44, some 54), (45, some 55), (46, some 56), (48, some 58), (49, some 59), (50, some 60), (51, some 61), (47, some 57), (52, some 62)] ?_
        iterate 17 (refine quiet_ (v := ?_) (a' := ?_) rfl rfl (take_ofW HT_.out HW_.out (by kernel_rfl)) (fun _ _ _ h => h) ⟨by rfl, ?_⟩ hHeld ?_ ?_; rotate_left; (rintro w' ⟨s0, s1, s2, s3, s4, s5, s6, s7, s8, s9, s10, s11, s12, s13⟩; go_simp; with_reducible rfl); rotate_left; (simp only [Act.put, List.setIfInBounds_toArray, List.set_cons_zero, List.set_cons_succ, i64_w, i32_w]; rfl))
        refine schedEnd_ ?_
        refine one_ (i := 53) (N := some 63) #[true, true, true, true, true, true, true, true, true, true, true, true, true, true, true, true, true, true, true, true, true, true, true, true, true, true, true, true, true, true, true, true, true, true, true, true, true, true, true, true, true, true, true, true, true, true, true, true, true, true, true, true, true, true, false, false, false] rfl rfl (one_of HT_.out (by kernel_rfl)) (by decide) (fun K hK => ?_)
        refine goes_ Try.func98 (by kernel_rfl) rfl #[.slice A167_0 ((rd_T75 l0 (ji13)).f0).length c167_0, .slice A160_0 ((rd_T75 l0 x3_1).f0).length c160_0] (by rfl) rfl rfl (by (try simp only [List.map_toArray, List.map_cons, List.map_nil]); first | done | (simp only [hji13]; rfl) | rfl | (simp only [List.length_drop, List.length_take]; rfl)) ?_
        with_reducible refine (spec_rowLess.calls k1 _ _ ((rd_T75 l0 (ji13)).f0) _ _ ((rd_T75 l0 x3_1).f0) true _ ?side1 ?side2 ?side3 ?side4 A16.out).mono ?_
        (case side1 => repeat (first | exact (Kd.C_below HR167_0.out (by repeat (first | (with_reducible first | exact HB.out | apply below_alloc | apply pw_below_drewN | apply below_drew1) | exact HB.out))) | (with_reducible refine Kd.C_alloc ?_ _) | (with_reducible refine Kd.C_drewN ?_ _) | (with_reducible refine Kd.C_drew ?_)))
        (case side2 => exact HC167_0.out)
        (case side3 => repeat (first | exact (Kd.C_below HR168_0.out (by repeat (first | (with_reducible first | exact HB.out | apply below_alloc | apply pw_below_drewN | apply below_drew1) | exact HB.out))) | (with_reducible refine Kd.C_alloc ?_ _) | (with_reducible refine Kd.C_drewN ?_ _) | (with_reducible refine Kd.C_drew ?_)))
        (case side4 => exact HC168_0.out)
        rintro e w' ⟨rfl, ⟨nd, rfl⟩⟩
        refine ⟨_, rfl, ?_⟩
        refine hK.out _ _ ⟨((HB.out.cell (World.block_lt_of_cell? w _ hw160_0)).trans hw160_0), ((HB.out.cell (World.block_lt_of_cell? w _ hw160_1)).trans hw160_1), ((HB.out.cell (World.block_lt_of_cell? w _ hw162_0)).trans hw162_0), ((HB.out.cell (World.block_lt_of_cell? w _ hw162_1)).trans hw162_1), ((HB.out.cell (World.block_lt_of_cell? w _ hw163_0)).trans hw163_0), ((HB.out.cell (World.block_lt_of_cell? w _ hw163_1)).trans hw163_1), ((HB.out.cell (World.block_lt_of_cell? w _ hw164_0)).trans hw164_0), ((HB.out.cell (World.block_lt_of_cell? w _ hw164_1)).trans hw164_1), ((HB.out.cell (World.block_lt_of_cell? w _ hw165_0)).trans hw165_0), ((HB.out.cell (World.block_lt_of_cell? w _ hw165_1)).trans hw165_1), ((HB.out.cell (World.block_lt_of_cell? w _ hw167_0)).trans hw167_0), ((HB.out.cell (World.block_lt_of_cell? w _ hw167_1)).trans hw167_1), ((HB.out.cell (World.block_lt_of_cell? w _ hw168_0)).trans hw168_0), ((HB.out.cell (World.block_lt_of_cell? w _ hw168_1)).trans hw168_1)⟩ (fun hHeld => ?_)
        clear hK K
        refine norm_ (a' := ?_) ?_ ?_
        rotate_left
        · show Act.put _ (some 63) _ = _
          simp only [Act.put, List.setIfInBounds_toArray, List.set_cons_zero, List.set_cons_succ, i64_w, i32_w]
          rfl
        refine sched_ [(54, some 64), (55, some 65), (56, some 66)] ?_
        iterate 3 (refine quiet_ (v := ?_) (a' := ?_) rfl rfl (take_ofW HT_.out HW_.out (by kernel_rfl)) (fun _ _ _ h => h) ⟨by rfl, ?_⟩ hHeld ?_ ?_; rotate_left; (rintro w' ⟨s0, s1, s2, s3, s4, s5, s6, s7, s8, s9, s10, s11, s12, s13⟩; go_simp; with_reducible rfl); rotate_left; (simp only [Act.put, List.setIfInBounds_toArray, List.set_cons_zero, List.set_cons_succ, i64_w, i32_w]; rfl))
        refine schedEnd_ ?_
        refine done_ (done_of HT_.out (by kernel_rfl)) ?_
        try go_wp2
        go_roundg k1
        case measure => have := HK1.out; omega
        case rel => exact ⟨(wrap64 (x3_1 + 1)), (by first | rfl | (simp; done) | (simp [*]; done)), H', ⟨by have := HK1.out; omega⟩, ⟨by repeat (first | (with_reducible first | exact HB.out | apply below_alloc | apply pw_below_drewN | apply below_drew1) | exact HB.out)⟩⟩
      replace c17 := Bool.eq_false_iff.mpr c17
      subst c17
      have H1 : (some false) = some r := by rw [if_neg (show ¬ (false = true) by decide)] at H; exact H
      clear H
      have H := H1
      clear H1
      obtain rfl := Option.some.inj H
      try go_wp2
      have n0_ := Aside0.mk (below_drew1 HB.out)
      clear HB
      have HB := n0_
      clear n0_
      have p160 : 0 ≤ (x3_1 : Int) := of_decide_eq_true (by first | (with_reducible assumption) | assumption)
      have q160 : x3_1 < (l0.length : Int) := of_decide_eq_true (by first | (with_reducible assumption) | assumption)
      obtain ⟨ad160, A160_0, c160_0, e160, hx160_0, hx160_1, hl160_0, hi160_0⟩ := at_T75 HR0.out x3_1 p160 q160
      have hw160_1 := hx160_1
      have hw160_0 := hx160_0
      cases e160
      replace hx160_0 := (HB.out.cell (World.block_lt_of_cell? w _ hx160_0)).trans hx160_0
      replace hx160_1 := (HB.out.cell (World.block_lt_of_cell? w _ hx160_1)).trans hx160_1
      have HR160_0 := Aside0.mk hi160_0
      have HC160_0 := Aside0.mk hl160_0
      clear hi160_0 hl160_0
      replace p160 := eq_true p160
      replace q160 := eq_true q160
      have p162 : 0 ≤ (x3_1 : Int) := of_decide_eq_true (by first | (with_reducible assumption) | assumption)
      have q162 : x3_1 < (l0.length : Int) := of_decide_eq_true (by first | (with_reducible assumption) | assumption)
      obtain ⟨ad162, A162_0, c162_0, e162, hx162_0, hx162_1, hl162_0, hi162_0⟩ := at_T75 HR0.out x3_1 p162 q162
      have hw162_1 := hx162_1
      have hw162_0 := hx162_0
      obtain rfl : ad160 = ad162 := (by injection e162)
      replace hx162_0 := (HB.out.cell (World.block_lt_of_cell? w _ hx162_0)).trans hx162_0
      replace hx162_1 := (HB.out.cell (World.block_lt_of_cell? w _ hx162_1)).trans hx162_1
      have HR162_0 := Aside0.mk hi162_0
      have HC162_0 := Aside0.mk hl162_0
      clear hi162_0 hl162_0
      replace p162 := eq_true p162
      replace q162 := eq_true q162
      have ea_ := Option.some.inj (hx160_0.symm.trans hx162_0)
      injection ea_ with ea_ en_ ec_
      subst ea_
      subst ec_
      clear en_
      have p163 : 0 ≤ (0 : Int) := (by omega)
      have q163 : 0 < (l0.length : Int) := of_decide_eq_true (by first | (with_reducible assumption) | assumption)
      obtain ⟨ad163, A163_0, c163_0, e163, hx163_0, hx163_1, hl163_0, hi163_0⟩ := at_T75 HR0.out 0 p163 q163
      have hw163_1 := hx163_1
      (try rw [show ((0 : Int)).toNat = 0 from rfl] at hw163_1)
      (try rw [show 0 * 2 = 0 from rfl] at hw163_1)
      (try rw [Addr.add_zero'] at hw163_1)
      have hw163_0 := hx163_0
      (try rw [show ((0 : Int)).toNat = 0 from rfl] at hw163_0)
      (try rw [show 0 * 2 = 0 from rfl] at hw163_0)
      (try rw [Addr.add_zero'] at hw163_0)
      obtain rfl : ad160 = ad163 := (by injection e163)
      have qi163 : (0 < l0.length) = True := eq_true (by omega)
      (try rw [show ((0 : Int)).toNat = 0 from rfl] at hx163_0)
      (try rw [show 0 * 2 = 0 from rfl] at hx163_0)
      (try rw [Addr.add_zero'] at hx163_0)
      (try rw [show ((0 : Int)).toNat = 0 from rfl] at hx163_1)
      (try rw [show 0 * 2 = 0 from rfl] at hx163_1)
      (try rw [Addr.add_zero'] at hx163_1)
      replace hx163_0 := (HB.out.cell (World.block_lt_of_cell? w _ hx163_0)).trans hx163_0
      replace hx163_1 := (HB.out.cell (World.block_lt_of_cell? w _ hx163_1)).trans hx163_1
      have HR163_0 := Aside0.mk hi163_0
      have HC163_0 := Aside0.mk hl163_0
      clear hi163_0 hl163_0
      replace p163 := eq_true p163
      replace q163 := eq_true q163
      have p164 : 0 ≤ (x3_1 : Int) := of_decide_eq_true (by first | (with_reducible assumption) | assumption)
      have q164 : x3_1 < (l0.length : Int) := of_decide_eq_true (by first | (with_reducible assumption) | assumption)
      obtain ⟨ad164, A164_0, c164_0, e164, hx164_0, hx164_1, hl164_0, hi164_0⟩ := at_T75 HR0.out x3_1 p164 q164
      have hw164_1 := hx164_1
      have hw164_0 := hx164_0
      obtain rfl : ad160 = ad164 := (by injection e164)
      replace hx164_0 := (HB.out.cell (World.block_lt_of_cell? w _ hx164_0)).trans hx164_0
      replace hx164_1 := (HB.out.cell (World.block_lt_of_cell? w _ hx164_1)).trans hx164_1
      have HR164_0 := Aside0.mk hi164_0
      have HC164_0 := Aside0.mk hl164_0
      clear hi164_0 hl164_0
      replace p164 := eq_true p164
      replace q164 := eq_true q164
      have ea_ := Option.some.inj (hx160_0.symm.trans hx164_0)
      injection ea_ with ea_ en_ ec_
      subst ea_
      subst ec_
      clear en_
      have p165 : 0 ≤ (x3_1 : Int) := of_decide_eq_true (by first | (with_reducible assumption) | assumption)
      have q165 : x3_1 < (l0.length : Int) := of_decide_eq_true (by first | (with_reducible assumption) | assumption)
      obtain ⟨ad165, A165_0, c165_0, e165, hx165_0, hx165_1, hl165_0, hi165_0⟩ := at_T75 HR0.out x3_1 p165 q165
      have hw165_1 := hx165_1
      have hw165_0 := hx165_0
      obtain rfl : ad160 = ad165 := (by injection e165)
      replace hx165_0 := (HB.out.cell (World.block_lt_of_cell? w _ hx165_0)).trans hx165_0
      replace hx165_1 := (HB.out.cell (World.block_lt_of_cell? w _ hx165_1)).trans hx165_1
      have HR165_0 := Aside0.mk hi165_0
      have HC165_0 := Aside0.mk hl165_0
      clear hi165_0 hl165_0
      replace p165 := eq_true p165
      replace q165 := eq_true q165
      have ea_ := Option.some.inj (hx160_0.symm.trans hx165_0)
      injection ea_ with ea_ en_ ec_
      subst ea_
      subst ec_
      clear en_
      have p167 : 0 ≤ ((ji13) : Int) := of_decide_eq_true (by first | (with_reducible assumption) | assumption)
      have q167 : (ji13) < (l0.length : Int) := of_decide_eq_true (by first | (with_reducible assumption) | assumption)
      obtain ⟨ad167, A167_0, c167_0, e167, hx167_0, hx167_1, hl167_0, hi167_0⟩ := at_T75 HR0.out (ji13) p167 q167
      have hw167_1 := hx167_1
      have hw167_0 := hx167_0
      obtain rfl : ad160 = ad167 := (by injection e167)
      replace hx167_0 := (HB.out.cell (World.block_lt_of_cell? w _ hx167_0)).trans hx167_0
      replace hx167_1 := (HB.out.cell (World.block_lt_of_cell? w _ hx167_1)).trans hx167_1
      have HR167_0 := Aside0.mk hi167_0
      have HC167_0 := Aside0.mk hl167_0
      clear hi167_0 hl167_0
      replace p167 := eq_true p167
      replace q167 := eq_true q167
      have p168 : 0 ≤ (x3_1 : Int) := of_decide_eq_true (by first | (with_reducible assumption) | assumption)
      have q168 : x3_1 < (l0.length : Int) := of_decide_eq_true (by first | (with_reducible assumption) | assumption)
      obtain ⟨ad168, A168_0, c168_0, e168, hx168_0, hx168_1, hl168_0, hi168_0⟩ := at_T75 HR0.out x3_1 p168 q168
      have hw168_1 := hx168_1
      have hw168_0 := hx168_0
      obtain rfl : ad160 = ad168 := (by injection e168)
      replace hx168_0 := (HB.out.cell (World.block_lt_of_cell? w _ hx168_0)).trans hx168_0
      replace hx168_1 := (HB.out.cell (World.block_lt_of_cell? w _ hx168_1)).trans hx168_1
      have HR168_0 := Aside0.mk hi168_0
      have HC168_0 := Aside0.mk hl168_0
      clear hi168_0 hl168_0
      replace p168 := eq_true p168
      replace q168 := eq_true q168
      have ea_ := Option.some.inj (hx160_0.symm.trans hx168_0)
      injection ea_ with ea_ en_ ec_
      subst ea_
      subst ec_
      clear en_
      refine start_ (n := 57) (S := fun w' => w'.cell? (ad160.add ((x3_1).toNat * 2)) = some (.slice A160_0 ((rd_T75 l0 x3_1).f0).length c160_0) ∧ w'.cell? ⟨(ad160.add ((x3_1).toNat * 2)).block, (ad160.add ((x3_1).toNat * 2)).off + 1, none⟩ = some (.int .i64 ((rd_T75 l0 x3_1).f1)) ∧ w'.cell? (ad160.add ((x3_1).toNat * 2)) = some (.slice A160_0 ((rd_T75 l0 x3_1).f0).length c160_0) ∧ w'.cell? ⟨(ad160.add ((x3_1).toNat * 2)).block, (ad160.add ((x3_1).toNat * 2)).off + 1, none⟩ = some (.int .i64 ((rd_T75 l0 x3_1).f1)) ∧ w'.cell? ad160 = some (.slice A163_0 ((rd_T75 l0 0).f0).length c163_0) ∧ w'.cell? ⟨ad160.block, ad160.off + 1, none⟩ = some (.int .i64 ((rd_T75 l0 0).f1)) ∧ w'.cell? (ad160.add ((x3_1).toNat * 2)) = some (.slice A160_0 ((rd_T75 l0 x3_1).f0).length c160_0) ∧ w'.cell? ⟨(ad160.add ((x3_1).toNat * 2)).block, (ad160.add ((x3_1).toNat * 2)).off + 1, none⟩ = some (.int .i64 ((rd_T75 l0 x3_1).f1)) ∧ w'.cell? (ad160.add ((x3_1).toNat * 2)) = some (.slice A160_0 ((rd_T75 l0 x3_1).f0).length c160_0) ∧ w'.cell? ⟨(ad160.add ((x3_1).toNat * 2)).block, (ad160.add ((x3_1).toNat * 2)).off + 1, none⟩ = some (.int .i64 ((rd_T75 l0 x3_1).f1)) ∧ w'.cell? (ad160.add (((ji13)).toNat * 2)) = some (.slice A167_0 ((rd_T75 l0 (ji13)).f0).length c167_0) ∧ w'.cell? ⟨(ad160.add (((ji13)).toNat * 2)).block, (ad160.add (((ji13)).toNat * 2)).off + 1, none⟩ = some (.int .i64 ((rd_T75 l0 (ji13)).f1)) ∧ w'.cell? (ad160.add ((x3_1).toNat * 2)) = some (.slice A160_0 ((rd_T75 l0 x3_1).f0).length c160_0) ∧ w'.cell? ⟨(ad160.add ((x3_1).toNat * 2)).block, (ad160.add ((x3_1).toNat * 2)).off + 1, none⟩ = some (.int .i64 ((rd_T75 l0 x3_1).f1))) (ds := []) #[false, false, false, false, false, false, false, false, false, false, false, false, false, false, false, false, false, false, false, false, false, false, false, false, false, false, false, false, false, false, false, false, false, false, false, false, false, false, false, false, false, false, false, false, false, false, false, false, false, false, false, false, false, false, false, false, false] (by kernel_rfl) rfl rfl ⟨((HB.out.cell (World.block_lt_of_cell? w _ hw160_0)).trans hw160_0), ((HB.out.cell (World.block_lt_of_cell? w _ hw160_1)).trans hw160_1), ((HB.out.cell (World.block_lt_of_cell? w _ hw162_0)).trans hw162_0), ((HB.out.cell (World.block_lt_of_cell? w _ hw162_1)).trans hw162_1), ((HB.out.cell (World.block_lt_of_cell? w _ hw163_0)).trans hw163_0), ((HB.out.cell (World.block_lt_of_cell? w _ hw163_1)).trans hw163_1), ((HB.out.cell (World.block_lt_of_cell? w _ hw164_0)).trans hw164_0), ((HB.out.cell (World.block_lt_of_cell? w _ hw164_1)).trans hw164_1), ((HB.out.cell (World.block_lt_of_cell? w _ hw165_0)).trans hw165_0), ((HB.out.cell (World.block_lt_of_cell? w _ hw165_1)).trans hw165_1), ((HB.out.cell (World.block_lt_of_cell? w _ hw167_0)).trans hw167_0), ((HB.out.cell (World.block_lt_of_cell? w _ hw167_1)).trans hw167_1), ((HB.out.cell (World.block_lt_of_cell? w _ hw168_0)).trans hw168_0), ((HB.out.cell (World.block_lt_of_cell? w _ hw168_1)).trans hw168_1)⟩ (fun hHeld => ?_); refine with_tabW spec_validZSet.tab4 spec_validZSet.bits4 (fun HT_ HW_ => ?_)
      generalize wr.drew = w19 at HB HR160_0 HR162_0 HR163_0 HR164_0 HR165_0 HR167_0 HR168_0 hx160_0 hx160_1 hx162_0 hx162_1 hx163_0 hx163_1 hx164_0 hx164_1 hx165_0 hx165_1 hx167_0 hx167_1 hx168_0 hx168_1 hHeld ⊢
      refine sched_ [(0, some 10), (1, some 11), (2, some 12), (3, some 13), (4, some 14)] ?_
      iterate 5 (refine quiet_ (v := ?_) (a' := ?_) rfl rfl (take_ofW HT_.out HW_.out (by kernel_rfl)) (fun _ _ _ h => h) ⟨by rfl, ?_⟩ hHeld ?_ ?_; rotate_left; (rintro w' ⟨s0, s1, s2, s3, s4, s5, s6, s7, s8, s9, s10, s11, s12, s13⟩; go_simp; with_reducible rfl); rotate_left; (simp only [Act.put, List.setIfInBounds_toArray, List.set_cons_zero, List.set_cons_succ, i64_w, i32_w]; rfl))
      refine schedEnd_ ?_
      refine one_ (i := 5) (N := some 15) #[true, true, true, true, true, true, false, false, false, false, false, false, false, false, false, false, false, false, false, false, false, false, false, false, false, false, false, false, false, false, false, false, false, false, false, false, false, false, false, false, false, false, false, false, false, false, false, false, false, false, false, false, false, false, false, false, false] rfl rfl (one_of HT_.out (by kernel_rfl)) (by decide) (fun K hK => ?_)
      refine goes_ Try.func102 (by kernel_rfl) rfl #[.slice A160_0 ((rd_T75 l0 x3_1).f0).length c160_0] (by rfl) rfl rfl (by (try simp only [List.map_toArray, List.map_cons, List.map_nil]); first | done | rfl | (simp only [List.length_drop, List.length_take]; rfl)) ?_
      with_reducible refine (spec_validRow.calls k1 _ _ ((rd_T75 l0 x3_1).f0) true _ ?side1 ?side2 A4.out).mono ?_
      (case side1 => repeat (first | exact (Kd.C_below HR160_0.out HB.out) | (with_reducible refine Kd.C_alloc ?_ _) | (with_reducible refine Kd.C_drewN ?_ _) | (with_reducible refine Kd.C_drew ?_)))
      (case side2 => exact HC160_0.out)
      rintro e w' ⟨rfl, ⟨nd, rfl⟩⟩
      refine ⟨_, rfl, ?_⟩
      refine hK.out _ _ ⟨((HB.out.cell (World.block_lt_of_cell? w _ hw160_0)).trans hw160_0), ((HB.out.cell (World.block_lt_of_cell? w _ hw160_1)).trans hw160_1), ((HB.out.cell (World.block_lt_of_cell? w _ hw162_0)).trans hw162_0), ((HB.out.cell (World.block_lt_of_cell? w _ hw162_1)).trans hw162_1), ((HB.out.cell (World.block_lt_of_cell? w _ hw163_0)).trans hw163_0), ((HB.out.cell (World.block_lt_of_cell? w _ hw163_1)).trans hw163_1), ((HB.out.cell (World.block_lt_of_cell? w _ hw164_0)).trans hw164_0), ((HB.out.cell (World.block_lt_of_cell? w _ hw164_1)).trans hw164_1), ((HB.out.cell (World.block_lt_of_cell? w _ hw165_0)).trans hw165_0), ((HB.out.cell (World.block_lt_of_cell? w _ hw165_1)).trans hw165_1), ((HB.out.cell (World.block_lt_of_cell? w _ hw167_0)).trans hw167_0), ((HB.out.cell (World.block_lt_of_cell? w _ hw167_1)).trans hw167_1), ((HB.out.cell (World.block_lt_of_cell? w _ hw168_0)).trans hw168_0), ((HB.out.cell (World.block_lt_of_cell? w _ hw168_1)).trans hw168_1)⟩ (fun hHeld => ?_)
      clear hK K
      refine norm_ (a' := ?_) ?_ ?_
      rotate_left
      · show Act.put _ (some 15) _ = _
        simp only [Act.put, List.setIfInBounds_toArray, List.set_cons_zero, List.set_cons_succ, i64_w, i32_w]
        rfl
      refine sched_ [(6, some 16), (7, some 17), (8, some 18), (9, some 19), (10, some 20), (11, some 21), (14, some 24), (15, some 25), (16, some 26), (12, some 22), (13, some 23), (17, some 27), (18, some 28), (19, some 29), (20, some 30), (21, some 31), (22, some 32), (23, some 33), (24, some 34), (25, some 35), (26, some 36), (27, some 37), (28, some 38), (29, some 39), (30, some 40), (31, some 41), (32, some 42), (33, some 43), (34, some 44)] ?_
      iterate 29 (refine quiet_ (v := ?_) (a' := ?_) rfl rfl (take_ofW HT_.out HW_.out (by kernel_rfl)) (fun _ _ _ h => h) ⟨by rfl, ?_⟩ hHeld ?_ ?_; rotate_left; (rintro w' ⟨s0, s1, s2, s3, s4, s5, s6, s7, s8, s9, s10, s11, s12, s13⟩; go_simp; with_reducible rfl); rotate_left; (simp only [Act.put, List.setIfInBounds_toArray, List.set_cons_zero, List.set_cons_succ, i64_w, i32_w]; rfl))
      refine schedEnd_ ?_
      refine one_ (i := 35) (N := some 45) #[true, true, true, true, true, true, true, true, true, true, true, true, true, true, true, true, true, true, true, true, true, true, true, true, true, true, true, true, true, true, true, true, true, true, true, true, false, false, false, false, false, false, false, false, false, false, false, false, false, false, false, false, false, false, false, false, false] rfl rfl (one_of HT_.out (by kernel_rfl)) (by decide) (fun K hK => ?_)
      refine goes_ Try.func48 (by kernel_rfl) rfl #[.int .i64 ((rd_T75 l0 x3_1).f1), .int .i64 (-1000000), .int .i64 1000000] (by rfl) rfl rfl (by (try simp only [List.map_toArray, List.map_cons, List.map_nil]); first | done | rfl | (simp only [List.length_drop, List.length_take]; rfl)) ?_
      with_reducible refine (spec_inRange.calls ((rd_T75 l0 x3_1).f1) (-1000000) 1000000 true _ A10.out).mono ?_
      rintro e w' ⟨rfl, ⟨nd, rfl⟩⟩
      refine ⟨_, rfl, ?_⟩
      refine hK.out _ _ ⟨((HB.out.cell (World.block_lt_of_cell? w _ hw160_0)).trans hw160_0), ((HB.out.cell (World.block_lt_of_cell? w _ hw160_1)).trans hw160_1), ((HB.out.cell (World.block_lt_of_cell? w _ hw162_0)).trans hw162_0), ((HB.out.cell (World.block_lt_of_cell? w _ hw162_1)).trans hw162_1), ((HB.out.cell (World.block_lt_of_cell? w _ hw163_0)).trans hw163_0), ((HB.out.cell (World.block_lt_of_cell? w _ hw163_1)).trans hw163_1), ((HB.out.cell (World.block_lt_of_cell? w _ hw164_0)).trans hw164_0), ((HB.out.cell (World.block_lt_of_cell? w _ hw164_1)).trans hw164_1), ((HB.out.cell (World.block_lt_of_cell? w _ hw165_0)).trans hw165_0), ((HB.out.cell (World.block_lt_of_cell? w _ hw165_1)).trans hw165_1), ((HB.out.cell (World.block_lt_of_cell? w _ hw167_0)).trans hw167_0), ((HB.out.cell (World.block_lt_of_cell? w _ hw167_1)).trans hw167_1), ((HB.out.cell (World.block_lt_of_cell? w _ hw168_0)).trans hw168_0), ((HB.out.cell (World.block_lt_of_cell? w _ hw168_1)).trans hw168_1)⟩ (fun hHeld => ?_)
      clear hK K
      refine norm_ (a' := ?_) ?_ ?_
      rotate_left
      · show Act.put _ (some 45) _ = _
        simp only [Act.put, List.setIfInBounds_toArray, List.set_cons_zero, List.set_cons_succ, i64_w, i32_w]
        rfl
      refine sched_ [(36, some 46), (37, some 47), (38, some 48), (39, some 49), (40, some 50), (41, some 51), (42, some 52), (43, some 53), (44, some 54), (45, some 55), (46, some 56), (48, some 58), (49, some 59), (50, some 60), (51, some 61), (47, some 57), (52, some 62)] ?_
      iterate 17 (refine quiet_ (v := ?_) (a' := ?_) rfl rfl (take_ofW HT_.out HW_.out (by kernel_rfl)) (fun _ _ _ h => h) ⟨by rfl, ?_⟩ hHeld ?_ ?_; rotate_left; (rintro w' ⟨s0, s1, s2, s3, s4, s5, s6, s7, s8, s9, s10, s11, s12, s13⟩; go_simp; with_reducible rfl); rotate_left; (simp only [Act.put, List.setIfInBounds_toArray, List.set_cons_zero, List.set_cons_succ, i64_w, i32_w]; rfl))
      refine schedEnd_ ?_
      refine one_ (i := 53) (N := some 63) #[true, true, true, true, true, true, true, true, true, true, true, true, true, true, true, true, true, true, true, true, true, true, true, true, true, true, true, true, true, true, true, true, true, true, true, true, true, true, true, true, true, true, true, true, true, true, true, true, true, true, true, true, true, true, false, false, false] rfl rfl (one_of HT_.out (by kernel_rfl)) (by decide) (fun K hK => ?_)
      refine goes_ Try.func98 (by kernel_rfl) rfl #[.slice A167_0 ((rd_T75 l0 (ji13)).f0).length c167_0, .slice A160_0 ((rd_T75 l0 x3_1).f0).length c160_0] (by rfl) rfl rfl (by (try simp only [List.map_toArray, List.map_cons, List.map_nil]); first | done | (simp only [hji13]; rfl) | rfl | (simp only [List.length_drop, List.length_take]; rfl)) ?_
      with_reducible refine (spec_rowLess.calls k1 _ _ ((rd_T75 l0 (ji13)).f0) _ _ ((rd_T75 l0 x3_1).f0) false _ ?side1 ?side2 ?side3 ?side4 A16.out).mono ?_
      (case side1 => repeat (first | exact (Kd.C_below HR167_0.out (by repeat (first | (with_reducible first | exact HB.out | apply below_alloc | apply pw_below_drewN | apply below_drew1) | exact HB.out))) | (with_reducible refine Kd.C_alloc ?_ _) | (with_reducible refine Kd.C_drewN ?_ _) | (with_reducible refine Kd.C_drew ?_)))
      (case side2 => exact HC167_0.out)
      (case side3 => repeat (first | exact (Kd.C_below HR168_0.out (by repeat (first | (with_reducible first | exact HB.out | apply below_alloc | apply pw_below_drewN | apply below_drew1) | exact HB.out))) | (with_reducible refine Kd.C_alloc ?_ _) | (with_reducible refine Kd.C_drewN ?_ _) | (with_reducible refine Kd.C_drew ?_)))
      (case side4 => exact HC168_0.out)
      rintro e w' ⟨rfl, ⟨nd, rfl⟩⟩
      refine ⟨_, rfl, ?_⟩
      refine hK.out _ _ ⟨((HB.out.cell (World.block_lt_of_cell? w _ hw160_0)).trans hw160_0), ((HB.out.cell (World.block_lt_of_cell? w _ hw160_1)).trans hw160_1), ((HB.out.cell (World.block_lt_of_cell? w _ hw162_0)).trans hw162_0), ((HB.out.cell (World.block_lt_of_cell? w _ hw162_1)).trans hw162_1), ((HB.out.cell (World.block_lt_of_cell? w _ hw163_0)).trans hw163_0), ((HB.out.cell (World.block_lt_of_cell? w _ hw163_1)).trans hw163_1), ((HB.out.cell (World.block_lt_of_cell? w _ hw164_0)).trans hw164_0), ((HB.out.cell (World.block_lt_of_cell? w _ hw164_1)).trans hw164_1), ((HB.out.cell (World.block_lt_of_cell? w _ hw165_0)).trans hw165_0), ((HB.out.cell (World.block_lt_of_cell? w _ hw165_1)).trans hw165_1), ((HB.out.cell (World.block_lt_of_cell? w _ hw167_0)).trans hw167_0), ((HB.out.cell (World.block_lt_of_cell? w _ hw167_1)).trans hw167_1), ((HB.out.cell (World.block_lt_of_cell? w _ hw168_0)).trans hw168_0), ((HB.out.cell (World.block_lt_of_cell? w _ hw168_1)).trans hw168_1)⟩ (fun hHeld => ?_)
      clear hK K
      refine norm_ (a' := ?_) ?_ ?_
      rotate_left
      · show Act.put _ (some 63) _ = _
        simp only [Act.put, List.setIfInBounds_toArray, List.set_cons_zero, List.set_cons_succ, i64_w, i32_w]
        rfl
      refine sched_ [(54, some 64), (55, some 65), (56, some 66)] ?_
      iterate 3 (refine quiet_ (v := ?_) (a' := ?_) rfl rfl (take_ofW HT_.out HW_.out (by kernel_rfl)) (fun _ _ _ h => h) ⟨by rfl, ?_⟩ hHeld ?_ ?_; rotate_left; (rintro w' ⟨s0, s1, s2, s3, s4, s5, s6, s7, s8, s9, s10, s11, s12, s13⟩; go_simp; with_reducible rfl); rotate_left; (simp only [Act.put, List.setIfInBounds_toArray, List.set_cons_zero, List.set_cons_succ, i64_w, i32_w]; rfl))
      refine schedEnd_ ?_
      refine done_ (done_of HT_.out (by kernel_rfl)) ?_
      try go_wp2
      go_ret
      exact ⟨by first | rfl | (simp [errW_none, errW_some] <;> rfl) | (simp only [← hji13]; first | rfl | (simp [errW_none, errW_some] <;> rfl)) | (simp [*, errW_none, errW_some] <;> rfl), by repeat (first | (with_reducible first | exact HB.out | apply below_alloc | apply pw_below_drewN | apply below_drew1) | exact HB.out)⟩

end Go.Proofs.Ytfcdnfbhoppefaa.PFnExactPolyEval
