/- Rows in order: both comparisons are one. -/
import Derived.Test.YtfcdnfbhoppefaaAuxFnExactPolyEval
import Derived.Test.YtfcdnfbhoppefaaPFnExactPolyEvalx
namespace Go.Proofs.Ytfcdnfbhoppefaa.QFnExactPolyEval
open Go.RowKit Go.Proofs.Ytfcdnfbhoppefaa.PFnExactPolyEval Go.Proofs.YtfcdnfbhoppefaaW.PrintWords Go.Proofs.YtfcdnfbhoppefaaW.PrintLast Go.Proofs.Ytfcdnfbhoppefaa.Aux

theorem inRange_eq (a b c : Int) : spec_inRange.f a b c = some (decide (b ≤ a ∧ a ≤ c)) := by
  unfold spec_inRange.f
  split
  · rename_i h; simp [h]
  · rename_i h
    have : ¬ b ≤ a := by omega
    simp [this]

/-! rows in order -/
theorem rowLess_ev (x y : List Int) (hx : x.length ≤ maxLen) : Ev (fun k => spec_rowLess.f k x y) (ltL x y) := by
  unfold spec_rowLess.f
  suffices H : ∀ d i : Nat, i + d = x.length → Ev (fun k => spec_rowLess.l0 k x y (i : Int)) (ltL (x.drop i) (y.drop i)) from by
    simpa using H x.length 0 (by omega)
  intro d
  induction d with
  | zero =>
    intro i hi
    apply evSucc; simp only [spec_rowLess.l0]
    refine evNeg (by omega) ?_
    apply evSucc; simp only [spec_rowLess.j1]
    refine evNeg (by simp) (evEq (evNow _) ?_)
    rw [dropEnd (by omega : x.length ≤ i)]
    by_cases h : x.length < y.length
    · rw [dropAt (show i < y.length by omega)]; simp [ltL]; omega
    · rw [dropEnd (by omega : y.length ≤ i)]; simp [ltL]; omega
  | succ d ih =>
    intro i hi
    have hlt : i < x.length := by omega
    apply evSucc; simp only [spec_rowLess.l0]
    refine evPos (by omega) ?_
    apply evSucc; simp only [spec_rowLess.j1]
    rw [dropAt hlt]
    by_cases hy : i < y.length
    · refine evPos (by simp; omega) (evPos (by omega) (evPos (by omega) (evPos (by omega) ?_)))
      rw [rdAt hlt, rdAt hy, dropAt hy]
      by_cases he : x[i] = y[i]
      · refine evPos he ?_
        rw [wrapSucc hlt hx]
        refine evEq (ih (i + 1) (by omega)) ?_
        simp [ltL, he]
      · refine evNeg he (evEq (evNow _) ?_)
        simp [ltL, he]
    · refine evNeg (by simp; omega) (evEq (evNow _) ?_)
      rw [dropEnd (by omega : y.length ≤ i)]
      simp [ltL]; omega

/-- Three ways: the program's comparison. -/
def cmpL : List Int → List Int → Int
  | [], [] => 0
  | [], _ :: _ => -1
  | _ :: _, [] => 1
  | a :: x, b :: y => if a = b then cmpL x y else if a < b then -1 else 1
theorem cmpL_lt : ∀ x y, decide (cmpL x y < 0) = ltL x y
  | [], [] => rfl
  | [], _ :: _ => rfl
  | _ :: _, [] => rfl
  | a :: x, b :: y => by
    unfold cmpL ltL
    by_cases h : a = b
    · simp only [h, if_true]; exact cmpL_lt x y
    · by_cases h2 : a < b <;> simp [h, h2]
theorem compare_eq (a b : Int) : cmp_Compare_int.f a b = some (if a = b then 0 else if a < b then -1 else 1) := by
  unfold cmp_Compare_int.f cmp_isNaN_int.f
  simp only [Option.bind_some, bne_self_eq_false, Bool.false_eq_true, if_false]
  by_cases h : a = b
  · subst h; simp
  · by_cases h2 : a < b
    · simp [h, h2]
    · simp [h, h2]; omega
theorem Compare_ev (x y : List Int) (hx : x.length ≤ maxLen) : Ev (fun k => slices_Compare_int_int.f k x y) (cmpL x y) := by
  unfold slices_Compare_int_int.f
  suffices H : ∀ d i : Nat, i + d = x.length → i ≤ y.length → Ev (fun k => slices_Compare_int_int.l0 k x y x (x.length : Int) (i : Int)) (cmpL (x.drop i) (y.drop i)) from by
    simpa using H x.length 0 (by omega) (by omega)
  intro d
  induction d with
  | zero =>
    intro i hi hy
    apply evSucc; simp only [slices_Compare_int_int.l0]
    refine evNeg (by omega) ?_
    rw [dropEnd (by omega : x.length ≤ i)]
    by_cases h : x.length < y.length
    · rw [dropAt (show i < y.length by omega)]; exact evPos (by omega) (evNow _)
    · rw [dropEnd (by omega : y.length ≤ i)]; exact evNeg (by omega) (evNow _)
  | succ d ih =>
    intro i hi hy
    have hlt : i < x.length := by omega
    apply evSucc; simp only [slices_Compare_int_int.l0]
    refine evPos (by omega) (evPos (by omega) (evPos (by omega) ?_))
    rw [dropAt hlt]
    by_cases h : i < y.length
    · refine evNeg (by omega) (evPos (by omega) ?_)
      rw [rdAt hlt, rdAt h, dropAt h, compare_eq]
      refine evBind' _ rfl ?_
      by_cases he : x[i] = y[i]
      · rw [if_pos he]
        refine evPos rfl ?_
        rw [wrapSucc hlt hx]
        refine evEq (ih (i + 1) (by omega) (by omega)) ?_
        simp [cmpL, he]
      · rw [if_neg he]
        refine evNeg (by split <;> decide) (evEq (evNow _) ?_)
        simp [cmpL, he]
    · refine evPos (by omega) (evEq (evNow _) ?_)
      rw [dropEnd (by omega : y.length ≤ i)]; rfl
theorem RowLess_ev (x y : List Int) (hx : x.length ≤ maxLen) : Ev (fun k => impl_RowLess.f k x y) (ltL x y) := by
  unfold impl_RowLess.f
  exact evBind _ (Compare_ev x y hx) (evEq (evNow _) (cmpL_lt x y))

end Go.Proofs.Ytfcdnfbhoppefaa.QFnExactPolyEval
