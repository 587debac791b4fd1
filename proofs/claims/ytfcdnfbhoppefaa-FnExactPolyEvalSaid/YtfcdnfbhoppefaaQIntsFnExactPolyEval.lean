/- Lists of numbers: copies and equality. -/
import Derived.Test.YtfcdnfbhoppefaaAuxFnExactPolyEval
import Derived.Test.YtfcdnfbhoppefaaPFnExactPolyEvalx
namespace Go.Proofs.Ytfcdnfbhoppefaa.QFnExactPolyEval
open Go.RowKit Go.Proofs.Ytfcdnfbhoppefaa.PFnExactPolyEval Go.Proofs.YtfcdnfbhoppefaaW.PrintWords Go.Proofs.YtfcdnfbhoppefaaW.PrintLast Go.Proofs.Ytfcdnfbhoppefaa.Aux

/-! ### copies -/
theorem toIntS_ev (x : List Int) (hx : x.length ≤ 1048576) : Ev (fun k => laws_toIntS.f k x) x := by
  unfold laws_toIntS.f
  refine evPos (by omega) (evPos (by omega) ?_)
  suffices H : ∀ d i : Nat, i + d = x.length → ∀ ys : List Int, ys = (List.range i).map (fun j => x.getD j 0) ++ List.replicate (x.length - i) 0 → Ev (fun k => laws_toIntS.l0 k x ys (i : Int)) x from
    H x.length 0 (by omega) _ (by simp)
  intro d
  induction d with
  | zero =>
    intro i hi ys hys
    apply evSucc; simp only [laws_toIntS.l0]
    refine evNeg (by omega) (evEq (evNow _) ?_)
    obtain rfl : i = x.length := by omega
    rw [hys, rangeMap]; simp
  | succ d ih =>
    intro i hi ys hys
    have hlt : i < x.length := by omega
    have hl : ys.length = x.length := by rw [hys]; simp; omega
    apply evSucc; simp only [laws_toIntS.l0]
    refine evPos (by omega) (evPos (by omega) (evPos (by omega) ?_))
    rw [wrapSucc hlt (by unfold maxLen; omega)]
    exact ih (i + 1) (by omega) _ (setNext ys (fun j => x.getD j 0) 0 i x.length hlt hys)

/-! ### equality -/
theorem eqIntS_refl (x : List Int) (hx : x.length ≤ maxLen) : Ev (fun k => laws_eqIntS.f k x x) true := by
  unfold laws_eqIntS.f
  refine evPos rfl ?_
  refine evEq (loopAll0 (L := fun k i => laws_eqIntS.l0 k x x i) x.length (fun _ => true) true true ?_ ?_ ?_) (by simp)
  · intro _
    apply evSucc; simp only [laws_eqIntS.l0]
    exact evNeg (by omega) (evNow _)
  · intro i hi _ r hr
    apply evSucc; simp only [laws_eqIntS.l0]
    refine evPos (by omega) (evPos (by omega) (evPos (by omega) (evPos (by first | trivial | rfl) ?_)))
    rw [wrapSucc hi hx]; exact hr
  · intro i hi h; cases h
end Go.Proofs.Ytfcdnfbhoppefaa.QFnExactPolyEval
