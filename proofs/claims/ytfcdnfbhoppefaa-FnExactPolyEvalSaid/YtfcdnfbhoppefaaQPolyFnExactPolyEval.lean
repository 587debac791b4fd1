/- Valid polynomials: both tests are one. -/
import Derived.Test.YtfcdnfbhoppefaaAuxFnExactPolyEval
import Derived.Test.YtfcdnfbhoppefaaQRowFnExactPolyEval
import Derived.Test.YtfcdnfbhoppefaaQTermFnExactPolyEval
import Derived.Test.YtfcdnfbhoppefaaPFnExactPolyEvalx
namespace Go.Proofs.Ytfcdnfbhoppefaa.QFnExactPolyEval
open Go.RowKit Go.Proofs.Ytfcdnfbhoppefaa.PFnExactPolyEval Go.Proofs.YtfcdnfbhoppefaaW.PrintWords Go.Proofs.YtfcdnfbhoppefaaW.PrintLast Go.Proofs.Ytfcdnfbhoppefaa.Aux

/-! ### the two tests -/
def VarOk (v : List Int) (k : Nat) : Prop := 0 ≤ v.getD k 0 ∧ v.getD k 0 ≤ 299 ∧ (0 < k → v.getD (k - 1) 0 ≤ v.getD k 0)
instance (v : List Int) (k : Nat) : Decidable (VarOk v k) := by unfold VarOk; infer_instance
def varsB (v : List Int) : Bool := allFrom (fun k => decide (VarOk v k)) 0 v.length
def rngB (t : IT) : Bool := decide (t.f1.length ≤ 6 ∧ t.f0 ≠ 0 ∧ -1000000 ≤ t.f0 ∧ t.f0 ≤ 1000000)
def ordB (p : List IT) (i : Nat) : Bool := decide (i = 0) || ltL (rd_T52 p ((i - 1 : Nat) : Int)).f1 (rd_T52 p i).f1
def termB (p : List IT) (i : Nat) : Bool := varsB (rd_T52 p i).f1 && (rngB (rd_T52 p i) && ordB p i)
def polyB (p : List IT) : Bool := allFrom (termB p) 0 p.length && decide (p.length ≤ 400)
theorem if_polyB (p : List IT) : (if allFrom (termB p) 0 p.length = true then decide ((p.length : Int) ≤ 400) else false) = polyB p := by
  unfold polyB
  rw [show decide ((p.length : Int) ≤ 400) = decide (p.length ≤ 400) from by rw [decide_eq_decide]; omega]
  cases allFrom (termB p) 0 p.length <;> simp
theorem ord_zero (p : List IT) : ordB p 0 = true := rfl
theorem ord_pos (p : List IT) {i : Nat} (h : 0 < i) : ordB p i = ltL (rd_T52 p ((i - 1 : Nat) : Int)).f1 (rd_T52 p i).f1 := by
  unfold ordB; rw [decide_eq_false (by omega), Bool.false_or]

/-- The reference's walk over one term's variables. -/
theorem spec_vars (p : List IT) (i : Int) (v : List Int) (hv : v.length ≤ maxLen) (r : Bool)
    (hend : varsB v = true → Ev (fun k => spec_validPoly.l1 k p i v (v.length : Int)) r) : Ev (fun k => spec_validPoly.l1 k p i v 0) (if varsB v = true then r else false) := by
  refine loopAll0 (L := fun k j => spec_validPoly.l1 k p i v j) v.length (fun k => decide (VarOk v k)) r false hend ?_ ?_
  · intro j hj hp r hr
    obtain ⟨h0, h1, h2⟩ := of_decide_eq_true hp
    apply evSucc; simp only [spec_validPoly.l1]
    refine evPos (by omega) (evPos (by omega) ?_)
    rw [inRange_eq, rdNat]
    refine evBind' true (by rw [decide_eq_true ⟨h0, h1⟩]) (evPos rfl ?_)
    by_cases hz : 0 < j
    · refine evPos (by omega) ?_
      rw [wrapPred hz hj hv, wrapSucc hj hv, rdNat]
      exact evPos (by omega) (evPos (by omega) (evNeg (by have := h2 hz; omega) hr))
    · rw [wrapSucc hj hv]
      exact evNeg (by omega) hr
  · intro j hj hp
    have hn := of_decide_eq_false hp
    apply evSucc; simp only [spec_validPoly.l1]
    refine evPos (by omega) (evPos (by omega) ?_)
    rw [inRange_eq, rdNat]
    refine evBind' _ rfl ?_
    by_cases hr : 0 ≤ v.getD j 0 ∧ v.getD j 0 ≤ 299
    · refine evPos (decide_eq_true hr) ?_
      by_cases hz : 0 < j
      · refine evPos (by omega) ?_
        rw [wrapPred hz hj hv, rdNat]
        exact evPos (by omega) (evPos (by omega) (evPos (Int.not_le.1 fun h => hn ⟨hr.1, hr.2, fun _ => h⟩) (evNow _)))
      · exact absurd ⟨hr.1, hr.2, fun h => absurd h hz⟩ hn
    · exact evNeg (by rw [decide_eq_true_eq]; exact hr) (evNow _)
theorem spec_term (p : List IT) (hp : p.length ≤ maxLen) (hv : ∀ t ∈ p, t.f1.length ≤ maxLen) (i : Nat) (hi : i < p.length) (r : Bool)
    (hr : termB p i = true → Ev (fun k => spec_validPoly.l0 k p ((i + 1 : Nat) : Int)) r) : Ev (fun k => spec_validPoly.l0 k p (i : Int)) (if termB p i = true then r else false) := by
  have hvi : ∀ i : Nat, i < p.length → (rd_T52 p i).f1.length ≤ maxLen := fun i hi => by rw [rdIAt hi]; exact hv _ (List.getElem_mem hi)
  apply evSucc; simp only [spec_validPoly.l0]
  refine evPos (by omega) (evPos (by omega) ?_)
  refine evEq (spec_vars p i _ (hvi i hi) (if (rngB (rd_T52 p i) && ordB p i) = true then r else false) ?_) (by unfold termB; cases varsB (rd_T52 p i).f1 <;> simp)
  intro hvs
  unfold termB at hr
  rw [hvs, Bool.true_and] at hr
  apply evSucc; simp only [spec_validPoly.l1]
  refine evNeg (by omega) ?_
  by_cases h6 : (rd_T52 p i).f1.length ≤ 6
  · refine evNeg (by omega) (evPos (by omega) (evPos (by omega) ?_))
    by_cases h0 : (rd_T52 p i).f0 = 0
    · exact evPos h0 (evEq (evNow _) (by simp [rngB, h0]))
    · refine evNeg h0 ?_
      rw [inRange_eq]
      by_cases hr1 : -1000000 ≤ (rd_T52 p i).f0 ∧ (rd_T52 p i).f0 ≤ 1000000
      · have hg : rngB (rd_T52 p i) = true := decide_eq_true ⟨h6, h0, hr1⟩
        rw [hg, Bool.true_and] at hr ⊢
        refine evBind' _ rfl (evPos (decide_eq_true hr1) ?_)
        by_cases hz : 0 < i
        · refine evPos (by omega) ?_
          rw [wrapPred hz hi hp, wrapSucc hi hp]
          refine evPos (by omega) (evPos (by omega) ?_)
          rw [ord_pos p hz] at hr ⊢
          refine evBind (ltL (rd_T52 p ((i - 1 : Nat) : Int)).f1 (rd_T52 p i).f1) ?_ ?_
          · unfold spec_termLess.f
            exact evBind _ (rowLess_ev _ _ (hvi (i - 1) (by omega))) (evNow _)
          · exact evIf (fun h => by rw [if_pos h]; exact hr h) (fun h => by rw [if_neg h]; exact evNow _)
        · obtain rfl : i = 0 := by omega
          rw [ord_zero, if_pos rfl, wrapSucc hi hp]
          exact evNeg (by omega) (hr (ord_zero p))
      · refine evBind' _ rfl (evNeg (by rw [decide_eq_true_eq]; exact hr1) (evEq (evNow _) ?_))
        rw [show rngB (rd_T52 p i) = false from decide_eq_false fun h => hr1 h.2.2]; rfl
  · refine evPos (by omega) (evEq (evNow _) ?_)
    rw [show rngB (rd_T52 p i) = false from decide_eq_false fun h => h6 h.1]; rfl
theorem spec_ev (p : List IT) (hp : p.length ≤ maxLen) (hv : ∀ t ∈ p, t.f1.length ≤ maxLen) : Ev (fun k => spec_validPoly.f k p) (polyB p) := by
  unfold spec_validPoly.f
  rw [← if_polyB]
  refine loopAll0 (L := fun k i => spec_validPoly.l0 k p i) p.length (termB p) _ false ?_ ?_ ?_
  · intro _
    apply evSucc; simp only [spec_validPoly.l0]
    exact evNeg (by omega) (evNow _)
  · intro i hi ht r hr
    have := spec_term p hp hv i hi r (fun _ => hr)
    rwa [if_pos ht] at this
  · intro i hi ht
    have := spec_term p hp hv i hi true (fun h => by rw [ht] at h; cases h)
    rwa [if_neg (by rw [ht]; simp)] at this

theorem impl_vars (p : List IT) (i : Int) (c : Int) (v : List Int) (hv : v.length ≤ maxLen) (r : Bool)
    (hend : varsB v = true → Ev (fun k => impl_ValidPoly.l1 k p p (p.length : Int) i v (v.length : Int) (v.length : Int) c v) r) : Ev (fun k => impl_ValidPoly.l1 k p p (p.length : Int) i v (v.length : Int) 0 c v) (if varsB v = true then r else false) := by
  refine loopAll0 (L := fun k j => impl_ValidPoly.l1 k p p (p.length : Int) i v (v.length : Int) j c v) v.length (fun k => decide (VarOk v k)) r false hend ?_ ?_
  · intro j hj hp r hr
    obtain ⟨h0, h1, h2⟩ := of_decide_eq_true hp
    apply evSucc; simp only [impl_ValidPoly.l1]
    refine evPos (by omega) (evPos (by omega) (evPos (by omega) ?_))
    rw [rdNat]
    refine evNeg (by omega) (evNeg (by omega) ?_)
    by_cases hz : 0 < j
    · refine evPos (by omega) ?_
      rw [wrapPred hz hj hv, wrapSucc hj hv, rdNat]
      exact evPos (by omega) (evPos (by omega) (evNeg (by have := h2 hz; omega) hr))
    · rw [wrapSucc hj hv]
      exact evNeg (by omega) hr
  · intro j hj hp
    have hn := of_decide_eq_false hp
    apply evSucc; simp only [impl_ValidPoly.l1]
    refine evPos (by omega) (evPos (by omega) (evPos (by omega) ?_))
    rw [rdNat]
    refine evIf (fun _ => evNow _) (fun h0 => evIf (fun _ => evNow _) (fun h1 => ?_))
    by_cases hz : 0 < j
    · refine evPos (by omega) ?_
      rw [wrapPred hz hj hv, rdNat]
      exact evPos (by omega) (evPos (by omega) (evPos (Int.not_le.1 fun h => hn ⟨by omega, by omega, fun _ => h⟩) (evNow _)))
    · exact absurd ⟨by omega, by omega, fun h => absurd h hz⟩ hn
theorem impl_term (p : List IT) (hp : p.length ≤ maxLen) (hv : ∀ t ∈ p, t.f1.length ≤ maxLen) (i : Nat) (hi : i < p.length) (r : Bool)
    (hr : termB p i = true → Ev (fun k => impl_ValidPoly.l0 k p p (p.length : Int) ((i + 1 : Nat) : Int)) r) : Ev (fun k => impl_ValidPoly.l0 k p p (p.length : Int) (i : Int)) (if termB p i = true then r else false) := by
  have hvi : ∀ i : Nat, i < p.length → (rd_T52 p i).f1.length ≤ maxLen := fun i hi => by rw [rdIAt hi]; exact hv _ (List.getElem_mem hi)
  have hbad : rngB (rd_T52 p i) = false → ∀ c v, Ev (fun k => impl_ValidPoly.j1 k p p (p.length : Int) (i : Int) true c v) (if termB p i = true then r else false) := fun h c v => by
    apply evSucc; simp only [impl_ValidPoly.j1]
    refine evPos (by first | trivial | rfl) (evEq (evNow _) ?_)
    unfold termB; rw [h]; simp
  have hgood : rngB (rd_T52 p i) = true → Ev (fun k => impl_ValidPoly.j1 k p p (p.length : Int) (i : Int) (!ordB p i) (rd_T52 p i).f0 (rd_T52 p i).f1) (if termB p i = true then r else false) := fun h => by
    apply evSucc; simp only [impl_ValidPoly.j1]
    unfold termB at hr ⊢
    rw [h, Bool.true_and] at hr ⊢
    cases ho : ordB p i with
    | false => exact evPos rfl (evEq (evNow _) (by simp))
    | true =>
      rw [ho, Bool.and_true] at hr
      refine evNeg (by simp) ?_
      rw [Bool.and_true]
      refine impl_vars p i _ _ (hvi i hi) r (fun hvs => ?_)
      apply evSucc; simp only [impl_ValidPoly.l1]
      refine evNeg (by omega) ?_
      rw [wrapSucc hi hp]
      exact hr hvs
  apply evSucc; simp only [impl_ValidPoly.l0]
  refine evPos (by omega) (evPos (by omega) (evPos (by omega) ?_))
  refine evIf (fun h => hbad (decide_eq_false fun q => q.2.1 h) _ _) (fun h0 => evIf (fun h => hbad (decide_eq_false fun q => by omega) _ _) (fun h1 => evIf (fun h => hbad (decide_eq_false fun q => by omega) _ _) (fun h2 => evIf (fun h => hbad (decide_eq_false fun q => by omega) _ _) (fun h3 => ?_))))
  have hg : rngB (rd_T52 p i) = true := decide_eq_true ⟨by omega, h0, by omega, by omega⟩
  by_cases hz : 0 < i
  · refine evPos (by omega) ?_
    rw [wrapPred hz hi hp]
    refine evPos (by omega) (evPos (by omega) (evBind _ (RowLess_ev _ _ (hvi (i - 1) (by omega))) ?_))
    have := hgood hg
    rwa [ord_pos p hz] at this
  · obtain rfl : i = 0 := by omega
    exact evNeg (by omega) (hgood hg)
theorem impl_ev (p : List IT) (hp : p.length ≤ maxLen) (hv : ∀ t ∈ p, t.f1.length ≤ maxLen) : Ev (fun k => impl_ValidPoly.f k p) (polyB p) := by
  unfold impl_ValidPoly.f
  rw [← if_polyB]
  refine loopAll0 (L := fun k i => impl_ValidPoly.l0 k p p (p.length : Int) i) p.length (termB p) _ false ?_ ?_ ?_
  · intro _
    apply evSucc; simp only [impl_ValidPoly.l0]
    exact evNeg (by omega) (evNow _)
  · intro i hi ht r hr
    have := impl_term p hp hv i hi r (fun _ => hr)
    rwa [if_pos ht] at this
  · intro i hi ht
    have := impl_term p hp hv i hi true (fun h => by rw [ht] at h; cases h)
    rwa [if_neg (by rw [ht]; simp)] at this

end Go.Proofs.Ytfcdnfbhoppefaa.QFnExactPolyEval
