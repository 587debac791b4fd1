/- Small inputs: the program's test and the reference's are one. -/
import Derived.Test.YtfcdnfbhoppefaaQZsetFnExactPolyEval
import Derived.Test.YtfcdnfbhoppefaaQEntSFnExactPolyEval
namespace Go.Proofs.Ytfcdnfbhoppefaa.QFnExactPolyEval
open Go.RowKit Go.Proofs.Ytfcdnfbhoppefaa.PFnExactPolyEval Go.Proofs.YtfcdnfbhoppefaaW.PrintWords Go.Proofs.YtfcdnfbhoppefaaW.PrintLast Go.Proofs.Ytfcdnfbhoppefaa.Aux

def FineS (x : List (List ET)) : Prop := x.length ≤ maxLen ∧ ∀ z ∈ x, Fine z
theorem FineS.at {x : List (List ET)} (h : FineS x) {i : Nat} (hi : i < x.length) : Fine (rd_L_75 x (i : Int)) := by
  rw [rdIESAt hi]; exact h.2 _ (List.getElem_mem hi)
def LowOk (z : List ET) (k : Nat) : Prop := -9 ≤ (rd_T75 z k).f1 ∧ (rd_T75 z k).f1 ≤ 9
instance (z : List ET) (k : Nat) : Decidable (LowOk z k) := by unfold LowOk; infer_instance
def lowB (z : List ET) : Bool := allFrom (fun k => decide (LowOk z k)) 0 z.length
def smB (x : List (List ET)) (i : Nat) : Bool := zsetB (rd_L_75 x i) && (decide ((rd_L_75 x i).length ≤ 100) && lowB (rd_L_75 x i))
def smallB (x : List (List ET)) : Bool := allFrom (smB x) 0 x.length && decide (x.length ≤ 3)
theorem if_smallB (x : List (List ET)) : (if allFrom (smB x) 0 x.length = true then decide ((x.length : Int) ≤ 3) else false) = smallB x := by
  unfold smallB
  rw [show decide ((x.length : Int) ≤ 3) = decide (x.length ≤ 3) from by rw [decide_eq_decide]; omega]
  cases allFrom (smB x) 0 x.length <;> simp

theorem spec_low (x : List (List ET)) (i : Nat) (hi : i < x.length) (hz : (rd_L_75 x i).length ≤ maxLen) (r : Bool)
    (hend : lowB (rd_L_75 x i) = true → Ev (fun k => spec_smallInputs.l1 k x (i : Int) ((rd_L_75 x i).length : Int)) r) : Ev (fun k => spec_smallInputs.l1 k x (i : Int) 0) (if lowB (rd_L_75 x i) = true then r else false) := by
  refine loopAll0 (L := fun k j => spec_smallInputs.l1 k x (i : Int) j) _ (fun k => decide (LowOk (rd_L_75 x i) k)) r false hend ?_ ?_
  · intro j hj hp r hr
    apply evSucc; simp only [spec_smallInputs.l1]
    refine evPos (by omega) (evPos (by omega) (evPos (by omega) (evPos (by omega) ?_)))
    rw [inRange_eq, wrapSucc hj hz]
    exact evBind' _ rfl (evPos hp hr)
  · intro j hj hp
    apply evSucc; simp only [spec_smallInputs.l1]
    refine evPos (by omega) (evPos (by omega) (evPos (by omega) (evPos (by omega) ?_)))
    rw [inRange_eq]
    exact evBind' _ rfl (evNeg (by rw [show decide (-9 ≤ (rd_T75 (rd_L_75 x i) j).f1 ∧ (rd_T75 (rd_L_75 x i) j).f1 ≤ 9) = false from hp]; simp) (evNow _))
theorem spec_sm (x : List (List ET)) (hx : FineS x) (i : Nat) (hi : i < x.length) (r : Bool)
    (hr : smB x i = true → Ev (fun k => spec_smallInputs.l0 k x ((i + 1 : Nat) : Int)) r) : Ev (fun k => spec_smallInputs.l0 k x (i : Int)) (if smB x i = true then r else false) := by
  have hbad : smB x i = false → Ev (fun k => spec_smallInputs.j1 k x (i : Int) true) (if smB x i = true then r else false) := fun h => by
    apply evSucc; simp only [spec_smallInputs.j1]
    exact evPos (by first | trivial | rfl) (evEq (evNow _) (by rw [h]; rfl))
  apply evSucc; simp only [spec_smallInputs.l0]
  refine evPos (by omega) (evPos (by omega) (evBind _ (spec_zset_ev _ (hx.at hi)) (evIf (fun h => ?_) (fun h => hbad (by unfold smB; simp at h; rw [h]; rfl)))))
  by_cases hl : (rd_L_75 x i).length ≤ 100
  · rw [show decide (((rd_L_75 x i).length : Int) > 100) = false from decide_eq_false (by omega)]
    apply evSucc; simp only [spec_smallInputs.j1]
    refine evNeg (by simp) ?_
    unfold smB at hr ⊢
    rw [h, Bool.true_and, decide_eq_true hl, Bool.true_and] at hr ⊢
    refine spec_low x i hi (hx.at hi).1 r (fun hlow => ?_)
    apply evSucc; simp only [spec_smallInputs.l1]
    refine evPos (by omega) (evPos (by omega) (evNeg (by omega) ?_))
    rw [wrapSucc hi hx.1]
    exact hr hlow
  · rw [show decide (((rd_L_75 x i).length : Int) > 100) = true from decide_eq_true (by omega)]
    exact hbad (by unfold smB; rw [decide_eq_false hl]; simp)
theorem spec_small_ev (x : List (List ET)) (hx : FineS x) : Ev (fun k => spec_smallInputs.f k x) (smallB x) := by
  unfold spec_smallInputs.f
  rw [← if_smallB]
  refine loopAll0 (L := fun k i => spec_smallInputs.l0 k x i) x.length (smB x) _ false ?_ ?_ ?_
  · intro _
    apply evSucc; simp only [spec_smallInputs.l0]
    exact evNeg (by omega) (evNow _)
  · intro i hi ht r hr
    have := spec_sm x hx i hi r (fun _ => hr)
    rwa [if_pos ht] at this
  · intro i hi ht
    have := spec_sm x hx i hi true (fun h => by rw [ht] at h; cases h)
    rwa [if_neg (by rw [ht]; simp)] at this

theorem impl_low (x : List (List ET)) (i : Int) (z : List ET) (hz : z.length ≤ maxLen) (r : Bool)
    (hend : lowB z = true → Ev (fun k => impl_smallInputs.l1 k x x (x.length : Int) i z (z.length : Int) (z.length : Int)) r) : Ev (fun k => impl_smallInputs.l1 k x x (x.length : Int) i z (z.length : Int) 0) (if lowB z = true then r else false) := by
  refine loopAll0 (L := fun k j => impl_smallInputs.l1 k x x (x.length : Int) i z (z.length : Int) j) _ (fun k => decide (LowOk z k)) r false hend ?_ ?_
  · intro j hj hp r hr
    have hp := of_decide_eq_true hp
    apply evSucc; simp only [impl_smallInputs.l1]
    refine evPos (by omega) (evPos (by omega) (evPos (by omega) ?_))
    rw [wrapSucc hj hz]
    exact evNeg (Int.not_lt.2 hp.1) (evNeg (Int.not_lt.2 hp.2) hr)
  · intro j hj hp
    have hp := of_decide_eq_false hp
    apply evSucc; simp only [impl_smallInputs.l1]
    refine evPos (by omega) (evPos (by omega) (evPos (by omega) ?_))
    exact evIf (fun _ => evNow _) (fun h1 => evIf (fun _ => evNow _) (fun h2 => absurd ⟨Int.not_lt.1 h1, Int.not_lt.1 h2⟩ hp))
theorem impl_sm (x : List (List ET)) (hx : FineS x) (i : Nat) (hi : i < x.length) (r : Bool)
    (hr : smB x i = true → Ev (fun k => impl_smallInputs.l0 k x x (x.length : Int) ((i + 1 : Nat) : Int)) r) : Ev (fun k => impl_smallInputs.l0 k x x (x.length : Int) (i : Int)) (if smB x i = true then r else false) := by
  have hbad : smB x i = false → Ev (fun k => impl_smallInputs.j1 k x (rd_L_75 x i) x (x.length : Int) (i : Int) true) (if smB x i = true then r else false) := fun h => by
    apply evSucc; simp only [impl_smallInputs.j1]
    exact evPos (by first | trivial | rfl) (evEq (evNow _) (by rw [h]; rfl))
  apply evSucc; simp only [impl_smallInputs.l0]
  refine evPos (by omega) (evPos (by omega) (evPos (by omega) (evBind _ (impl_zset_ev _ (hx.at hi)) (evIf (fun h => ?_) (fun h => hbad (by unfold smB; simp at h; rw [h]; rfl))))))
  by_cases hl : (rd_L_75 x i).length ≤ 100
  · rw [show decide (((rd_L_75 x i).length : Int) > 100) = false from decide_eq_false (by omega)]
    apply evSucc; simp only [impl_smallInputs.j1]
    refine evNeg (by simp) ?_
    unfold smB at hr ⊢
    rw [h, Bool.true_and, decide_eq_true hl, Bool.true_and] at hr ⊢
    refine impl_low x i _ (hx.at hi).1 r (fun hlow => ?_)
    apply evSucc; simp only [impl_smallInputs.l1]
    refine evNeg (by omega) ?_
    rw [wrapSucc hi hx.1]
    exact hr hlow
  · rw [show decide (((rd_L_75 x i).length : Int) > 100) = true from decide_eq_true (by omega)]
    exact hbad (by unfold smB; rw [decide_eq_false hl]; simp)
theorem impl_small_ev (x : List (List ET)) (hx : FineS x) : Ev (fun k => impl_smallInputs.f k x) (smallB x) := by
  unfold impl_smallInputs.f
  rw [← if_smallB]
  refine loopAll0 (L := fun k i => impl_smallInputs.l0 k x x (x.length : Int) i) x.length (smB x) _ false ?_ ?_ ?_
  · intro _
    apply evSucc; simp only [impl_smallInputs.l0]
    exact evNeg (by omega) (evNow _)
  · intro i hi ht r hr
    have := impl_sm x hx i hi r (fun _ => hr)
    rwa [if_pos ht] at this
  · intro i hi ht
    have := impl_sm x hx i hi true (fun h => by rw [ht] at h; cases h)
    rwa [if_neg (by rw [ht]; simp)] at this
end Go.Proofs.Ytfcdnfbhoppefaa.QFnExactPolyEval
