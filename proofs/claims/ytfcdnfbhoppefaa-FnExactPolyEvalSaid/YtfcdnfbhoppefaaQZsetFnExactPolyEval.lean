/- Valid rows and valid Z-sets: the program's tests and the reference's are one. -/
import Derived.Test.YtfcdnfbhoppefaaAuxFnExactPolyEval
import Derived.Test.YtfcdnfbhoppefaaQRowFnExactPolyEval
import Derived.Test.YtfcdnfbhoppefaaPFnExactPolyEvalx
namespace Go.Proofs.Ytfcdnfbhoppefaa.QFnExactPolyEval
open Go.RowKit Go.Proofs.Ytfcdnfbhoppefaa.PFnExactPolyEval Go.Proofs.YtfcdnfbhoppefaaW.PrintWords Go.Proofs.YtfcdnfbhoppefaaW.PrintLast Go.Proofs.Ytfcdnfbhoppefaa.Aux

abbrev ET := S75
theorem rdEAt {xs : List ET} {i : Nat} (h : i < xs.length) : rd_T75 xs (i : Int) = xs[i] := by
  show xs.getD i z75 = _
  rw [List.getD_eq_getElem?_getD, List.getElem?_eq_getElem h]; rfl
/-- The lengths of all rows are those of Go's slices. -/
def Fine (z : List ET) : Prop := z.length ≤ maxLen ∧ ∀ t ∈ z, t.f0.length ≤ maxLen
theorem Fine.row {z : List ET} (h : Fine z) {i : Nat} (hi : i < z.length) : (rd_T75 z (i : Int)).f0.length ≤ maxLen := by
  rw [rdEAt hi]; exact h.2 _ (List.getElem_mem hi)

def CellOk (v : List Int) (k : Nat) : Prop := -9999 ≤ v.getD k 0 ∧ v.getD k 0 ≤ 9999
instance (v : List Int) (k : Nat) : Decidable (CellOk v k) := by unfold CellOk; infer_instance
def rowB (v : List Int) : Bool := allFrom (fun k => decide (CellOk v k)) 0 v.length && decide (1 ≤ v.length ∧ v.length ≤ 6)
theorem if_rowB (v : List Int) : (if allFrom (fun k => decide (CellOk v k)) 0 v.length = true then decide (1 ≤ v.length ∧ v.length ≤ 6) else false) = rowB v := by
  unfold rowB; cases allFrom (fun k => decide (CellOk v k)) 0 v.length <;> simp
theorem spec_row_ev (v : List Int) (hv : v.length ≤ maxLen) : Ev (fun k => spec_validRow.f k v) (rowB v) := by
  unfold spec_validRow.f
  rw [← if_rowB]
  refine loopAll0 (L := fun k i => spec_validRow.l0 k v i) v.length (fun k => decide (CellOk v k)) _ false ?_ ?_ ?_
  · intro _
    apply evSucc; simp only [spec_validRow.l0]
    refine evNeg (by omega) ?_
    rw [inRange_eq]
    refine evBind' _ rfl (evEq (evNow _) ?_)
    rw [decide_eq_decide]; omega
  · intro i hi hp r hr
    apply evSucc; simp only [spec_validRow.l0]
    refine evPos (by omega) (evPos (by omega) ?_)
    rw [inRange_eq, rdNat, wrapSucc hi hv]
    exact evBind' _ rfl (evPos hp hr)
  · intro i hi hp
    apply evSucc; simp only [spec_validRow.l0]
    refine evPos (by omega) (evPos (by omega) ?_)
    rw [inRange_eq, rdNat]
    exact evBind' _ rfl (evNeg (by rw [show decide (-9999 ≤ v.getD i 0 ∧ v.getD i 0 ≤ 9999) = false from hp]; simp) (evNow _))
theorem impl_row_ev (v : List Int) (hv : v.length ≤ maxLen) : Ev (fun k => impl_ValidRow.f k v) (rowB v) := by
  unfold impl_ValidRow.f
  rw [← if_rowB]
  refine loopAll0 (L := fun k i => impl_ValidRow.l0 k v v (v.length : Int) i) v.length (fun k => decide (CellOk v k)) _ false ?_ ?_ ?_
  · intro _
    apply evSucc; simp only [impl_ValidRow.l0]
    refine evNeg (by omega) (evIf (fun h => evEq (evNow _) ?_) (fun h => evEq (evNow _) ?_))
    · rw [decide_eq_decide]; omega
    · rw [eq_comm, decide_eq_false_iff_not]; omega
  · intro i hi hp r hr
    have hp := of_decide_eq_true hp
    apply evSucc; simp only [impl_ValidRow.l0]
    refine evPos (by omega) (evPos (by omega) (evPos (by omega) ?_))
    rw [rdNat, wrapSucc hi hv]
    exact evNeg (Int.not_lt.2 hp.1) (evNeg (Int.not_lt.2 hp.2) hr)
  · intro i hi hp
    have hp := of_decide_eq_false hp
    apply evSucc; simp only [impl_ValidRow.l0]
    refine evPos (by omega) (evPos (by omega) (evPos (by omega) ?_))
    rw [rdNat]
    exact evIf (fun _ => evNow _) (fun h1 => evIf (fun _ => evNow _) (fun h2 => absurd ⟨Int.not_lt.1 h1, Int.not_lt.1 h2⟩ hp))

def entB (z : List ET) (i : Nat) : Bool :=
  rowB (rd_T75 z i).f0 && (decide ((rd_T75 z i).f0.length = (rd_T75 z 0).f0.length ∧ (rd_T75 z i).f1 ≠ 0 ∧ -1000000 ≤ (rd_T75 z i).f1 ∧ (rd_T75 z i).f1 ≤ 1000000) &&
    (decide (i = 0) || ltL (rd_T75 z ((i - 1 : Nat) : Int)).f0 (rd_T75 z i).f0))
def zsetB (z : List ET) : Bool := allFrom (entB z) 0 z.length && decide (z.length ≤ 400)
theorem if_zsetB (z : List ET) : (if allFrom (entB z) 0 z.length = true then decide ((z.length : Int) ≤ 400) else false) = zsetB z := by
  unfold zsetB
  rw [show decide ((z.length : Int) ≤ 400) = decide (z.length ≤ 400) from by rw [decide_eq_decide]; omega]
  cases allFrom (entB z) 0 z.length <;> simp
theorem zset_short {z : List ET} (h : zsetB z = true) : z.length ≤ 400 := by
  unfold zsetB at h; rw [Bool.and_eq_true] at h; exact of_decide_eq_true h.2
theorem zset_ent {z : List ET} (h : zsetB z = true) {i : Nat} (hi : i < z.length) : entB z i = true := by
  unfold zsetB at h; rw [Bool.and_eq_true] at h; exact allFrom_iff.1 h.1 i (by omega) hi

theorem spec_ent (z : List ET) (hz : Fine z) (i : Nat) (hi : i < z.length) (r : Bool)
    (hr : entB z i = true → Ev (fun k => spec_validZSet.l0 k z ((i + 1 : Nat) : Int)) r) : Ev (fun k => spec_validZSet.l0 k z (i : Int)) (if entB z i = true then r else false) := by
  apply evSucc; simp only [spec_validZSet.l0]
  refine evPos (by omega) (evPos (by omega) (evBind _ (spec_row_ev _ (hz.row hi)) ?_))
  unfold entB at hr ⊢
  refine evIf (fun h => ?_) (fun h => ?_)
  · rw [h, Bool.true_and] at hr ⊢
    refine evPos (by omega) (evIf (fun hl => evIf (fun h0 => evEq (evNow _) (by simp [h0])) (fun h0 => ?_)) (fun hl => evEq (evNow _) (by simp; omega)))
    rw [inRange_eq]
    refine evBind' _ rfl (evIf (fun hb => ?_) (fun hb => evEq (evNow _) ?_))
    · have hb := of_decide_eq_true hb
      rw [show decide ((rd_T75 z i).f0.length = (rd_T75 z 0).f0.length ∧ (rd_T75 z i).f1 ≠ 0 ∧ -1000000 ≤ (rd_T75 z i).f1 ∧ (rd_T75 z i).f1 ≤ 1000000) = true from decide_eq_true ⟨by omega, h0, hb⟩, Bool.true_and] at hr ⊢
      rw [wrapSucc hi hz.1]
      by_cases hp : 0 < i
      · refine evPos (by omega) ?_
        rw [wrapPred hp hi hz.1]
        rw [decide_eq_false (show ¬ i = 0 by omega), Bool.false_or] at hr ⊢
        refine evPos (by omega) (evPos (by omega) (evBind _ (rowLess_ev _ _ (hz.row (by omega))) ?_))
        exact evIf (fun h => by rw [if_pos h]; exact hr h) (fun h => by rw [if_neg h]; exact evNow _)
      · obtain rfl : i = 0 := by omega
        refine evNeg (by omega) ?_
        simpa using hr (by simp)
    · rw [if_neg]
      intro hh
      rw [Bool.and_eq_true, decide_eq_true_eq] at hh
      exact hb (decide_eq_true hh.1.2.2)
  · exact evEq (evNow _) (by simp [h])
theorem spec_zset_ev (z : List ET) (hz : Fine z) : Ev (fun k => spec_validZSet.f k z) (zsetB z) := by
  unfold spec_validZSet.f
  rw [← if_zsetB]
  refine loopAll0 (L := fun k i => spec_validZSet.l0 k z i) z.length (entB z) _ false ?_ ?_ ?_
  · intro _
    apply evSucc; simp only [spec_validZSet.l0]
    exact evNeg (by omega) (evNow _)
  · intro i hi ht r hr
    have := spec_ent z hz i hi r (fun _ => hr)
    rwa [if_pos ht] at this
  · intro i hi ht
    have := spec_ent z hz i hi true (fun h => by rw [ht] at h; cases h)
    rwa [if_neg (by rw [ht]; simp)] at this
theorem impl_ent (z : List ET) (hz : Fine z) (i : Nat) (hi : i < z.length) (r : Bool)
    (hr : entB z i = true → Ev (fun k => impl_ValidZSet.l0 k z z (z.length : Int) ((i + 1 : Nat) : Int)) r) : Ev (fun k => impl_ValidZSet.l0 k z z (z.length : Int) (i : Int)) (if entB z i = true then r else false) := by
  apply evSucc; simp only [impl_ValidZSet.l0]
  refine evPos (by omega) (evPos (by omega) (evPos (by omega) (evBind _ (impl_row_ev _ (hz.row hi)) ?_)))
  unfold entB at hr ⊢
  refine evIf (fun h => ?_) (fun h => ?_)
  · rw [h, Bool.true_and] at hr ⊢
    refine evPos (by omega) (evIf (fun hl => evIf (fun h0 => evEq (evNow _) (by simp [h0])) (fun h0 => evIf (fun h1 => evEq (evNow _) (by simp; omega)) (fun h1 => evIf (fun h2 => evEq (evNow _) (by simp; omega)) (fun h2 => ?_)))) (fun hl => evEq (evNow _) (by simp; omega)))
    rw [show decide ((rd_T75 z i).f0.length = (rd_T75 z 0).f0.length ∧ (rd_T75 z i).f1 ≠ 0 ∧ -1000000 ≤ (rd_T75 z i).f1 ∧ (rd_T75 z i).f1 ≤ 1000000) = true from decide_eq_true ⟨by omega, h0, by omega, by omega⟩, Bool.true_and] at hr ⊢
    rw [wrapSucc hi hz.1]
    by_cases hp : 0 < i
    · refine evPos (by omega) ?_
      rw [wrapPred hp hi hz.1]
      rw [decide_eq_false (show ¬ i = 0 by omega), Bool.false_or] at hr ⊢
      refine evPos (by omega) (evPos (by omega) (evBind _ (RowLess_ev _ _ (hz.row (by omega))) ?_))
      exact evIf (fun h => by rw [if_pos h]; exact hr h) (fun h => by rw [if_neg h]; exact evNow _)
    · obtain rfl : i = 0 := by omega
      refine evNeg (by omega) ?_
      simpa using hr (by simp)
  · exact evEq (evNow _) (by simp [h])
theorem impl_zset_ev (z : List ET) (hz : Fine z) : Ev (fun k => impl_ValidZSet.f k z) (zsetB z) := by
  unfold impl_ValidZSet.f
  rw [← if_zsetB]
  refine loopAll0 (L := fun k i => impl_ValidZSet.l0 k z z (z.length : Int) i) z.length (entB z) _ false ?_ ?_ ?_
  · intro _
    apply evSucc; simp only [impl_ValidZSet.l0]
    exact evNeg (by omega) (evNow _)
  · intro i hi ht r hr
    have := impl_ent z hz i hi r (fun _ => hr)
    rwa [if_pos ht] at this
  · intro i hi ht
    have := impl_ent z hz i hi true (fun h => by rw [ht] at h; cases h)
    rwa [if_neg (by rw [ht]; simp)] at this
end Go.Proofs.Ytfcdnfbhoppefaa.QFnExactPolyEval
