/- Evaluation of a polynomial: the program's and the reference's are one number, for all inputs (64-bit arithmetic as it is). -/
import Derived.Test.YtfcdnfbhoppefaaQSmallFnExactPolyEval
import Derived.Test.YtfcdnfbhoppefaaQPolyFnExactPolyEval
namespace Go.Proofs.Ytfcdnfbhoppefaa.QFnExactPolyEval
open Go.RowKit Go.Proofs.Ytfcdnfbhoppefaa.PFnExactPolyEval Go.Proofs.YtfcdnfbhoppefaaW.PrintWords Go.Proofs.YtfcdnfbhoppefaaW.PrintLast Go.Proofs.Ytfcdnfbhoppefaa.Aux

/-- The weight that a variable stands for. -/
def weightV (x : List (List ET)) (v : Int) : Int :=
  if (v / 100 < (x.length : Int)) ∧ (v % 100 < ((rd_L_75 x (v / 100)).length : Int)) then (rd_T75 (rd_L_75 x (v / 100)) (v % 100)).f1 else 0
theorem divs {v : Int} (h0 : 0 ≤ v) (h1 : v ≤ 299) : wrap64 (Int.tdiv v 100) = v / 100 ∧ Int.tmod v 100 = v % 100 ∧ 0 ≤ v / 100 ∧ 0 ≤ v % 100 := by
  rw [Int.tdiv_eq_ediv_of_nonneg h0, Int.tmod_eq_emod_of_nonneg h0, wrapId (by omega) (by omega)]
  exact ⟨rfl, rfl, by omega, by omega⟩
theorem varWeight_eq (x : List (List ET)) {v : Int} (h0 : 0 ≤ v) (h1 : v ≤ 299) : spec_varWeight.f x v = some (weightV x v) := by
  obtain ⟨e1, e2, e3, e4⟩ := divs h0 h1
  unfold spec_varWeight.f weightV
  rw [e1, e2]
  by_cases hi : v / 100 < (x.length : Int)
  · rw [if_neg (by omega), if_pos e3, if_pos hi]
    by_cases hk : v % 100 < ((rd_L_75 x (v / 100)).length : Int)
    · rw [if_neg (by omega), if_pos e4, if_pos hk, if_pos ⟨hi, hk⟩]
    · rw [if_pos (by omega), if_neg fun h => hk h.2]
  · rw [if_pos (by omega), if_neg fun h => hi h.1]

/-- A term's value from variable j on. -/
def termVal (x : List (List ET)) : Int → List Int → Int
  | a, [] => a
  | a, v :: vs => termVal x (wrap64 (a * weightV x v)) vs
theorem wrap0 : wrap64 0 = 0 := wrapId (by decide) (by decide)
theorem termVal_zero (x : List (List ET)) : ∀ vs, termVal x 0 vs = 0
  | [] => rfl
  | v :: vs => by unfold termVal; rw [Int.zero_mul, wrap0]; exact termVal_zero x vs
def polyVal (x : List (List ET)) : Int → List IT → Int
  | a, [] => a
  | a, t :: ts => polyVal x (wrap64 (a + termVal x t.f0 t.f1)) ts

/-- What valid polynomials have: variables in range. -/
def VarsIn (p : List IT) : Prop := ∀ t ∈ p, t.f1.length ≤ 6 ∧ ∀ v ∈ t.f1, 0 ≤ v ∧ v ≤ 299
theorem varsIn_of (p : List IT) (h : polyB p = true) : VarsIn p := by
  intro t ht
  obtain ⟨i, hi, rfl⟩ := List.getElem_of_mem ht
  unfold polyB at h
  rw [Bool.and_eq_true] at h
  have h1 := allFrom_iff.1 h.1 i (by omega) hi
  unfold termB at h1
  rw [rdIAt hi, Bool.and_eq_true, Bool.and_eq_true] at h1
  refine ⟨(of_decide_eq_true h1.2.1).1, fun v hv => ?_⟩
  obtain ⟨j, hj, rfl⟩ := List.getElem_of_mem hv
  have h2 := of_decide_eq_true (allFrom_iff.1 h1.1 j (by omega) hj)
  have e : p[i].f1.getD j 0 = p[i].f1[j] := by rw [List.getD_eq_getElem?_getD, List.getElem?_eq_getElem hj]; rfl
  rw [← e]
  exact ⟨h2.1, h2.2.1⟩
theorem short_of (p : List IT) (h : polyB p = true) : p.length ≤ 400 := by
  unfold polyB at h; rw [Bool.and_eq_true] at h; exact of_decide_eq_true h.2

theorem spec_polyEval_ev (p : List IT) (x : List (List ET)) (hp : p.length ≤ maxLen) (hv : VarsIn p) : Ev (fun k => spec_polyEval.f k p x) (polyVal x 0 p) := by
  unfold spec_polyEval.f
  suffices H : ∀ d i : Nat, i + d = p.length → ∀ a : Int, Ev (fun k => spec_polyEval.l0 k p x a (i : Int)) (polyVal x a (p.drop i)) from by simpa using H p.length 0 (by omega) 0
  intro d
  induction d with
  | zero =>
    intro i hi a
    apply evSucc; simp only [spec_polyEval.l0]
    exact evNeg (by omega) (evEq (evNow _) (by rw [dropEnd (by omega)]; rfl))
  | succ d ih =>
    intro i hi a
    have hlt : i < p.length := by omega
    have hvi := hv _ (List.getElem_mem hlt)
    apply evSucc; simp only [spec_polyEval.l0]
    refine evPos (by omega) (evPos (by omega) ?_)
    rw [rdIAt hlt, dropAt hlt]
    suffices G : ∀ c j : Nat, j + c = p[i].f1.length → ∀ b : Int, Ev (fun k => spec_polyEval.l1 k p x a (i : Int) b (j : Int)) (polyVal x (wrap64 (a + termVal x b (p[i].f1.drop j))) (p.drop (i + 1))) from by
      have := G p[i].f1.length 0 (by omega) p[i].f0
      simpa [polyVal] using this
    intro c
    induction c with
    | zero =>
      intro j hj b
      apply evSucc; simp only [spec_polyEval.l1]
      refine evPos (by omega) (evPos (by omega) (evNeg (by rw [rdIAt hlt]; omega) ?_))
      rw [dropEnd (by omega : p[i].f1.length ≤ j), wrapSucc hlt hp]
      exact ih (i + 1) (by omega) _
    | succ c ihc =>
      intro j hj b
      have hj' : j < p[i].f1.length := by omega
      have hw := hvi.2 _ (List.getElem_mem hj')
      apply evSucc; simp only [spec_polyEval.l1]
      refine evPos (by omega) (evPos (by omega) (evPos (by rw [rdIAt hlt]; omega) (evPos (by omega) ?_)))
      rw [rdIAt hlt, rdAt hj', varWeight_eq x hw.1 hw.2]
      refine evBind' _ rfl ?_
      rw [wrapSucc hj' (by unfold maxLen; omega), dropAt hj']
      exact evEq (ihc (j + 1) (by omega) _) rfl
theorem spec_PolyEval_ev (p : List IT) (x : List (List ET)) (hp : p.length ≤ maxLen) (hv : ∀ t ∈ p, t.f1.length ≤ maxLen) (hx : FineS x) :
    Ev (fun k => spec_PolyEval.f k p x) (if polyB p = true then if smallB x = true then polyVal x 0 p else 0 else 0) := by
  unfold spec_PolyEval.f
  refine evBind (polyB p) (spec_ev p hp hv) (evIf (fun h => ?_) (fun h => evEq (evNow _) (by rw [if_neg h])))
  · rw [if_pos h]
    refine evBind _ (spec_small_ev x hx) (evIf (fun h2 => ?_) (fun h2 => evEq (evNow _) (by rw [if_neg h2])))
    rw [if_pos h2]
    exact evBind _ (spec_polyEval_ev p x hp (varsIn_of p h)) (evNow _)

theorem impl_PolyEval_loop (p : List IT) (x : List (List ET)) (hp : p.length ≤ maxLen) (hv : VarsIn p) : Ev (fun k => impl_PolyEval.l0 k x 0 p (p.length : Int) 0) (polyVal x 0 p) := by
  suffices H : ∀ d i : Nat, i + d = p.length → ∀ a : Int, Ev (fun k => impl_PolyEval.l0 k x a p (p.length : Int) (i : Int)) (polyVal x a (p.drop i)) from by simpa using H p.length 0 (by omega) 0
  intro d
  induction d with
  | zero =>
    intro i hi a
    apply evSucc; simp only [impl_PolyEval.l0]
    exact evNeg (by omega) (evEq (evNow _) (by rw [dropEnd (by omega)]; rfl))
  | succ d ih =>
    intro i hi a
    have hlt : i < p.length := by omega
    have hvi := hv _ (List.getElem_mem hlt)
    apply evSucc; simp only [impl_PolyEval.l0]
    refine evPos (by omega) (evPos (by omega) (evPos (by omega) ?_))
    rw [rdIAt hlt, dropAt hlt]
    suffices G : ∀ c j : Nat, j + c = p[i].f1.length → ∀ b : Int, Ev (fun k => impl_PolyEval.l1 k x a b p (p.length : Int) (i : Int) p[i].f1 (p[i].f1.length : Int) (j : Int)) (polyVal x (wrap64 (a + termVal x b (p[i].f1.drop j))) (p.drop (i + 1))) from by
      have := G p[i].f1.length 0 (by omega) p[i].f0
      simpa [polyVal] using this
    intro c
    induction c with
    | zero =>
      intro j hj b
      apply evSucc; simp only [impl_PolyEval.l1]
      refine evNeg (by omega) ?_
      rw [dropEnd (by omega : p[i].f1.length ≤ j), wrapSucc hlt hp]
      exact ih (i + 1) (by omega) _
    | succ c ihc =>
      intro j hj b
      have hj' : j < p[i].f1.length := by omega
      have hw := hvi.2 _ (List.getElem_mem hj')
      obtain ⟨e1, e2, e3, e4⟩ := divs hw.1 hw.2
      apply evSucc; simp only [impl_PolyEval.l1]
      refine evPos (by omega) (evPos (by omega) (evPos (by omega) ?_))
      rw [rdAt hj', e1, e2, dropAt hj', wrapSucc hlt hp]
      have hzero : weightV x p[i].f1[j] = 0 → polyVal x (wrap64 (a + 0)) (p.drop (i + 1)) = polyVal x (wrap64 (a + termVal x b (p[i].f1[j] :: p[i].f1.drop (j + 1)))) (p.drop (i + 1)) := fun h => by
        unfold termVal; rw [h, Int.mul_zero, wrap0, termVal_zero]
      refine evIf (fun hi => ?_) (fun hi => evPos e3 (evPos (by omega) (evIf (fun hk => ?_) (fun hk => evPos e4 (evPos (by omega) ?_)))))
      · exact evEq (ih (i + 1) (by omega) _) (hzero (by unfold weightV; rw [if_neg fun h => by omega]))
      · exact evEq (ih (i + 1) (by omega) _) (hzero (by unfold weightV; rw [if_neg fun h => by omega]))
      · rw [wrapSucc hj' (by unfold maxLen; omega)]
        refine evEq (ihc (j + 1) (by omega) _) ?_
        conv => rhs; unfold termVal
        unfold weightV
        rw [if_pos ⟨by omega, by omega⟩]
theorem impl_PolyEval_ev (p : List IT) (x : List (List ET)) (hp : p.length ≤ maxLen) (hv : ∀ t ∈ p, t.f1.length ≤ maxLen) (hx : FineS x) :
    Ev (fun k => impl_PolyEval.f k p x) (if polyB p = true then if smallB x = true then polyVal x 0 p else 0 else 0) := by
  unfold impl_PolyEval.f
  refine evBind _ (impl_ev p hp hv) (evIf (fun h => ?_) (fun h => ?_))
  · rw [if_pos h]
    refine evBind _ (impl_small_ev x hx) ?_
    apply evSucc; simp only [impl_PolyEval.j0]
    refine evIf (fun h2 => evEq (evNow _) (by simp at h2; simp [h2])) (fun h2 => ?_)
    rw [if_pos (by simpa using h2)]
    exact impl_PolyEval_loop p x hp (varsIn_of p h)
  · rw [if_neg h]
    apply evSucc; simp only [impl_PolyEval.j0]
    exact evPos (by first | trivial | rfl) (evNow _)
end Go.Proofs.Ytfcdnfbhoppefaa.QFnExactPolyEval
