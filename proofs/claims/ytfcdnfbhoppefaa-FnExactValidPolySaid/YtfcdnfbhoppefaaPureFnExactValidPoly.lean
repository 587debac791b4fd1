/- The program's ValidPoly and the reference's come to one test, and the copies of the argument are the argument: the law answers true. No condition beyond what the reading of the argument gives: the lengths. -/
import Derived.Test.YtfcdnfbhoppefaaAux
import Derived.Test.YtfcdnfbhoppefaaPFnExactValidPolyx
namespace Go.Proofs.Ytfcdnfbhoppefaa.PureFnExactValidPoly
open Go.RowKit Go.Proofs.Ytfcdnfbhoppefaa.PFnExactValidPoly Go.Proofs.YtfcdnfbhoppefaaW.PrintWords Go.Proofs.YtfcdnfbhoppefaaW.PrintLast Go.Proofs.Ytfcdnfbhoppefaa.Aux

abbrev LT := S57
abbrev IT := S52
theorem rdLAt {xs : List LT} {i : Nat} (h : i < xs.length) : rd_T57 xs (i : Int) = xs[i] := by
  show xs.getD i z57 = _
  rw [List.getD_eq_getElem?_getD, List.getElem?_eq_getElem h]; rfl
theorem rdIAt {xs : List IT} {i : Nat} (h : i < xs.length) : rd_T52 xs (i : Int) = xs[i] := by
  show xs.getD i z52 = _
  rw [List.getD_eq_getElem?_getD, List.getElem?_eq_getElem h]; rfl

theorem inRange_eq (a b c : Int) : spec_inRange.f a b c = some (decide (b ≤ a ∧ a ≤ c)) := by
  unfold spec_inRange.f
  split
  · rename_i h; simp [h]
  · rename_i h
    have : ¬ b ≤ a := by omega
    simp [this]

/-! rows in order -/
theorem rowLess_ev (x y : List Int) (hx : x.length ≤ maxLen) : Ev (fun k => spec_rowLess.f k x y) (ltL x y) := by
  unfold spec_rowLess.f
  suffices H : ∀ d i : Nat, i + d = x.length → Ev (fun k => spec_rowLess.l0 k x y (i : Int)) (ltL (x.drop i) (y.drop i)) from by
    simpa using H x.length 0 (by omega)
  intro d
  induction d with
  | zero =>
    intro i hi
    apply evSucc; simp only [spec_rowLess.l0]
    refine evNeg (by omega) ?_
    apply evSucc; simp only [spec_rowLess.j1]
    refine evNeg (by simp) (evEq (evNow _) ?_)
    rw [dropEnd (by omega : x.length ≤ i)]
    by_cases h : x.length < y.length
    · rw [dropAt (show i < y.length by omega)]; simp [ltL]; omega
    · rw [dropEnd (by omega : y.length ≤ i)]; simp [ltL]; omega
  | succ d ih =>
    intro i hi
    have hlt : i < x.length := by omega
    apply evSucc; simp only [spec_rowLess.l0]
    refine evPos (by omega) ?_
    apply evSucc; simp only [spec_rowLess.j1]
    rw [dropAt hlt]
    by_cases hy : i < y.length
    · refine evPos (by simp; omega) (evPos (by omega) (evPos (by omega) (evPos (by omega) ?_)))
      rw [rdAt hlt, rdAt hy, dropAt hy]
      by_cases he : x[i] = y[i]
      · refine evPos he ?_
        rw [wrapSucc hlt hx]
        refine evEq (ih (i + 1) (by omega)) ?_
        simp [ltL, he]
      · refine evNeg he (evEq (evNow _) ?_)
        simp [ltL, he]
    · refine evNeg (by simp; omega) (evEq (evNow _) ?_)
      rw [dropEnd (by omega : y.length ≤ i)]
      simp [ltL]; omega

/-- Three ways: the program's comparison. -/
def cmpL : List Int → List Int → Int
  | [], [] => 0
  | [], _ :: _ => -1
  | _ :: _, [] => 1
  | a :: x, b :: y => if a = b then cmpL x y else if a < b then -1 else 1
theorem cmpL_lt : ∀ x y, decide (cmpL x y < 0) = ltL x y
  | [], [] => rfl
  | [], _ :: _ => rfl
  | _ :: _, [] => rfl
  | a :: x, b :: y => by
    unfold cmpL ltL
    by_cases h : a = b
    · simp only [h, if_true]; exact cmpL_lt x y
    · by_cases h2 : a < b <;> simp [h, h2]
theorem compare_eq (a b : Int) : cmp_Compare_int.f a b = some (if a = b then 0 else if a < b then -1 else 1) := by
  unfold cmp_Compare_int.f cmp_isNaN_int.f
  simp only [Option.bind_some, bne_self_eq_false, Bool.false_eq_true, if_false]
  by_cases h : a = b
  · subst h; simp
  · by_cases h2 : a < b
    · simp [h, h2]
    · simp [h, h2]; omega
theorem Compare_ev (x y : List Int) (hx : x.length ≤ maxLen) : Ev (fun k => slices_Compare_int_int.f k x y) (cmpL x y) := by
  unfold slices_Compare_int_int.f
  suffices H : ∀ d i : Nat, i + d = x.length → i ≤ y.length → Ev (fun k => slices_Compare_int_int.l0 k x y x (x.length : Int) (i : Int)) (cmpL (x.drop i) (y.drop i)) from by
    simpa using H x.length 0 (by omega) (by omega)
  intro d
  induction d with
  | zero =>
    intro i hi hy
    apply evSucc; simp only [slices_Compare_int_int.l0]
    refine evNeg (by omega) ?_
    rw [dropEnd (by omega : x.length ≤ i)]
    by_cases h : x.length < y.length
    · rw [dropAt (show i < y.length by omega)]; exact evPos (by omega) (evNow _)
    · rw [dropEnd (by omega : y.length ≤ i)]; exact evNeg (by omega) (evNow _)
  | succ d ih =>
    intro i hi hy
    have hlt : i < x.length := by omega
    apply evSucc; simp only [slices_Compare_int_int.l0]
    refine evPos (by omega) (evPos (by omega) (evPos (by omega) ?_))
    rw [dropAt hlt]
    by_cases h : i < y.length
    · refine evNeg (by omega) (evPos (by omega) ?_)
      rw [rdAt hlt, rdAt h, dropAt h, compare_eq]
      refine evBind' _ rfl ?_
      by_cases he : x[i] = y[i]
      · rw [if_pos he]
        refine evPos rfl ?_
        rw [wrapSucc hlt hx]
        refine evEq (ih (i + 1) (by omega) (by omega)) ?_
        simp [cmpL, he]
      · rw [if_neg he]
        refine evNeg (by split <;> decide) (evEq (evNow _) ?_)
        simp [cmpL, he]
    · refine evPos (by omega) (evEq (evNow _) ?_)
      rw [dropEnd (by omega : y.length ≤ i)]; rfl
theorem RowLess_ev (x y : List Int) (hx : x.length ≤ maxLen) : Ev (fun k => impl_RowLess.f k x y) (ltL x y) := by
  unfold impl_RowLess.f
  exact evBind _ (Compare_ev x y hx) (evEq (evNow _) (cmpL_lt x y))

/-! ### copies -/
theorem toIntS_ev (x : List Int) (hx : x.length ≤ 1048576) : Ev (fun k => laws_toIntS.f k x) x := by
  unfold laws_toIntS.f
  refine evPos (by omega) (evPos (by omega) ?_)
  suffices H : ∀ d i : Nat, i + d = x.length → ∀ ys : List Int, ys = (List.range i).map (fun j => x.getD j 0) ++ List.replicate (x.length - i) 0 → Ev (fun k => laws_toIntS.l0 k x ys (i : Int)) x from
    H x.length 0 (by omega) _ (by simp)
  intro d
  induction d with
  | zero =>
    intro i hi ys hys
    apply evSucc; simp only [laws_toIntS.l0]
    refine evNeg (by omega) (evEq (evNow _) ?_)
    obtain rfl : i = x.length := by omega
    rw [hys, rangeMap]; simp
  | succ d ih =>
    intro i hi ys hys
    have hlt : i < x.length := by omega
    have hl : ys.length = x.length := by rw [hys]; simp; omega
    apply evSucc; simp only [laws_toIntS.l0]
    refine evPos (by omega) (evPos (by omega) (evPos (by omega) ?_))
    rw [wrapSucc hlt (by unfold maxLen; omega)]
    exact ih (i + 1) (by omega) _ (setNext ys (fun j => x.getD j 0) 0 i x.length hlt hys)

def conv (t : LT) : IT := ⟨t.f0, t.f1⟩
theorem toTermS_ev (x : List LT) (hx : x.length ≤ 1048576) (hv : ∀ t ∈ x, t.f1.length ≤ 1048576) : Ev (fun k => laws_toTermS.f k x) (x.map conv) := by
  unfold laws_toTermS.f
  refine evPos (by omega) (evPos (by omega) ?_)
  suffices H : ∀ d i : Nat, i + d = x.length → ∀ ys : List IT, ys = (List.range i).map (fun j => conv (x.getD j z57)) ++ List.replicate (x.length - i) z52 → Ev (fun k => laws_toTermS.l0 k x ys (i : Int)) (x.map conv) from
    H x.length 0 (by omega) _ (by simp)
  intro d
  induction d with
  | zero =>
    intro i hi ys hys
    apply evSucc; simp only [laws_toTermS.l0]
    refine evNeg (by omega) (evEq (evNow _) ?_)
    obtain rfl : i = x.length := by omega
    rw [hys, rangeMap']; simp
  | succ d ih =>
    intro i hi ys hys
    have hlt : i < x.length := by omega
    have hl : ys.length = x.length := by rw [hys]; simp; omega
    apply evSucc; simp only [laws_toTermS.l0]
    refine evPos (by omega) (evPos (by omega) ?_)
    refine evBind ((rd_T57 x (i : Int)).f0, (rd_T57 x (i : Int)).f1) ?_ (evPos (by omega) ?_)
    · unfold laws_toTerm.f
      refine evBind _ (toIntS_ev _ ?_) (evNow _)
      rw [rdLAt hlt]; exact hv _ (List.getElem_mem hlt)
    · rw [wrapSucc hlt (by unfold maxLen; omega)]
      exact ih (i + 1) (by omega) _ (setNext ys (fun j => conv (x.getD j z57)) z52 i x.length hlt hys)

/-! ### equality -/
theorem eqIntS_refl (x : List Int) (hx : x.length ≤ maxLen) : Ev (fun k => laws_eqIntS.f k x x) true := by
  unfold laws_eqIntS.f
  refine evPos rfl ?_
  refine evEq (loopAll0 (L := fun k i => laws_eqIntS.l0 k x x i) x.length (fun _ => true) true true ?_ ?_ ?_) (by simp)
  · intro _
    apply evSucc; simp only [laws_eqIntS.l0]
    exact evNeg (by omega) (evNow _)
  · intro i hi _ r hr
    apply evSucc; simp only [laws_eqIntS.l0]
    refine evPos (by omega) (evPos (by omega) (evPos (by omega) (evPos (by first | trivial | rfl) ?_)))
    rw [wrapSucc hi hx]; exact hr
  · intro i hi h; cases h
theorem eqTermS_refl (x : List IT) (hx : x.length ≤ maxLen) (hv : ∀ t ∈ x, t.f1.length ≤ maxLen) : Ev (fun k => laws_eqTermS.f k x x) true := by
  unfold laws_eqTermS.f
  refine evPos rfl ?_
  refine evEq (loopAll0 (L := fun k i => laws_eqTermS.l0 k x x i) x.length (fun _ => true) true true ?_ ?_ ?_) (by simp)
  · intro _
    apply evSucc; simp only [laws_eqTermS.l0]
    exact evNeg (by omega) (evNow _)
  · intro i hi _ r hr
    apply evSucc; simp only [laws_eqTermS.l0]
    refine evPos (by omega) (evPos (by omega) (evPos (by omega) ?_))
    refine evBind true ?_ (evPos rfl ?_)
    · unfold laws_eqTerm.f
      refine evPos rfl (evBind true (eqIntS_refl _ ?_) (evPos rfl (evNow _)))
      rw [rdIAt hi]; exact hv _ (List.getElem_mem hi)
    · rw [wrapSucc hi hx]; exact hr
  · intro i hi h; cases h

/-! ### the size -/
theorem szTermS_ev (x : List LT) (hx : x.length ≤ maxLen) (hv : ∀ t ∈ x, t.f1.length ≤ maxLen) : ∃ r, Ev (fun k => laws_szTermS.f k x 1048576) r ∧ (0 ≤ r → x.length ≤ 1048576 ∧ ∀ t ∈ x, t.f1.length ≤ 1048576) := by
  unfold maxLen at hx
  unfold laws_szTermS.f
  rw [wrapId (by omega) (by omega)]
  by_cases h : (1048576 : Int) - (x.length : Int) < 0
  · exact ⟨-1, evPos h (evNow _), by omega⟩
  · suffices H : ∀ d i : Nat, i + d = x.length → ∀ a : Int, 0 ≤ a → a ≤ 1048576 → ∃ r, Ev (fun k => laws_szTermS.l0 k x a (i : Int)) r ∧ (0 ≤ r → ∀ j (hj : j < x.length), i ≤ j → x[j].f1.length ≤ 1048576) from by
      obtain ⟨r, h1, h2⟩ := H x.length 0 (by omega) _ (by omega : (0 : Int) ≤ 1048576 - (x.length : Int)) (by omega)
      refine ⟨r, evNeg h h1, fun hr => ⟨by omega, fun t ht => ?_⟩⟩
      obtain ⟨j, hj, rfl⟩ := List.getElem_of_mem ht
      exact h2 hr j hj (by omega)
    intro d
    induction d with
    | zero =>
      intro i hi a h0 h1
      refine ⟨a, ?_, fun _ j hj hij => by omega⟩
      apply evSucc; simp only [laws_szTermS.l0]
      exact evNeg (by omega) (evNow _)
    | succ d ih =>
      intro i hi a h0 h1
      have hlt : i < x.length := by omega
      have hm := hv _ (List.getElem_mem hlt)
      unfold maxLen at hm
      by_cases hb : a - (x[i].f1.length : Int) < 0
      · refine ⟨-1, ?_, by omega⟩
        apply evSucc; simp only [laws_szTermS.l0]
        refine evPos (by omega) (evPos (by omega) ?_)
        rw [rdLAt hlt]
        refine evBind' (-1) ?_ (evPos (by omega) (evNow _))
        unfold laws_szTerm.f laws_szIntS.f
        rw [wrapId (by omega) (by omega), if_pos hb]; rfl
      · obtain ⟨r, h2, h3⟩ := ih (i + 1) (by omega) (a - (x[i].f1.length : Int)) (by omega) (by omega)
        refine ⟨r, ?_, fun hr j hj hij => ?_⟩
        · apply evSucc; simp only [laws_szTermS.l0]
          refine evPos (by omega) (evPos (by omega) ?_)
          rw [rdLAt hlt]
          refine evBind' (a - (x[i].f1.length : Int)) ?_ (evNeg hb ?_)
          · unfold laws_szTerm.f laws_szIntS.f
            rw [wrapId (by omega) (by omega), if_neg hb, Option.bind_some, if_neg hb]
          · rw [wrapSucc hlt (by unfold maxLen; omega)]; exact h2
        · by_cases e : j = i
          · subst e; omega
          · exact h3 hr j hj (by omega)

/-! ### the two tests -/
def VarOk (v : List Int) (k : Nat) : Prop := 0 ≤ v.getD k 0 ∧ v.getD k 0 ≤ 299 ∧ (0 < k → v.getD (k - 1) 0 ≤ v.getD k 0)
instance (v : List Int) (k : Nat) : Decidable (VarOk v k) := by unfold VarOk; infer_instance
def varsB (v : List Int) : Bool := allFrom (fun k => decide (VarOk v k)) 0 v.length
def rngB (t : IT) : Bool := decide (t.f1.length ≤ 6 ∧ t.f0 ≠ 0 ∧ -1000000 ≤ t.f0 ∧ t.f0 ≤ 1000000)
def ordB (p : List IT) (i : Nat) : Bool := decide (i = 0) || ltL (rd_T52 p ((i - 1 : Nat) : Int)).f1 (rd_T52 p i).f1
def termB (p : List IT) (i : Nat) : Bool := varsB (rd_T52 p i).f1 && (rngB (rd_T52 p i) && ordB p i)
def polyB (p : List IT) : Bool := allFrom (termB p) 0 p.length && decide (p.length ≤ 400)
theorem if_polyB (p : List IT) : (if allFrom (termB p) 0 p.length = true then decide ((p.length : Int) ≤ 400) else false) = polyB p := by
  unfold polyB
  rw [show decide ((p.length : Int) ≤ 400) = decide (p.length ≤ 400) from by rw [decide_eq_decide]; omega]
  cases allFrom (termB p) 0 p.length <;> simp
theorem ord_zero (p : List IT) : ordB p 0 = true := rfl
theorem ord_pos (p : List IT) {i : Nat} (h : 0 < i) : ordB p i = ltL (rd_T52 p ((i - 1 : Nat) : Int)).f1 (rd_T52 p i).f1 := by
  unfold ordB; rw [decide_eq_false (by omega), Bool.false_or]

/-- The reference's walk over one term's variables. -/
theorem spec_vars (p : List IT) (i : Int) (v : List Int) (hv : v.length ≤ maxLen) (r : Bool)
    (hend : varsB v = true → Ev (fun k => spec_validPoly.l1 k p i v (v.length : Int)) r) : Ev (fun k => spec_validPoly.l1 k p i v 0) (if varsB v = true then r else false) := by
  refine loopAll0 (L := fun k j => spec_validPoly.l1 k p i v j) v.length (fun k => decide (VarOk v k)) r false hend ?_ ?_
  · intro j hj hp r hr
    obtain ⟨h0, h1, h2⟩ := of_decide_eq_true hp
    apply evSucc; simp only [spec_validPoly.l1]
    refine evPos (by omega) (evPos (by omega) ?_)
    rw [inRange_eq, rdNat]
    refine evBind' true (by rw [decide_eq_true ⟨h0, h1⟩]) (evPos rfl ?_)
    by_cases hz : 0 < j
    · refine evPos (by omega) ?_
      rw [wrapPred hz hj hv, wrapSucc hj hv, rdNat]
      exact evPos (by omega) (evPos (by omega) (evNeg (by have := h2 hz; omega) hr))
    · rw [wrapSucc hj hv]
      exact evNeg (by omega) hr
  · intro j hj hp
    have hn := of_decide_eq_false hp
    apply evSucc; simp only [spec_validPoly.l1]
    refine evPos (by omega) (evPos (by omega) ?_)
    rw [inRange_eq, rdNat]
    refine evBind' _ rfl ?_
    by_cases hr : 0 ≤ v.getD j 0 ∧ v.getD j 0 ≤ 299
    · refine evPos (decide_eq_true hr) ?_
      by_cases hz : 0 < j
      · refine evPos (by omega) ?_
        rw [wrapPred hz hj hv, rdNat]
        exact evPos (by omega) (evPos (by omega) (evPos (Int.not_le.1 fun h => hn ⟨hr.1, hr.2, fun _ => h⟩) (evNow _)))
      · exact absurd ⟨hr.1, hr.2, fun h => absurd h hz⟩ hn
    · exact evNeg (by rw [decide_eq_true_eq]; exact hr) (evNow _)
theorem spec_term (p : List IT) (hp : p.length ≤ maxLen) (hv : ∀ t ∈ p, t.f1.length ≤ maxLen) (i : Nat) (hi : i < p.length) (r : Bool)
    (hr : termB p i = true → Ev (fun k => spec_validPoly.l0 k p ((i + 1 : Nat) : Int)) r) : Ev (fun k => spec_validPoly.l0 k p (i : Int)) (if termB p i = true then r else false) := by
  have hvi : ∀ i : Nat, i < p.length → (rd_T52 p i).f1.length ≤ maxLen := fun i hi => by rw [rdIAt hi]; exact hv _ (List.getElem_mem hi)
  apply evSucc; simp only [spec_validPoly.l0]
  refine evPos (by omega) (evPos (by omega) ?_)
  refine evEq (spec_vars p i _ (hvi i hi) (if (rngB (rd_T52 p i) && ordB p i) = true then r else false) ?_) (by unfold termB; cases varsB (rd_T52 p i).f1 <;> simp)
  intro hvs
  unfold termB at hr
  rw [hvs, Bool.true_and] at hr
  apply evSucc; simp only [spec_validPoly.l1]
  refine evNeg (by omega) ?_
  by_cases h6 : (rd_T52 p i).f1.length ≤ 6
  · refine evNeg (by omega) (evPos (by omega) (evPos (by omega) ?_))
    by_cases h0 : (rd_T52 p i).f0 = 0
    · exact evPos h0 (evEq (evNow _) (by simp [rngB, h0]))
    · refine evNeg h0 ?_
      rw [inRange_eq]
      by_cases hr1 : -1000000 ≤ (rd_T52 p i).f0 ∧ (rd_T52 p i).f0 ≤ 1000000
      · have hg : rngB (rd_T52 p i) = true := decide_eq_true ⟨h6, h0, hr1⟩
        rw [hg, Bool.true_and] at hr ⊢
        refine evBind' _ rfl (evPos (decide_eq_true hr1) ?_)
        by_cases hz : 0 < i
        · refine evPos (by omega) ?_
          rw [wrapPred hz hi hp, wrapSucc hi hp]
          refine evPos (by omega) (evPos (by omega) ?_)
          rw [ord_pos p hz] at hr ⊢
          refine evBind (ltL (rd_T52 p ((i - 1 : Nat) : Int)).f1 (rd_T52 p i).f1) ?_ ?_
          · unfold spec_termLess.f
            exact evBind _ (rowLess_ev _ _ (hvi (i - 1) (by omega))) (evNow _)
          · exact evIf (fun h => by rw [if_pos h]; exact hr h) (fun h => by rw [if_neg h]; exact evNow _)
        · obtain rfl : i = 0 := by omega
          rw [ord_zero, if_pos rfl, wrapSucc hi hp]
          exact evNeg (by omega) (hr (ord_zero p))
      · refine evBind' _ rfl (evNeg (by rw [decide_eq_true_eq]; exact hr1) (evEq (evNow _) ?_))
        rw [show rngB (rd_T52 p i) = false from decide_eq_false fun h => hr1 h.2.2]; rfl
  · refine evPos (by omega) (evEq (evNow _) ?_)
    rw [show rngB (rd_T52 p i) = false from decide_eq_false fun h => h6 h.1]; rfl
theorem spec_ev (p : List IT) (hp : p.length ≤ maxLen) (hv : ∀ t ∈ p, t.f1.length ≤ maxLen) : Ev (fun k => spec_ValidPoly.f k p) (polyB p) := by
  unfold spec_ValidPoly.f spec_validPoly.f
  refine evBind (polyB p) ?_ (evNow _)
  rw [← if_polyB]
  refine loopAll0 (L := fun k i => spec_validPoly.l0 k p i) p.length (termB p) _ false ?_ ?_ ?_
  · intro _
    apply evSucc; simp only [spec_validPoly.l0]
    exact evNeg (by omega) (evNow _)
  · intro i hi ht r hr
    have := spec_term p hp hv i hi r (fun _ => hr)
    rwa [if_pos ht] at this
  · intro i hi ht
    have := spec_term p hp hv i hi true (fun h => by rw [ht] at h; cases h)
    rwa [if_neg (by rw [ht]; simp)] at this

theorem impl_vars (p : List IT) (i : Int) (c : Int) (v : List Int) (hv : v.length ≤ maxLen) (r : Bool)
    (hend : varsB v = true → Ev (fun k => impl_ValidPoly.l1 k p p (p.length : Int) i v (v.length : Int) (v.length : Int) c v) r) : Ev (fun k => impl_ValidPoly.l1 k p p (p.length : Int) i v (v.length : Int) 0 c v) (if varsB v = true then r else false) := by
  refine loopAll0 (L := fun k j => impl_ValidPoly.l1 k p p (p.length : Int) i v (v.length : Int) j c v) v.length (fun k => decide (VarOk v k)) r false hend ?_ ?_
  · intro j hj hp r hr
    obtain ⟨h0, h1, h2⟩ := of_decide_eq_true hp
    apply evSucc; simp only [impl_ValidPoly.l1]
    refine evPos (by omega) (evPos (by omega) (evPos (by omega) ?_))
    rw [rdNat]
    refine evNeg (by omega) (evNeg (by omega) ?_)
    by_cases hz : 0 < j
    · refine evPos (by omega) ?_
      rw [wrapPred hz hj hv, wrapSucc hj hv, rdNat]
      exact evPos (by omega) (evPos (by omega) (evNeg (by have := h2 hz; omega) hr))
    · rw [wrapSucc hj hv]
      exact evNeg (by omega) hr
  · intro j hj hp
    have hn := of_decide_eq_false hp
    apply evSucc; simp only [impl_ValidPoly.l1]
    refine evPos (by omega) (evPos (by omega) (evPos (by omega) ?_))
    rw [rdNat]
    refine evIf (fun _ => evNow _) (fun h0 => evIf (fun _ => evNow _) (fun h1 => ?_))
    by_cases hz : 0 < j
    · refine evPos (by omega) ?_
      rw [wrapPred hz hj hv, rdNat]
      exact evPos (by omega) (evPos (by omega) (evPos (Int.not_le.1 fun h => hn ⟨by omega, by omega, fun _ => h⟩) (evNow _)))
    · exact absurd ⟨by omega, by omega, fun h => absurd h hz⟩ hn
theorem impl_term (p : List IT) (hp : p.length ≤ maxLen) (hv : ∀ t ∈ p, t.f1.length ≤ maxLen) (i : Nat) (hi : i < p.length) (r : Bool)
    (hr : termB p i = true → Ev (fun k => impl_ValidPoly.l0 k p p (p.length : Int) ((i + 1 : Nat) : Int)) r) : Ev (fun k => impl_ValidPoly.l0 k p p (p.length : Int) (i : Int)) (if termB p i = true then r else false) := by
  have hvi : ∀ i : Nat, i < p.length → (rd_T52 p i).f1.length ≤ maxLen := fun i hi => by rw [rdIAt hi]; exact hv _ (List.getElem_mem hi)
  have hbad : rngB (rd_T52 p i) = false → ∀ c v, Ev (fun k => impl_ValidPoly.j1 k p p (p.length : Int) (i : Int) true c v) (if termB p i = true then r else false) := fun h c v => by
    apply evSucc; simp only [impl_ValidPoly.j1]
    refine evPos (by first | trivial | rfl) (evEq (evNow _) ?_)
    unfold termB; rw [h]; simp
  have hgood : rngB (rd_T52 p i) = true → Ev (fun k => impl_ValidPoly.j1 k p p (p.length : Int) (i : Int) (!ordB p i) (rd_T52 p i).f0 (rd_T52 p i).f1) (if termB p i = true then r else false) := fun h => by
    apply evSucc; simp only [impl_ValidPoly.j1]
    unfold termB at hr ⊢
    rw [h, Bool.true_and] at hr ⊢
    cases ho : ordB p i with
    | false => exact evPos rfl (evEq (evNow _) (by simp))
    | true =>
      rw [ho, Bool.and_true] at hr
      refine evNeg (by simp) ?_
      rw [Bool.and_true]
      refine impl_vars p i _ _ (hvi i hi) r (fun hvs => ?_)
      apply evSucc; simp only [impl_ValidPoly.l1]
      refine evNeg (by omega) ?_
      rw [wrapSucc hi hp]
      exact hr hvs
  apply evSucc; simp only [impl_ValidPoly.l0]
  refine evPos (by omega) (evPos (by omega) (evPos (by omega) ?_))
  refine evIf (fun h => hbad (decide_eq_false fun q => q.2.1 h) _ _) (fun h0 => evIf (fun h => hbad (decide_eq_false fun q => by omega) _ _) (fun h1 => evIf (fun h => hbad (decide_eq_false fun q => by omega) _ _) (fun h2 => evIf (fun h => hbad (decide_eq_false fun q => by omega) _ _) (fun h3 => ?_))))
  have hg : rngB (rd_T52 p i) = true := decide_eq_true ⟨by omega, h0, by omega, by omega⟩
  by_cases hz : 0 < i
  · refine evPos (by omega) ?_
    rw [wrapPred hz hi hp]
    refine evPos (by omega) (evPos (by omega) (evBind _ (RowLess_ev _ _ (hvi (i - 1) (by omega))) ?_))
    have := hgood hg
    rwa [ord_pos p hz] at this
  · obtain rfl : i = 0 := by omega
    exact evNeg (by omega) (hgood hg)
theorem impl_ev (p : List IT) (hp : p.length ≤ maxLen) (hv : ∀ t ∈ p, t.f1.length ≤ maxLen) : Ev (fun k => impl_ValidPoly.f k p) (polyB p) := by
  unfold impl_ValidPoly.f
  rw [← if_polyB]
  refine loopAll0 (L := fun k i => impl_ValidPoly.l0 k p p (p.length : Int) i) p.length (termB p) _ false ?_ ?_ ?_
  · intro _
    apply evSucc; simp only [impl_ValidPoly.l0]
    exact evNeg (by omega) (evNow _)
  · intro i hi ht r hr
    have := impl_term p hp hv i hi r (fun _ => hr)
    rwa [if_pos ht] at this
  · intro i hi ht
    have := impl_term p hp hv i hi true (fun h => by rw [ht] at h; cases h)
    rwa [if_neg (by rw [ht]; simp)] at this

/-- The law, over lists alone. -/
theorem pure (x : List LT) (hx : x.length ≤ maxLen) (hv : ∀ t ∈ x, t.f1.length ≤ maxLen) : ∃ k, laws_FnExactValidPoly.f k x = some true := by
  apply Ev.rounds
  unfold laws_FnExactValidPoly.f
  obtain ⟨r, h1, h2⟩ := szTermS_ev x hx hv
  refine evBind r h1 (evIf (fun _ => evNow _) fun hr => ?_)
  obtain ⟨hl, hvl⟩ := h2 (by omega)
  have hc := toTermS_ev x hl hvl
  have hm : (x.map conv).length ≤ maxLen := by simp; unfold maxLen; omega
  have hmv : ∀ t ∈ x.map conv, t.f1.length ≤ maxLen := fun t ht => by
    obtain ⟨u, hu, rfl⟩ := List.mem_map.1 ht
    exact hv u hu
  refine evBind _ hc (evBind _ (spec_ev _ hm hmv) (evBind _ hc (evBind _ (impl_ev _ hm hmv) (evNeg (by simp) (evBind _ hc (evBind _ (eqTermS_refl _ hm hmv) (evPos rfl (evNow _))))))))
end Go.Proofs.Ytfcdnfbhoppefaa.PureFnExactValidPoly
