/- Terms: copies, equality, size. -/
import Derived.Test.YtfcdnfbhoppefaaAuxFnExactPolyEval
import Derived.Test.YtfcdnfbhoppefaaQIntsFnExactPolyEval
import Derived.Test.YtfcdnfbhoppefaaPFnExactPolyEvalx
namespace Go.Proofs.Ytfcdnfbhoppefaa.QFnExactPolyEval
open Go.RowKit Go.Proofs.Ytfcdnfbhoppefaa.PFnExactPolyEval Go.Proofs.YtfcdnfbhoppefaaW.PrintWords Go.Proofs.YtfcdnfbhoppefaaW.PrintLast Go.Proofs.Ytfcdnfbhoppefaa.Aux

abbrev LT := S57
abbrev IT := S52
theorem rdLAt {xs : List LT} {i : Nat} (h : i < xs.length) : rd_T57 xs (i : Int) = xs[i] := by
  show xs.getD i z57 = _
  rw [List.getD_eq_getElem?_getD, List.getElem?_eq_getElem h]; rfl
theorem rdIAt {xs : List IT} {i : Nat} (h : i < xs.length) : rd_T52 xs (i : Int) = xs[i] := by
  show xs.getD i z52 = _
  rw [List.getD_eq_getElem?_getD, List.getElem?_eq_getElem h]; rfl

def conv (t : LT) : IT := ⟨t.f0, t.f1⟩
theorem toTermS_ev (x : List LT) (hx : x.length ≤ 1048576) (hv : ∀ t ∈ x, t.f1.length ≤ 1048576) : Ev (fun k => laws_toTermS.f k x) (x.map conv) := by
  unfold laws_toTermS.f
  refine evPos (by omega) (evPos (by omega) ?_)
  suffices H : ∀ d i : Nat, i + d = x.length → ∀ ys : List IT, ys = (List.range i).map (fun j => conv (x.getD j z57)) ++ List.replicate (x.length - i) z52 → Ev (fun k => laws_toTermS.l0 k x ys (i : Int)) (x.map conv) from
    H x.length 0 (by omega) _ (by simp)
  intro d
  induction d with
  | zero =>
    intro i hi ys hys
    apply evSucc; simp only [laws_toTermS.l0]
    refine evNeg (by omega) (evEq (evNow _) ?_)
    obtain rfl : i = x.length := by omega
    rw [hys, rangeMap']; simp
  | succ d ih =>
    intro i hi ys hys
    have hlt : i < x.length := by omega
    have hl : ys.length = x.length := by rw [hys]; simp; omega
    apply evSucc; simp only [laws_toTermS.l0]
    refine evPos (by omega) (evPos (by omega) ?_)
    refine evBind ((rd_T57 x (i : Int)).f0, (rd_T57 x (i : Int)).f1) ?_ (evPos (by omega) ?_)
    · unfold laws_toTerm.f
      refine evBind _ (toIntS_ev _ ?_) (evNow _)
      rw [rdLAt hlt]; exact hv _ (List.getElem_mem hlt)
    · rw [wrapSucc hlt (by unfold maxLen; omega)]
      exact ih (i + 1) (by omega) _ (setNext ys (fun j => conv (x.getD j z57)) z52 i x.length hlt hys)

theorem eqTermS_refl (x : List IT) (hx : x.length ≤ maxLen) (hv : ∀ t ∈ x, t.f1.length ≤ maxLen) : Ev (fun k => laws_eqTermS.f k x x) true := by
  unfold laws_eqTermS.f
  refine evPos rfl ?_
  refine evEq (loopAll0 (L := fun k i => laws_eqTermS.l0 k x x i) x.length (fun _ => true) true true ?_ ?_ ?_) (by simp)
  · intro _
    apply evSucc; simp only [laws_eqTermS.l0]
    exact evNeg (by omega) (evNow _)
  · intro i hi _ r hr
    apply evSucc; simp only [laws_eqTermS.l0]
    refine evPos (by omega) (evPos (by omega) (evPos (by omega) ?_))
    refine evBind true ?_ (evPos rfl ?_)
    · unfold laws_eqTerm.f
      refine evPos rfl (evBind true (eqIntS_refl _ ?_) (evPos rfl (evNow _)))
      rw [rdIAt hi]; exact hv _ (List.getElem_mem hi)
    · rw [wrapSucc hi hx]; exact hr
  · intro i hi h; cases h

/-! ### the size -/
def ShortT (x : List LT) : Prop := x.length ≤ 1048576 ∧ ∀ t ∈ x, t.f1.length ≤ 1048576
theorem szTermS_ev (x : List LT) (hx : x.length ≤ maxLen) (hv : ∀ t ∈ x, t.f1.length ≤ maxLen) (a : Int) (ha0 : 0 ≤ a) (ha1 : a ≤ 1048576) : ∃ r, Ev (fun k => laws_szTermS.f k x a) r ∧ r ≤ a ∧ (0 ≤ r → ShortT x) := by
  unfold maxLen at hx
  unfold laws_szTermS.f
  rw [wrapId (by omega) (by omega)]
  by_cases h : a - (x.length : Int) < 0
  · exact ⟨-1, evPos h (evNow _), by omega, by omega⟩
  · suffices H : ∀ d i : Nat, i + d = x.length → ∀ a : Int, 0 ≤ a → a ≤ 1048576 → ∃ r, Ev (fun k => laws_szTermS.l0 k x a (i : Int)) r ∧ r ≤ a ∧ (0 ≤ r → ∀ j (hj : j < x.length), i ≤ j → x[j].f1.length ≤ 1048576) from by
      obtain ⟨r, h1, h3, h2⟩ := H x.length 0 (by omega) _ (by omega : (0 : Int) ≤ a - (x.length : Int)) (by omega)
      refine ⟨r, evNeg h h1, by omega, fun hr => ⟨by omega, fun t ht => ?_⟩⟩
      obtain ⟨j, hj, rfl⟩ := List.getElem_of_mem ht
      exact h2 hr j hj (by omega)
    intro d
    induction d with
    | zero =>
      intro i hi a h0 h1
      refine ⟨a, ?_, Int.le_refl _, fun _ j hj hij => by omega⟩
      apply evSucc; simp only [laws_szTermS.l0]
      exact evNeg (by omega) (evNow _)
    | succ d ih =>
      intro i hi a h0 h1
      have hlt : i < x.length := by omega
      have hm := hv _ (List.getElem_mem hlt)
      unfold maxLen at hm
      by_cases hb : a - (x[i].f1.length : Int) < 0
      · refine ⟨-1, ?_, by omega, by omega⟩
        apply evSucc; simp only [laws_szTermS.l0]
        refine evPos (by omega) (evPos (by omega) ?_)
        rw [rdLAt hlt]
        refine evBind' (-1) ?_ (evPos (by omega) (evNow _))
        unfold laws_szTerm.f laws_szIntS.f
        rw [wrapId (by omega) (by omega), if_pos hb]; rfl
      · obtain ⟨r, h2, h4, h3⟩ := ih (i + 1) (by omega) (a - (x[i].f1.length : Int)) (by omega) (by omega)
        refine ⟨r, ?_, by omega, fun hr j hj hij => ?_⟩
        · apply evSucc; simp only [laws_szTermS.l0]
          refine evPos (by omega) (evPos (by omega) ?_)
          rw [rdLAt hlt]
          refine evBind' (a - (x[i].f1.length : Int)) ?_ (evNeg hb ?_)
          · unfold laws_szTerm.f laws_szIntS.f
            rw [wrapId (by omega) (by omega), if_neg hb, Option.bind_some, if_neg hb]
          · rw [wrapSucc hlt (by unfold maxLen; omega)]; exact h2
        · by_cases e : j = i
          · subst e; omega
          · exact h3 hr j hj (by omega)
end Go.Proofs.Ytfcdnfbhoppefaa.QFnExactPolyEval
