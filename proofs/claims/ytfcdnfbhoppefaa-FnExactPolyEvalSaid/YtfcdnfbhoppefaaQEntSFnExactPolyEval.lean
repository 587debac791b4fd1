/- Lists of lists of entries: copies, equality, size. -/
import Derived.Test.YtfcdnfbhoppefaaQEntFnExactPolyEval
namespace Go.Proofs.Ytfcdnfbhoppefaa.QFnExactPolyEval
open Go.RowKit Go.Proofs.Ytfcdnfbhoppefaa.PFnExactPolyEval Go.Proofs.YtfcdnfbhoppefaaW.PrintWords Go.Proofs.YtfcdnfbhoppefaaW.PrintLast Go.Proofs.Ytfcdnfbhoppefaa.Aux

theorem rdLESAt {xs : List (List LE)} {i : Nat} (h : i < xs.length) : rd_L_93 xs (i : Int) = xs[i] := by
  show xs.getD i [] = _
  rw [List.getD_eq_getElem?_getD, List.getElem?_eq_getElem h]; rfl
theorem rdIESAt {xs : List (List S75)} {i : Nat} (h : i < xs.length) : rd_L_75 xs (i : Int) = xs[i] := by
  show xs.getD i [] = _
  rw [List.getD_eq_getElem?_getD, List.getElem?_eq_getElem h]; rfl
def ShortES (x : List (List LE)) : Prop := x.length ≤ 1048576 ∧ ∀ t ∈ x, ShortE t
theorem toEntrySS_ev (x : List (List LE)) (h : ShortES x) : Ev (fun k => laws_toEntrySS.f k x) (x.map (List.map convE)) := by
  obtain ⟨hx, hv⟩ := h
  unfold laws_toEntrySS.f
  refine evPos (by omega) (evPos (by omega) ?_)
  suffices H : ∀ d i : Nat, i + d = x.length → ∀ ys : List (List S75), ys = (List.range i).map (fun j => List.map convE (x.getD j [])) ++ List.replicate (x.length - i) [] → Ev (fun k => laws_toEntrySS.l0 k x ys (i : Int)) (x.map (List.map convE)) from
    H x.length 0 (by omega) _ (by simp)
  intro d
  induction d with
  | zero =>
    intro i hi ys hys
    apply evSucc; simp only [laws_toEntrySS.l0]
    refine evNeg (by omega) (evEq (evNow _) ?_)
    obtain rfl : i = x.length := by omega
    rw [hys, rangeMap']; simp
  | succ d ih =>
    intro i hi ys hys
    have hlt : i < x.length := by omega
    have hl : ys.length = x.length := by rw [hys]; simp; omega
    apply evSucc; simp only [laws_toEntrySS.l0]
    refine evPos (by omega) (evPos (by omega) ?_)
    refine evBind (List.map convE (rd_L_93 x (i : Int))) ?_ (evPos (by omega) ?_)
    · exact toEntryS_ev _ (by rw [rdLESAt hlt]; exact hv _ (List.getElem_mem hlt))
    · rw [wrapSucc hlt (by unfold maxLen; omega)]
      exact ih (i + 1) (by omega) _ (setNext ys (fun j => List.map convE (x.getD j [])) [] i x.length hlt hys)
theorem eqEntrySS_refl (x : List (List S75)) (hx : x.length ≤ maxLen) (hv : ∀ z ∈ x, z.length ≤ maxLen ∧ ∀ t ∈ z, t.f0.length ≤ maxLen) : Ev (fun k => laws_eqEntrySS.f k x x) true := by
  unfold laws_eqEntrySS.f
  refine evPos rfl ?_
  refine evEq (loopAll0 (L := fun k i => laws_eqEntrySS.l0 k x x i) x.length (fun _ => true) true true ?_ ?_ ?_) (by simp)
  · intro _
    apply evSucc; simp only [laws_eqEntrySS.l0]
    exact evNeg (by omega) (evNow _)
  · intro i hi _ r hr
    apply evSucc; simp only [laws_eqEntrySS.l0]
    refine evPos (by omega) (evPos (by omega) (evPos (by omega) ?_))
    have hz := hv _ (List.getElem_mem hi)
    refine evBind true (by rw [rdIESAt hi]; exact eqEntryS_refl _ hz.1 hz.2) (evPos rfl ?_)
    rw [wrapSucc hi hx]; exact hr
  · intro i hi h; cases h
theorem szEntrySS_ev (x : List (List LE)) (hx : x.length ≤ maxLen) (hv : ∀ z ∈ x, z.length ≤ maxLen ∧ ∀ t ∈ z, t.f0.length ≤ maxLen) (a : Int) (ha0 : 0 ≤ a) (ha1 : a ≤ 1048576) : ∃ r, Ev (fun k => laws_szEntrySS.f k x a) r ∧ r ≤ a ∧ (0 ≤ r → ShortES x) := by
  unfold maxLen at hx
  unfold laws_szEntrySS.f
  rw [wrapId (by omega) (by omega)]
  by_cases h : a - (x.length : Int) < 0
  · exact ⟨-1, evPos h (evNow _), by omega, by omega⟩
  · suffices H : ∀ d i : Nat, i + d = x.length → ∀ a : Int, 0 ≤ a → a ≤ 1048576 → ∃ r, Ev (fun k => laws_szEntrySS.l0 k x a (i : Int)) r ∧ r ≤ a ∧ (0 ≤ r → ∀ j (hj : j < x.length), i ≤ j → ShortE x[j]) from by
      obtain ⟨r, h1, h3, h2⟩ := H x.length 0 (by omega) _ (by omega : (0 : Int) ≤ a - (x.length : Int)) (by omega)
      refine ⟨r, evNeg h h1, by omega, fun hr => ⟨by omega, fun t ht => ?_⟩⟩
      obtain ⟨j, hj, rfl⟩ := List.getElem_of_mem ht
      exact h2 hr j hj (by omega)
    intro d
    induction d with
    | zero =>
      intro i hi a h0 h1
      refine ⟨a, ?_, Int.le_refl _, fun _ j hj hij => by omega⟩
      apply evSucc; simp only [laws_szEntrySS.l0]
      exact evNeg (by omega) (evNow _)
    | succ d ih =>
      intro i hi a h0 h1
      have hlt : i < x.length := by omega
      have hm := hv _ (List.getElem_mem hlt)
      obtain ⟨q, e1, e2, e3⟩ := szEntryS_ev x[i] hm.1 hm.2 a h0 h1
      by_cases hb : q < 0
      · refine ⟨-1, ?_, by omega, by omega⟩
        apply evSucc; simp only [laws_szEntrySS.l0]
        refine evPos (by omega) (evPos (by omega) ?_)
        rw [rdLESAt hlt]
        exact evBind q e1 (evPos hb (evNow _))
      · obtain ⟨r, h2, h4, h3⟩ := ih (i + 1) (by omega) q (by omega) (by omega)
        refine ⟨r, ?_, by omega, fun hr j hj hij => ?_⟩
        · apply evSucc; simp only [laws_szEntrySS.l0]
          refine evPos (by omega) (evPos (by omega) ?_)
          rw [rdLESAt hlt]
          refine evBind q e1 (evNeg hb ?_)
          rw [wrapSucc hlt (by unfold maxLen; omega)]; exact h2
        · by_cases e : j = i
          · subst e; exact e3 (by omega)
          · exact h3 hr j hj (by omega)
end Go.Proofs.Ytfcdnfbhoppefaa.QFnExactPolyEval
