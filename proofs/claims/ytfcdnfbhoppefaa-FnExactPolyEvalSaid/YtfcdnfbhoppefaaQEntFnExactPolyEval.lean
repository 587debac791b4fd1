/- Entries and lists of them: copies, equality, size. -/
import Derived.Test.YtfcdnfbhoppefaaAuxFnExactPolyEval
import Derived.Test.YtfcdnfbhoppefaaQIntsFnExactPolyEval
import Derived.Test.YtfcdnfbhoppefaaPFnExactPolyEvalx
namespace Go.Proofs.Ytfcdnfbhoppefaa.QFnExactPolyEval
open Go.RowKit Go.Proofs.Ytfcdnfbhoppefaa.PFnExactPolyEval Go.Proofs.YtfcdnfbhoppefaaW.PrintWords Go.Proofs.YtfcdnfbhoppefaaW.PrintLast Go.Proofs.Ytfcdnfbhoppefaa.Aux

abbrev LE := S93
theorem rdLEAt {xs : List LE} {i : Nat} (h : i < xs.length) : rd_T93 xs (i : Int) = xs[i] := by
  show xs.getD i z93 = _
  rw [List.getD_eq_getElem?_getD, List.getElem?_eq_getElem h]; rfl
theorem rdIEAt {xs : List S75} {i : Nat} (h : i < xs.length) : rd_T75 xs (i : Int) = xs[i] := by
  show xs.getD i z75 = _
  rw [List.getD_eq_getElem?_getD, List.getElem?_eq_getElem h]; rfl
def convE (t : LE) : S75 := ⟨t.f0, t.f1⟩
def ShortE (x : List LE) : Prop := x.length ≤ 1048576 ∧ ∀ t ∈ x, t.f0.length ≤ 1048576
theorem toEntryS_ev (x : List LE) (h : ShortE x) : Ev (fun k => laws_toEntryS.f k x) (x.map convE) := by
  obtain ⟨hx, hv⟩ := h
  unfold laws_toEntryS.f
  refine evPos (by omega) (evPos (by omega) ?_)
  suffices H : ∀ d i : Nat, i + d = x.length → ∀ ys : List S75, ys = (List.range i).map (fun j => convE (x.getD j z93)) ++ List.replicate (x.length - i) z75 → Ev (fun k => laws_toEntryS.l0 k x ys (i : Int)) (x.map convE) from
    H x.length 0 (by omega) _ (by simp)
  intro d
  induction d with
  | zero =>
    intro i hi ys hys
    apply evSucc; simp only [laws_toEntryS.l0]
    refine evNeg (by omega) (evEq (evNow _) ?_)
    obtain rfl : i = x.length := by omega
    rw [hys, rangeMap']; simp
  | succ d ih =>
    intro i hi ys hys
    have hlt : i < x.length := by omega
    have hl : ys.length = x.length := by rw [hys]; simp; omega
    apply evSucc; simp only [laws_toEntryS.l0]
    refine evPos (by omega) (evPos (by omega) ?_)
    refine evBind ((rd_T93 x (i : Int)).f0, (rd_T93 x (i : Int)).f1) ?_ (evPos (by omega) ?_)
    · unfold laws_toEntry.f
      refine evBind _ (toIntS_ev _ ?_) (evNow _)
      rw [rdLEAt hlt]; exact hv _ (List.getElem_mem hlt)
    · rw [wrapSucc hlt (by unfold maxLen; omega)]
      exact ih (i + 1) (by omega) _ (setNext ys (fun j => convE (x.getD j z93)) z75 i x.length hlt hys)
theorem eqEntryS_refl (x : List S75) (hx : x.length ≤ maxLen) (hv : ∀ t ∈ x, t.f0.length ≤ maxLen) : Ev (fun k => laws_eqEntryS.f k x x) true := by
  unfold laws_eqEntryS.f
  refine evPos rfl ?_
  refine evEq (loopAll0 (L := fun k i => laws_eqEntryS.l0 k x x i) x.length (fun _ => true) true true ?_ ?_ ?_) (by simp)
  · intro _
    apply evSucc; simp only [laws_eqEntryS.l0]
    exact evNeg (by omega) (evNow _)
  · intro i hi _ r hr
    apply evSucc; simp only [laws_eqEntryS.l0]
    refine evPos (by omega) (evPos (by omega) (evPos (by omega) ?_))
    refine evBind true ?_ (evPos rfl ?_)
    · unfold laws_eqEntry.f
      refine evBind true (eqIntS_refl _ ?_) (evPos rfl (evPos rfl (evNow _)))
      rw [rdIEAt hi]; exact hv _ (List.getElem_mem hi)
    · rw [wrapSucc hi hx]; exact hr
  · intro i hi h; cases h
theorem szEntryS_ev (x : List LE) (hx : x.length ≤ maxLen) (hv : ∀ t ∈ x, t.f0.length ≤ maxLen) (a : Int) (ha0 : 0 ≤ a) (ha1 : a ≤ 1048576) : ∃ r, Ev (fun k => laws_szEntryS.f k x a) r ∧ r ≤ a ∧ (0 ≤ r → ShortE x) := by
  unfold maxLen at hx
  unfold laws_szEntryS.f
  rw [wrapId (by omega) (by omega)]
  by_cases h : a - (x.length : Int) < 0
  · exact ⟨-1, evPos h (evNow _), by omega, by omega⟩
  · suffices H : ∀ d i : Nat, i + d = x.length → ∀ a : Int, 0 ≤ a → a ≤ 1048576 → ∃ r, Ev (fun k => laws_szEntryS.l0 k x a (i : Int)) r ∧ r ≤ a ∧ (0 ≤ r → ∀ j (hj : j < x.length), i ≤ j → x[j].f0.length ≤ 1048576) from by
      obtain ⟨r, h1, h3, h2⟩ := H x.length 0 (by omega) _ (by omega : (0 : Int) ≤ a - (x.length : Int)) (by omega)
      refine ⟨r, evNeg h h1, by omega, fun hr => ⟨by omega, fun t ht => ?_⟩⟩
      obtain ⟨j, hj, rfl⟩ := List.getElem_of_mem ht
      exact h2 hr j hj (by omega)
    intro d
    induction d with
    | zero =>
      intro i hi a h0 h1
      refine ⟨a, ?_, Int.le_refl _, fun _ j hj hij => by omega⟩
      apply evSucc; simp only [laws_szEntryS.l0]
      exact evNeg (by omega) (evNow _)
    | succ d ih =>
      intro i hi a h0 h1
      have hlt : i < x.length := by omega
      have hm := hv _ (List.getElem_mem hlt)
      unfold maxLen at hm
      by_cases hb : a - (x[i].f0.length : Int) < 0
      · refine ⟨-1, ?_, by omega, by omega⟩
        apply evSucc; simp only [laws_szEntryS.l0]
        refine evPos (by omega) (evPos (by omega) ?_)
        rw [rdLEAt hlt]
        refine evBind' (-1) ?_ (evPos (by omega) (evNow _))
        unfold laws_szEntry.f laws_szIntS.f
        rw [wrapId (by omega) (by omega), if_pos hb]; rfl
      · obtain ⟨r, h2, h4, h3⟩ := ih (i + 1) (by omega) (a - (x[i].f0.length : Int)) (by omega) (by omega)
        refine ⟨r, ?_, by omega, fun hr j hj hij => ?_⟩
        · apply evSucc; simp only [laws_szEntryS.l0]
          refine evPos (by omega) (evPos (by omega) ?_)
          rw [rdLEAt hlt]
          refine evBind' (a - (x[i].f0.length : Int)) ?_ (evNeg hb ?_)
          · unfold laws_szEntry.f laws_szIntS.f
            rw [wrapId (by omega) (by omega), if_neg hb, Option.bind_some, if_neg hb]
          · rw [wrapSucc hlt (by unfold maxLen; omega)]; exact h2
        · by_cases e : j = i
          · subst e; omega
          · exact h3 hr j hj (by omega)
end Go.Proofs.Ytfcdnfbhoppefaa.QFnExactPolyEval
