/- The program's PolyEval and the reference's come to one number, and the copies of the arguments are the arguments. -/
import Derived.Test.YtfcdnfbhoppefaaQPEvalFnExactPolyEval
namespace Go.Proofs.Ytfcdnfbhoppefaa.QFnExactPolyEval
open Go.RowKit Go.Proofs.Ytfcdnfbhoppefaa.PFnExactPolyEval Go.Proofs.YtfcdnfbhoppefaaW.PrintWords Go.Proofs.YtfcdnfbhoppefaaW.PrintLast Go.Proofs.Ytfcdnfbhoppefaa.Aux
theorem pure (p : List LT) (x : List (List LE)) (hp : p.length ≤ maxLen) (hpv : ∀ t ∈ p, t.f1.length ≤ maxLen) (hx : x.length ≤ maxLen) (hxv : ∀ z ∈ x, z.length ≤ maxLen ∧ ∀ t ∈ z, t.f0.length ≤ maxLen) : ∃ k, laws_FnExactPolyEval.f k p x = some true := by
  apply Ev.rounds
  unfold laws_FnExactPolyEval.f
  obtain ⟨r, h1, h2, h3⟩ := szTermS_ev p hp hpv 1048576 (by omega) (by omega)
  refine evBind r h1 (evIf (fun _ => evNow _) fun hr => ?_)
  obtain ⟨q, g1, g2, g3⟩ := szEntrySS_ev x hx hxv r (by omega) (by omega)
  refine evBind q g1 (evIf (fun _ => evNow _) fun hq => ?_)
  have hs := h3 (by omega)
  have gs := g3 (by omega)
  have hc := toTermS_ev p hs.1 hs.2
  have gc := toEntrySS_ev x gs
  have hm : (p.map conv).length ≤ maxLen := by simpa using hp
  have hmv : ∀ t ∈ p.map conv, t.f1.length ≤ maxLen := fun t ht => by
    obtain ⟨u, hu, rfl⟩ := List.mem_map.1 ht
    exact hpv u hu
  have gm : FineS (x.map (List.map convE)) := ⟨by simpa using hx, fun z hz => by
    obtain ⟨u, hu, rfl⟩ := List.mem_map.1 hz
    refine ⟨by simpa using (hxv u hu).1, fun t ht => ?_⟩
    obtain ⟨s, hs, rfl⟩ := List.mem_map.1 ht
    exact (hxv u hu).2 s hs⟩
  exact evBind _ hc (evBind _ gc (evBind _ (spec_PolyEval_ev _ _ hm hmv gm) (evBind _ hc (evBind _ gc (evBind _ (impl_PolyEval_ev _ _ hm hmv gm) (evPos rfl (evBind _ hc (evBind _ (eqTermS_refl _ hm hmv) (evPos rfl (evBind _ gc (evBind _ (eqEntrySS_refl _ gm.1 gm.2) (evPos rfl (evNow _)))))))))))))
end Go.Proofs.Ytfcdnfbhoppefaa.QFnExactPolyEval
