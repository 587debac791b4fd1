/- Steps of a region that draws its order: many quiet operations in one row of text. Plain theorems over the printed words. -/
import Derived.Test.YtfcdnfbhoppefaaVFnExactPolyEval
namespace Go.Proofs.Ytfcdnfbhoppefaa.Run
open Go.RowKit Go.Proofs.YtfcdnfbhoppefaaW.PrintWords Go.Proofs.YtfcdnfbhoppefaaW.PrintLast
section
variable {P : Program} {ops : Array Oper} {Q : Exit → Act → World → Prop} {md : Region.Mode} {S : World → Prop} {ds : List Nat}
/-- The rest of a region; 'sch': the operations that are taken next (it says nothing). -/
def Sched (P : Program) (md : Region.Mode) (ops : Array Oper) (Q : Exit → Act → World → Prop) (S : World → Prop) (ds : List Nat) (_sch : List (Nat × Option Tmp)) (fuel : Nat) (l : Array Bool) (a : Act) (w : World) : Prop := wpAnyLast P md ops Q S ds fuel l a w
theorem sched_ {fuel : Nat} {l : Array Bool} {a : Act} {w : World} (sch : List (Nat × Option Tmp)) (h : Sched P md ops Q S ds sch fuel l a w) : wpAnyLast P md ops Q S ds fuel l a w := h
theorem schedEnd_ {fuel : Nat} {l : Array Bool} {a : Act} {w : World} (h : wpAnyLast P md ops Q S ds fuel l a w) : Sched P md ops Q S ds [] fuel l a w := h
theorem quiet_ {i : Nat} {sch : List (Nat × Option Tmp)} {N : Option Tmp} {oi : Oper} {v : Value} {fuel : Nat} {l : Array Bool} {a : Act} {w : World} (hi : ops[i]? = some oi) (hN : oi.dst = N) (hc : takeB md ops ds l (l.setIfInBounds i true) i = true)
    (hQ : ∀ c a w, Q (.panic c) (a.put oi.dst v) w → Q (.panic c) a w) (hy : Region.wanted oi (yielded ops a.tmps) = true ∧ ∀ w', S w' → (execOp a.eval oi).run P w' = .ok (.value v) w') (hS : S w) {a' : Act} (ha : a.put N v = a')
    (h : Sched P md ops Q S ds sch fuel (l.setIfInBounds i true) a' w) : Sched P md ops Q S ds ((i, N) :: sch) (fuel + 1) l a w :=
  take_ (l.setIfInBounds i true) hi hN hc hQ (Or.inl hy) hS ha h
theorem quietOff_ {i : Nat} {sch : List (Nat × Option Tmp)} {N : Option Tmp} {oi : Oper} {fuel : Nat} {l : Array Bool} {a : Act} {w : World} (hi : ops[i]? = some oi) (hN : oi.dst = N) (hc : takeB md ops ds l (l.setIfInBounds i true) i = true)
    (hQ : ∀ c a w, Q (.panic c) (a.put oi.dst undef) w → Q (.panic c) a w) (hy : Region.wanted oi (yielded ops a.tmps) = false ∧ undef = undef) (hS : S w) {a' : Act} (ha : a.put N undef = a')
    (h : Sched P md ops Q S ds sch fuel (l.setIfInBounds i true) a' w) : Sched P md ops Q S ds ((i, N) :: sch) (fuel + 1) l a w :=
  take_ (l.setIfInBounds i true) hi hN hc hQ (Or.inr hy) hS ha h
end
end Go.Proofs.Ytfcdnfbhoppefaa.Run
