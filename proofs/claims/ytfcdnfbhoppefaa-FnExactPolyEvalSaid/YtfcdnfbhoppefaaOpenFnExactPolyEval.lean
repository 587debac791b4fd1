/- What comes in, opened kind by kind: a datum that is read as a slice of structs of slices is told as a list. Plain lemmas over any program. -/
import Derived.Test.YtfcdnfbhoppefaaVFnExactPolyEval
import Derived.Deep.Slices
import Derived.ChangeSame
import Derived.ChangeOld
import Derived.DataReads
namespace Go.Proofs.Ytfcdnfbhoppefaa.Open
open Go.RowKit Go.ChangeShapes Go.WideShapes Go.Deep Go.Proofs.YtfcdnfbhoppefaaW.PrintWords

section
variable {H : Type} {enc : TypeId × Value → H} {P : Program} {w : World} {base : Nat} {spare : Nat → Bool} {held : Bool}

/-- Whatever is read at type t is told by the kind d, and 'good' holds of it. -/
def Opens {α : Type} (enc : TypeId × Value → H) (P : Program) (w : World) (base : Nat) (spare : Nat → Bool) (held : Bool) (t : TypeId) (d : Kd α) (good : α → Prop) : Prop :=
  ∀ (fuel : Nat) (cs : List Value) (x : DataW H × List MemPlace), DataW.trod enc P w base spare held fuel t cs = some x → ∃ a, d.K w a cs ∧ good a

def Fits (k : IntKind) (n : Int) : Prop := (Lit.int k n).wf = true
theorem opens_int {t : TypeId} {k : IntKind} (ht : P.underlying t = some (.int k)) : Opens enc P w base spare held t (Kd.int k) (Fits k) := by
  intro fuel cs x h
  obtain ⟨n, rfl, _, hw⟩ := DataW.trod_int ht h
  exact ⟨n, rfl, hw⟩
theorem opens_bool {t : TypeId} (ht : P.underlying t = some .bool) : Opens enc P w base spare held t Kd.bool (fun _ => True) := by
  intro fuel cs x h
  obtain ⟨n, rfl, _⟩ := DataW.trod_bool ht h
  exact ⟨n, rfl, trivial⟩

theorem list_choose {α : Type} {p : Nat → α → Prop} : ∀ n : Nat, (∀ i, i < n → ∃ a, p i a) → ∃ l : List α, l.length = n ∧ ∀ i a, l[i]? = some a → p i a
  | 0, _ => ⟨[], rfl, fun i a h => by simp at h⟩
  | n + 1, h => by
    obtain ⟨l, hl, hp⟩ := list_choose n (fun i hi => h i (by omega))
    obtain ⟨a, ha⟩ := h n (by omega)
    refine ⟨l ++ [a], by simp [hl], fun i b hb => ?_⟩
    by_cases hi : i < n
    · rw [List.getElem?_append_left (by omega)] at hb; exact hp i b hb
    · rw [List.getElem?_append_right (by omega)] at hb
      by_cases e : i = n
      · subst e; rw [hl, Nat.sub_self] at hb; simp at hb; exact hb ▸ ha
      · rw [List.getElem?_eq_none (by simp; omega)] at hb; cases hb

/-- A slice, its elements of the kind d. -/
def GoodL {α : Type} (good : α → Prop) (l : List α) : Prop := l.length ≤ maxLen ∧ ∀ a, a ∈ l → good a
theorem opens_slice {α : Type} {t e : TypeId} {d : Kd α} {good : α → Prop} (ht : P.underlying t = some (.slice e)) (hC : P.cellsOf e = d.sz) (he : Opens enc P w base spare held e d good) :
    Opens enc P w base spare held t (Kd.slice e d) (GoodL good) := by
  intro fuel cs x h
  rcases open_slice ht h with ⟨rfl, _⟩ | ⟨a, len, cap, m, n, D, Pl, rfl, hb, hl, hm, hmm, hx, hi⟩
  · refine ⟨[], ⟨none, 0, rfl, Nat.le_refl _, rfl, by simp, fun h => absurd h (by simp)⟩, by simp, fun a ha => by cases ha⟩
  · have hlm : len ≤ m := by rw [hmm]; split <;> omega
    obtain ⟨l, hll, hp⟩ := list_choose (p := fun i x => ∃ c, c.length = d.sz ∧ d.K w x c ∧ (∀ j u, c[j]? = some u → w.cell? (a.add (i * d.sz + j)) = some u) ∧ good x) len (fun i h => by
      obtain ⟨cs', hc, ht'⟩ := hi i (by omega)
      obtain ⟨y, hy, hg⟩ := he _ _ _ ht'
      obtain ⟨_, hcl, hat⟩ := World.cells?_some hc
      rw [hC] at hcl hat
      refine ⟨y, cs', hcl, hy, fun j u hj => ?_, hg⟩
      have hj' : j < d.sz := by rw [← hcl]; exact (List.getElem?_eq_some_iff.1 hj).1
      have hxx := hat j hj'
      rw [← Go.Deep.add_add, hxx, hj])
    refine ⟨l, ⟨some a, cap, by rw [hll], by omega, ⟨rfl, by rw [hll]; unfold maxLen at hm; omega, fun _ => ⟨a, rfl, fun j p hj => ?_⟩⟩⟩, by rw [hll]; omega, fun y hy => ?_⟩
    · obtain ⟨c, h1, h2, h3, _⟩ := hp j p hj
      exact ⟨c, h1, h2, h3⟩
    · obtain ⟨j, hj, rfl⟩ := List.getElem_of_mem hy
      obtain ⟨c, _, _, _, h4⟩ := hp j _ (List.getElem?_eq_getElem hj)
      exact h4

theorem opens_struct1 {α β : Type} {t : TypeId} {f0 : Field} {d0 : Kd α} {g0 : α → Prop} (ht : P.underlying t = some (.struct #[f0])) (f : β → α) (mk : α → β) (hf : ∀ a, f (mk a) = a)
    (hc : P.cellsOf t = d0.sz ∧ f0.offset = 0 ∧ P.cellsOf f0.type = d0.sz) (h0 : Opens enc P w base spare held f0.type d0 g0) :
    Opens enc P w base spare held t (Kd.iso d0 f) (fun x => g0 (f x)) := by
  intro fuel cs x h
  obtain ⟨xs, n, _, _, hl, hlen, hg⟩ := DataW.trod_struct ht h
  obtain ⟨h1, h2, h3⟩ := hc
  have q0 := hg 0 f0 rfl
  rw [h2, h3, List.drop_zero, List.take_of_length_le (by omega), List.getElem?_eq_getElem (by simp [hlen])] at q0
  obtain ⟨a, ha, hga⟩ := h0 _ _ _ q0
  exact ⟨mk a, by show d0.K w (f (mk a)) cs; rw [hf]; exact ha, by simp only [hf]; exact hga⟩
theorem opens_struct2 {α β γ : Type} {t : TypeId} {f0 f1 : Field} {d0 : Kd α} {d1 : Kd β} {g0 : α → Prop} {g1 : β → Prop} (ht : P.underlying t = some (.struct #[f0, f1])) (f : γ → α × β) (mk : α → β → γ) (hf : ∀ a b, f (mk a b) = (a, b))
    (hc : P.cellsOf t = d0.sz + d1.sz ∧ f0.offset = 0 ∧ f1.offset = d0.sz ∧ P.cellsOf f0.type = d0.sz ∧ P.cellsOf f1.type = d1.sz)
    (h0 : Opens enc P w base spare held f0.type d0 g0) (h1 : Opens enc P w base spare held f1.type d1 g1) :
    Opens enc P w base spare held t (Kd.iso (Kd.pair d0 d1) f) (fun x => g0 (f x).1 ∧ g1 (f x).2) := by
  intro fuel cs x h
  obtain ⟨xs, n, _, _, hl, hlen, hg⟩ := DataW.trod_struct ht h
  obtain ⟨e0, e1, e2, e3, e4⟩ := hc
  have q0 := hg 0 f0 rfl
  have q1 := hg 1 f1 rfl
  rw [e1, e3, List.drop_zero, List.getElem?_eq_getElem (by simp [hlen])] at q0
  rw [e2, e4, List.take_of_length_le (by rw [List.length_drop]; omega), List.getElem?_eq_getElem (by simp [hlen])] at q1
  obtain ⟨a, ha, hga⟩ := h0 _ _ _ q0
  obtain ⟨b, hb, hgb⟩ := h1 _ _ _ q1
  refine ⟨mk a b, ?_, by simp only [hf]; exact ⟨hga, hgb⟩⟩
  show (Kd.pair d0 d1).K w (f (mk a b)) cs
  rw [hf]
  exact ⟨_, _, (List.take_append_drop d0.sz cs).symm, ha, hb⟩
theorem opens_struct3 {α β γ δ : Type} {t : TypeId} {f0 f1 f2 : Field} {d0 : Kd α} {d1 : Kd β} {d2 : Kd γ} {g0 : α → Prop} {g1 : β → Prop} {g2 : γ → Prop} (ht : P.underlying t = some (.struct #[f0, f1, f2])) (f : δ → α × β × γ) (mk : α → β → γ → δ) (hf : ∀ a b c, f (mk a b c) = (a, b, c))
    (hc : P.cellsOf t = d0.sz + (d1.sz + d2.sz) ∧ f0.offset = 0 ∧ f1.offset = d0.sz ∧ f2.offset = d0.sz + d1.sz ∧ P.cellsOf f0.type = d0.sz ∧ P.cellsOf f1.type = d1.sz ∧ P.cellsOf f2.type = d2.sz)
    (h0 : Opens enc P w base spare held f0.type d0 g0) (h1 : Opens enc P w base spare held f1.type d1 g1) (h2 : Opens enc P w base spare held f2.type d2 g2) :
    Opens enc P w base spare held t (Kd.iso (Kd.pair d0 (Kd.pair d1 d2)) f) (fun x => g0 (f x).1 ∧ g1 (f x).2.1 ∧ g2 (f x).2.2) := by
  intro fuel cs x h
  obtain ⟨xs, n, _, _, hl, hlen, hg⟩ := DataW.trod_struct ht h
  obtain ⟨e0, e1, e2, e3, e4, e5, e6⟩ := hc
  have q0 := hg 0 f0 rfl
  have q1 := hg 1 f1 rfl
  have q2 := hg 2 f2 rfl
  rw [e1, e4, List.drop_zero, List.getElem?_eq_getElem (by simp [hlen])] at q0
  rw [e2, e5, List.getElem?_eq_getElem (by simp [hlen])] at q1
  rw [e3, e6, List.take_of_length_le (by rw [List.length_drop]; omega), List.getElem?_eq_getElem (by simp [hlen])] at q2
  obtain ⟨a, ha, hga⟩ := h0 _ _ _ q0
  obtain ⟨b, hb, hgb⟩ := h1 _ _ _ q1
  obtain ⟨c, hcc, hgc⟩ := h2 _ _ _ q2
  refine ⟨mk a b c, ?_, by simp only [hf]; exact ⟨hga, hgb, hgc⟩⟩
  show (Kd.pair d0 (Kd.pair d1 d2)).K w (f (mk a b c)) cs
  rw [hf]
  refine ⟨_, _, (List.take_append_drop d0.sz cs).symm, ha, _, _, (List.take_append_drop d1.sz (cs.drop d0.sz)).symm, hb, ?_⟩
  rw [List.drop_drop]
  exact hcc

/-- An argument that is a slice. -/
theorem open_arg {α : Type} {t e : TypeId} {d : Kd α} {good : α → Prop} {a : Option Addr} {len cap : Nat} {D : DataW H} {ps : List MemPlace}
    (ho : Opens enc P w base spare held t (Kd.slice e d) (GoodL good)) (h : DataW.Trod enc P w base spare held t (.slice a len cap) D ps) :
    ∃ l : List α, l.length = len ∧ len ≤ cap ∧ Kd.C d w a len l ∧ l.length ≤ maxLen ∧ ∀ x, x ∈ l → good x := by
  obtain ⟨fuel, hf⟩ := h
  obtain ⟨l, ⟨A, c, hcs, hl, hC⟩, hm, hg⟩ := ho _ _ _ hf
  simp [Value.cells] at hcs
  obtain ⟨rfl, rfl, rfl⟩ := hcs
  exact ⟨l, rfl, hl, hC, hm, hg⟩
end
end Go.Proofs.Ytfcdnfbhoppefaa.Open
