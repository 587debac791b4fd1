/- Plain lemmas on rounds, indices and lists; no program in sight. -/
import Derived.Test.YtfcdnfbhoppefaaVFnExactPolyEval
namespace Go.Proofs.Ytfcdnfbhoppefaa.Aux
open Go.RowKit Go.Proofs.YtfcdnfbhoppefaaW.PrintWords

theorem evSucc {α : Type} {g : Nat → Option α} {r : α} (h : Ev (fun k => g (k + 1)) r) : Ev g r := by
  obtain ⟨K, h⟩ := h
  refine ⟨K + 1, fun k hk => ?_⟩
  obtain ⟨m, rfl⟩ : ∃ m, k = m + 1 := ⟨k - 1, by omega⟩
  exact h m (by omega)
theorem evNow {α : Type} (r : α) : Ev (fun _ => some r) r := Ev.now r
theorem evBind {α β : Type} {g : Nat → Option α} {f : Nat → α → Option β} (a : α) {r : β} (h : Ev g a) (k : Ev (fun n => f n a) r) : Ev (fun n => (g n).bind (f n)) r := Ev.bind h k
theorem evBind' {α β : Type} {g : Option α} {f : Nat → α → Option β} (a : α) {r : β} (h : g = some a) (k : Ev (fun n => f n a) r) : Ev (fun n => g.bind (f n)) r := by
  subst h; exact k
theorem evPos {α : Type} {c : Prop} [Decidable c] {a b : Nat → Option α} {r : α} (h : c) (k : Ev a r) : Ev (fun n => if c then a n else b n) r := by
  simp only [if_pos h]; exact k
theorem evNeg {α : Type} {c : Prop} [Decidable c] {a b : Nat → Option α} {r : α} (h : ¬ c) (k : Ev b r) : Ev (fun n => if c then a n else b n) r := by
  simp only [if_neg h]; exact k
theorem evIf {α : Type} {c : Prop} [Decidable c] {a b : Nat → Option α} {r : α} (k1 : c → Ev a r) (k2 : ¬ c → Ev b r) : Ev (fun n => if c then a n else b n) r := by
  by_cases h : c
  · exact evPos h (k1 h)
  · exact evNeg h (k2 h)
theorem evEq {α : Type} {g : Nat → Option α} {r r' : α} (h : Ev g r) (e : r = r') : Ev g r' := e ▸ h

theorem wrapId {x : Int} (h0 : -9223372036854775808 ≤ x) (h1 : x ≤ 9223372036854775807) : wrap64 x = x := by
  unfold wrap64; omega
theorem wrapSucc {i n : Nat} (h : i < n) (hn : n ≤ maxLen) : wrap64 ((i : Int) + 1) = ((i + 1 : Nat) : Int) := by
  unfold maxLen at hn; rw [wrapId (by omega) (by omega)]; rfl
theorem wrapPred {i n : Nat} (h0 : 0 < i) (h : i < n) (hn : n ≤ maxLen) : wrap64 ((i : Int) - 1) = ((i - 1 : Nat) : Int) := by
  unfold maxLen at hn; rw [wrapId (by omega) (by omega)]; omega
theorem rdNat (xs : List Int) (i : Nat) : rd xs (i : Int) = xs.getD i 0 := rfl
theorem rdAt {xs : List Int} {i : Nat} (h : i < xs.length) : rd xs (i : Int) = xs[i] := by
  rw [rdNat, List.getD_eq_getElem?_getD, List.getElem?_eq_getElem h]; rfl
theorem dropAt {α : Type} {xs : List α} {i : Nat} (h : i < xs.length) : xs.drop i = xs[i] :: xs.drop (i + 1) := List.drop_eq_getElem_cons h
theorem dropEnd {α : Type} {xs : List α} {i : Nat} (h : xs.length ≤ i) : xs.drop i = [] := List.drop_eq_nil_of_le h

/-- Lexicographic order. -/
def ltL : List Int → List Int → Bool
  | _, [] => false
  | [], _ :: _ => true
  | a :: as, b :: bs => if a = b then ltL as bs else decide (a < b)

/-- From i on, p holds up to n. -/
def allFrom (p : Nat → Bool) (i n : Nat) : Bool := (List.range' i (n - i)).all p
theorem allFrom_end {p : Nat → Bool} {i n : Nat} (h : n ≤ i) : allFrom p i n = true := by
  unfold allFrom; rw [Nat.sub_eq_zero_of_le h]; rfl
theorem allFrom_step {p : Nat → Bool} {i n : Nat} (h : i < n) : allFrom p i n = (p i && allFrom p (i + 1) n) := by
  unfold allFrom
  obtain ⟨d, hd⟩ : ∃ d, n - i = d + 1 := ⟨n - i - 1, by omega⟩
  rw [hd, List.range'_succ, List.all_cons, show n - (i + 1) = d by omega]
theorem allFrom_iff {p : Nat → Bool} {i n : Nat} : allFrom p i n = true ↔ ∀ j, i ≤ j → j < n → p j = true := by
  unfold allFrom
  rw [List.all_eq_true]
  constructor
  · intro h j h0 h1
    exact h j (by rw [List.mem_range']; exact ⟨j - i, by omega, by omega⟩)
  · intro h j hj
    rw [List.mem_range'] at hj
    obtain ⟨a, ha, rfl⟩ := hj
    exact h _ (by omega) (by omega)
theorem allFrom_congr {p q : Nat → Bool} {i n : Nat} (h : ∀ j, i ≤ j → j < n → p j = q j) : allFrom p i n = allFrom q i n := by
  rw [Bool.eq_iff_iff, allFrom_iff, allFrom_iff]
  exact ⟨fun k j h0 h1 => (h j h0 h1) ▸ k j h0 h1, fun k j h0 h1 => (h j h0 h1) ▸ k j h0 h1⟩

/-- A loop that goes on while p holds, and ends with 'bad' where it does not. -/
theorem loopAll {α : Type} {L : Nat → Int → Option α} (n : Nat) (p : Nat → Bool) (r bad : α)
    (hyes : ∀ i : Nat, i < n → p i = true → ∀ r, Ev (fun k => L k ((i + 1 : Nat) : Int)) r → Ev (fun k => L k (i : Int)) r)
    (hno : ∀ i : Nat, i < n → p i = false → Ev (fun k => L k (i : Int)) bad) :
    ∀ d i : Nat, i + d = n → (allFrom p i n = true → Ev (fun k => L k (n : Int)) r) → Ev (fun k => L k (i : Int)) (if allFrom p i n = true then r else bad) := by
  intro d
  induction d with
  | zero =>
    intro i hi hend
    obtain rfl : i = n := by omega
    rw [allFrom_end (Nat.le_refl _)]
    exact hend (allFrom_end (Nat.le_refl _))
  | succ d ih =>
    intro i hi hend
    rw [allFrom_step (by omega)] at hend ⊢
    cases hp : p i with
    | true =>
      rw [Bool.true_and]
      exact hyes i (by omega) hp _ (ih (i + 1) (by omega) (fun h => hend (by rw [hp, h]; rfl)))
    | false =>
      rw [Bool.false_and]
      exact hno i (by omega) hp
theorem loopAll0 {α : Type} {L : Nat → Int → Option α} (n : Nat) (p : Nat → Bool) (r bad : α)
    (hend : allFrom p 0 n = true → Ev (fun k => L k (n : Int)) r)
    (hyes : ∀ i : Nat, i < n → p i = true → ∀ r, Ev (fun k => L k ((i + 1 : Nat) : Int)) r → Ev (fun k => L k (i : Int)) r)
    (hno : ∀ i : Nat, i < n → p i = false → Ev (fun k => L k (i : Int)) bad) :
    Ev (fun k => L k 0) (if allFrom p 0 n = true then r else bad) := loopAll n p r bad hyes hno n 0 (by omega) hend

/-- What copies a list cell by cell. -/
theorem setNext {α : Type} (ys : List α) (f : Nat → α) (z : α) (i n : Nat) (h : i < n) (hl : ys = (List.range i).map f ++ List.replicate (n - i) z) :
    ys.set i (f i) = (List.range (i + 1)).map f ++ List.replicate (n - (i + 1)) z := by
  subst hl
  obtain ⟨d, hd⟩ : ∃ d, n - i = d + 1 := ⟨n - i - 1, by omega⟩
  rw [hd, show n - (i + 1) = d by omega, List.range_succ, List.map_append, List.replicate_succ, List.set_append]
  simp
theorem rangeMap {α : Type} (xs : List α) (z : α) : (List.range xs.length).map (fun i => xs.getD i z) = xs := by
  apply List.ext_getElem (by simp)
  intro i h1 h2
  simp [List.getD_eq_getElem?_getD, List.getElem?_eq_getElem h2]
theorem rangeMap' {α β : Type} (xs : List α) (z : α) (f : α → β) : (List.range xs.length).map (fun i => f (xs.getD i z)) = xs.map f := by
  rw [show (fun i => f (xs.getD i z)) = f ∘ (fun i => xs.getD i z) from rfl, ← List.map_map, rangeMap]
end Go.Proofs.Ytfcdnfbhoppefaa.Aux
