/- What comes in, as values of the machine: trees over memory that is only read. -/
import Derived.Test.YtfcdnfbhoppefaaMN
import Derived.Deep.Slices
import Derived.ChangeSame
import Derived.ChangeOld
import Derived.DataReads
namespace Go.AM
set_option linter.unusedVariables false
set_option linter.unusedSimpArgs false
open Go.RowKit Go.ChangeShapes Go.WideShapes Go.Deep
section
variable {H : Type} {enc : TypeId × Value → H} {P : Program} {w : World} {base : Nat} {spare : Nat → Bool} {held : Bool} {σ : Nat → FuncId} {ρ : Mp}
/-- Whatever is read at type t is told by the cells 'e a', and 'good' holds of a. -/
def Opens {α : Type} (σ : Nat → FuncId) (ρ : Mp) (enc : TypeId × Value → H) (P : Program) (w : World) (base : Nat) (spare : Nat → Bool) (held : Bool) (t : TypeId) (e : α → List AV) (good : α → Prop) : Prop :=
  ∀ (fuel : Nat) (cs : List Value) (x : DataW H × List MemPlace), DataW.trod enc P w base spare held fuel t cs = some x → ∃ a, VL σ w ρ (e a) cs ∧ good a
def Fits (k : IntKind) (n : Int) : Prop := (Lit.int k n).wf = true
theorem VL_one {a : AV} {v : Value} (h : VR σ w ρ a v) (h1 : v.oneCell' = true) : VL σ w ρ [a] [v] := by
  refine ⟨rfl, fun j x u hx hu => ?_⟩
  cases j with
  | zero => simp at hx hu; subst hx; subst hu; exact ⟨h, h1⟩
  | succ j => simp at hx
theorem opens_int {t : TypeId} {k : IntKind} (ht : P.underlying t = some (.int k)) : Opens σ ρ enc P w base spare held t (fun n : Int => [.int k n]) (Fits k) := by
  intro fuel cs x h
  obtain ⟨n, rfl, _, hw⟩ := DataW.trod_int ht h
  exact ⟨n, VL_one (.int k n) rfl, hw⟩
theorem opens_bool {t : TypeId} (ht : P.underlying t = some .bool) : Opens σ ρ enc P w base spare held t (fun b : Bool => [.bool b]) (fun _ => True) := by
  intro fuel cs x h
  obtain ⟨n, rfl, _⟩ := DataW.trod_bool ht h
  exact ⟨n, VL_one (.bool n) rfl, trivial⟩
theorem list_choose {α : Type} {p : Nat → α → Prop} : ∀ n : Nat, (∀ i, i < n → ∃ a, p i a) → ∃ l : List α, l.length = n ∧ ∀ i a, l[i]? = some a → p i a
  | 0, _ => ⟨[], rfl, fun i a h => by simp at h⟩
  | n + 1, h => by
    obtain ⟨l, hl, hp⟩ := list_choose n (fun i hi => h i (by omega))
    obtain ⟨a, ha⟩ := h n (by omega)
    refine ⟨l ++ [a], by simp [hl], fun i b hb => ?_⟩
    by_cases hi : i < n
    · rw [List.getElem?_append_left (by omega)] at hb; exact hp i b hb
    · rw [List.getElem?_append_right (by omega)] at hb
      by_cases e : i = n
      · subst e; rw [hl, Nat.sub_self] at hb; simp at hb; exact hb ▸ ha
      · rw [List.getElem?_eq_none (by simp; omega)] at hb; cases hb
theorem flat_get {α β : Type} {e : α → List β} {s : Nat} (hs : 0 < s) : ∀ (l : List α), (∀ a ∈ l, (e a).length = s) → (l.flatMap e).length = l.length * s ∧ ∀ j c, (l.flatMap e)[j]? = some c → ∃ a, l[j / s]? = some a ∧ (e a)[j % s]? = some c
  | [], _ => ⟨by simp, fun j c h => by simp at h⟩
  | a :: l, h => by
    obtain ⟨h1, h2⟩ := flat_get hs l (fun b hb => h b (List.mem_cons_of_mem _ hb))
    have ha := h a (List.mem_cons_self ..)
    refine ⟨by rw [List.flatMap_cons, List.length_append, h1, ha, List.length_cons, Nat.add_mul]; omega, fun j c hj => ?_⟩
    rw [List.flatMap_cons] at hj
    rcases Nat.lt_or_ge j s with hlt | hge
    · rw [List.getElem?_append_left (by rw [ha]; exact hlt)] at hj
      exact ⟨a, by rw [Nat.div_eq_of_lt hlt]; rfl, by rw [Nat.mod_eq_of_lt hlt]; exact hj⟩
    · rw [List.getElem?_append_right (by rw [ha]; exact hge), ha] at hj
      obtain ⟨b, q1, q2⟩ := h2 _ c hj
      obtain ⟨k, rfl⟩ : ∃ k, j = k + s := ⟨j - s, by omega⟩
      rw [Nat.add_sub_cancel] at q1 q2
      refine ⟨b, by rw [Nat.add_div_right k hs]; exact q1, by rw [Nat.add_mod_right]; exact q2⟩
/-- A slice, its elements of the kind e. -/
def roL {α : Type} (e : α → List AV) (l : List α) : AV := .ro (l.flatMap e) l.length
def GoodL {α : Type} (good : α → Prop) (l : List α) : Prop := l.length ≤ maxLen ∧ ∀ a, a ∈ l → good a
theorem VR_slice {α : Type} {e : α → List AV} {s : Nat} (hs : 0 < s) (he : ∀ a, (e a).length = s) {a : Addr} {l : List α} {cap : Nat} (hl : l.length ≤ cap) (hp : ∀ i x, l[i]? = some x → ∃ c, VL σ w ρ (e x) c ∧ ∀ j u, c[j]? = some u → w.cell? (a.add (i * s + j)) = some u) :
    VR σ w ρ (roL e l) (.slice (some a) l.length cap) := by
  cases l with
  | nil => exact .ro0 _ _ _
  | cons x0 l0 =>
    generalize hL : x0 :: l0 = L at *
    obtain ⟨g, o, sp⟩ := a
    have hsp : sp = none := by
      obtain ⟨c, h1, h2⟩ := hp 0 x0 (by rw [← hL]; rfl)
      have hc0 : 0 < c.length := by rw [h1.1, he]; exact hs
      have := h2 0 c[0] (List.getElem?_eq_getElem _)
      cases sp with
      | none => rfl
      | some q =>
        exfalso
        simp only [Nat.zero_mul, Nat.add_zero, Addr.add_zero'] at this
        unfold World.cell? at this
        split at this <;> simp at this
    subst hsp
    obtain ⟨f1, f2⟩ := flat_get (e := e) hs L (fun a _ => he a)
    have key : ∀ j c, (L.flatMap e)[j]? = some c → ∃ u, w.cell? ⟨g, o + j, none⟩ = some u ∧ VR σ w ρ c u ∧ u.oneCell' = true := by
      intro j c hj
      obtain ⟨x, h1, h2⟩ := f2 j c hj
      obtain ⟨cs, h3, h4⟩ := hp _ x h1
      have hlt : j % s < cs.length := by rw [h3.1, he]; exact Nat.mod_lt _ hs
      have h5 := h4 (j % s) cs[j % s] (List.getElem?_eq_getElem hlt)
      rw [add_off, Nat.div_add_mod' j s] at h5
      exact ⟨_, h5, h3.2 _ c _ h2 (List.getElem?_eq_getElem hlt)⟩
    refine .ro _ _ cap g o (fun j => (w.cell? ⟨g, o + j, none⟩).getD undef) hl (fun j c hj => ?_) (fun j c hj => ?_) (fun j c hj => ?_)
    · obtain ⟨u, h1, h2, h3⟩ := key j c hj; rw [h1]; rfl
    · obtain ⟨u, h1, h2, h3⟩ := key j c hj; rw [h1]; exact h2
    · obtain ⟨u, h1, h2, h3⟩ := key j c hj; rw [h1]; exact h3
theorem opens_slice {α : Type} {t te : TypeId} {e : α → List AV} {s : Nat} {good : α → Prop} (ht : P.underlying t = some (.slice te)) (hs : 0 < s) (hl : ∀ a, (e a).length = s) (hC : P.cellsOf te = s) (he : Opens σ ρ enc P w base spare held te e good) :
    Opens σ ρ enc P w base spare held t (fun l : List α => [roL e l]) (GoodL good) := by
  intro fuel cs x h
  rcases open_slice ht h with ⟨rfl, _⟩ | ⟨a, len, cap, m, n, D, Pl, rfl, hb, hlen, hm, hmm, hx, hi⟩
  · exact ⟨[], VL_one (.ro0 _ _ _) rfl, by simp, fun a ha => by cases ha⟩
  · have hlm : len ≤ m := by rw [hmm]; split <;> omega
    obtain ⟨l, hll, hp⟩ := list_choose (p := fun i x => ∃ c, VL σ w ρ (e x) c ∧ (∀ j u, c[j]? = some u → w.cell? (a.add (i * s + j)) = some u) ∧ good x) len (fun i h => by
      obtain ⟨cs', hc, ht'⟩ := hi i (by omega)
      obtain ⟨y, hy, hg⟩ := he _ _ _ ht'
      obtain ⟨_, hcl, hat⟩ := World.cells?_some hc
      rw [hC] at hcl hat
      refine ⟨y, cs', hy, fun j u hj => ?_, hg⟩
      have hj' : j < s := by rw [← hcl]; exact (List.getElem?_eq_some_iff.1 hj).1
      have hxx := hat j hj'
      rw [← Go.Deep.add_add, hxx, hj])
    refine ⟨l, ?_, by rw [hll]; omega, fun y hy => ?_⟩
    · have := VR_slice (σ := σ) (w := w) (ρ := ρ) hs hl (a := a) (l := l) (cap := cap) (by omega) (fun i x hx => by obtain ⟨c, h1, h2, _⟩ := hp i x hx; exact ⟨c, h1, h2⟩)
      rw [hll] at this
      exact VL_one this rfl
    · obtain ⟨j, hj, rfl⟩ := List.getElem_of_mem hy
      obtain ⟨c, _, _, h4⟩ := hp j _ (List.getElem?_eq_getElem hj)
      exact h4
theorem opens_struct2 {α β γ : Type} {t : TypeId} {f0 f1 : Field} {d0 : α → List AV} {d1 : β → List AV} {s0 s1 : Nat} {g0 : α → Prop} {g1 : β → Prop} (ht : P.underlying t = some (.struct #[f0, f1])) (f : γ → α × β) (mk : α → β → γ) (hf : ∀ a b, f (mk a b) = (a, b))
    (hc : P.cellsOf t = s0 + s1 ∧ f0.offset = 0 ∧ f1.offset = s0 ∧ P.cellsOf f0.type = s0 ∧ P.cellsOf f1.type = s1)
    (h0 : Opens σ ρ enc P w base spare held f0.type d0 g0) (h1 : Opens σ ρ enc P w base spare held f1.type d1 g1) :
    Opens σ ρ enc P w base spare held t (fun x => d0 (f x).1 ++ d1 (f x).2) (fun x => g0 (f x).1 ∧ g1 (f x).2) := by
  intro fuel cs x h
  obtain ⟨xs, n, _, _, hl, hlen, hg⟩ := DataW.trod_struct ht h
  obtain ⟨e0, e1, e2, e3, e4⟩ := hc
  have q0 := hg 0 f0 rfl
  have q1 := hg 1 f1 rfl
  rw [e1, e3, List.drop_zero, List.getElem?_eq_getElem (by simp [hlen])] at q0
  rw [e2, e4, List.take_of_length_le (by rw [List.length_drop]; omega), List.getElem?_eq_getElem (by simp [hlen])] at q1
  obtain ⟨a, ha, hga⟩ := h0 _ _ _ q0
  obtain ⟨b, hb, hgb⟩ := h1 _ _ _ q1
  refine ⟨mk a b, ?_, by simp only [hf]; exact ⟨hga, hgb⟩⟩
  simp only [hf]
  rw [← List.take_append_drop s0 cs]
  exact ha.append hb
theorem opens_struct4 {α β γ δ ε : Type} {t : TypeId} {f0 f1 f2 f3 : Field} {d0 : α → List AV} {d1 : β → List AV} {d2 : γ → List AV} {d3 : δ → List AV} {s0 s1 s2 s3 : Nat} {g0 : α → Prop} {g1 : β → Prop} {g2 : γ → Prop} {g3 : δ → Prop} (ht : P.underlying t = some (.struct #[f0, f1, f2, f3])) (f : ε → α × β × γ × δ) (mk : α → β → γ → δ → ε) (hf : ∀ a b c d, f (mk a b c d) = (a, b, c, d))
    (hc : P.cellsOf t = s0 + (s1 + (s2 + s3)) ∧ f0.offset = 0 ∧ f1.offset = s0 ∧ f2.offset = s0 + s1 ∧ f3.offset = s0 + s1 + s2 ∧ P.cellsOf f0.type = s0 ∧ P.cellsOf f1.type = s1 ∧ P.cellsOf f2.type = s2 ∧ P.cellsOf f3.type = s3)
    (h0 : Opens σ ρ enc P w base spare held f0.type d0 g0) (h1 : Opens σ ρ enc P w base spare held f1.type d1 g1) (h2 : Opens σ ρ enc P w base spare held f2.type d2 g2) (h3 : Opens σ ρ enc P w base spare held f3.type d3 g3) :
    Opens σ ρ enc P w base spare held t (fun x => d0 (f x).1 ++ (d1 (f x).2.1 ++ (d2 (f x).2.2.1 ++ d3 (f x).2.2.2))) (fun x => g0 (f x).1 ∧ g1 (f x).2.1 ∧ g2 (f x).2.2.1 ∧ g3 (f x).2.2.2) := by
  intro fuel cs x h
  obtain ⟨xs, n, _, _, hl, hlen, hg⟩ := DataW.trod_struct ht h
  obtain ⟨e0, e1, e2, e3, e4, e5, e6, e7, e8⟩ := hc
  have q0 := hg 0 f0 rfl
  have q1 := hg 1 f1 rfl
  have q2 := hg 2 f2 rfl
  have q3 := hg 3 f3 rfl
  rw [e1, e5, List.drop_zero, List.getElem?_eq_getElem (by simp [hlen])] at q0
  rw [e2, e6, List.getElem?_eq_getElem (by simp [hlen])] at q1
  rw [e3, e7, List.getElem?_eq_getElem (by simp [hlen])] at q2
  rw [e4, e8, List.take_of_length_le (by rw [List.length_drop]; omega), List.getElem?_eq_getElem (by simp [hlen])] at q3
  obtain ⟨a, ha, hga⟩ := h0 _ _ _ q0
  obtain ⟨b, hb, hgb⟩ := h1 _ _ _ q1
  obtain ⟨c, hcc, hgc⟩ := h2 _ _ _ q2
  obtain ⟨d, hd, hgd⟩ := h3 _ _ _ q3
  refine ⟨mk a b c d, ?_, by simp only [hf]; exact ⟨hga, hgb, hgc, hgd⟩⟩
  simp only [hf]
  have e : cs = cs.take s0 ++ ((cs.drop s0).take s1 ++ ((cs.drop (s0 + s1)).take s2 ++ cs.drop (s0 + s1 + s2))) := by
    conv => lhs; rw [← List.take_append_drop s0 cs]
    congr 1
    conv => lhs; rw [← List.take_append_drop s1 (cs.drop s0), List.drop_drop]
    congr 1
    conv => lhs; rw [← List.take_append_drop s2 (cs.drop (s0 + s1)), List.drop_drop]
  rw [e]
  exact ha.append (hb.append (hcc.append hd))
/-- An argument that is a slice. -/
theorem open_arg {α : Type} {t : TypeId} {e : α → List AV} {good : α → Prop} {a : Option Addr} {len cap : Nat} {D : DataW H} {ps : List MemPlace}
    (ho : Opens σ ρ enc P w base spare held t (fun l : List α => [roL e l]) (GoodL good)) (h : DataW.Trod enc P w base spare held t (.slice a len cap) D ps) :
    ∃ l : List α, VR σ w ρ (roL e l) (.slice a len cap) ∧ l.length ≤ maxLen ∧ ∀ x, x ∈ l → good x := by
  obtain ⟨fuel, hf⟩ := h
  obtain ⟨l, hl, hm, hg⟩ := ho _ _ _ hf
  refine ⟨l, (hl.2 0 (roL e l) (.slice a len cap) rfl (by simp [Value.cells])).1, hm, hg⟩
end
/-- Nothing is made yet. -/
def AH.none : AH := ⟨fun _ => .none, 0⟩
def Mp.none : Mp := fun _ => .none
theorem HR.start (σ : Nat → FuncId) (w : World) : HR σ w Mp.none AH.none w :=
  ⟨Below.refl _ _, fun _ _ => rfl, fun _ _ => rfl, fun _ _ _ h => (by cases h), fun _ _ _ _ h => (by cases h), fun _ _ _ _ _ _ _ h => (by cases h)⟩
/-- A law's run: the machine says true. -/
theorem law_calls {P : Program} {σ : Nat → FuncId} {T : Nat → Option AF} (hm : P.follows .mixedOrders = true) (hT : ∀ f F, T f = some F → okF P (σ f) σ F = true) {k f : Nat} {xs : List AV} {h' : AH} {w : World} {vs : Array Value} (hr : run T k f xs AH.none = some (.bool true, h')) (hv : VA σ w Mp.none xs vs.toList) :
    Calls P (σ f) vs w fun e w' => e = .returned (.bool true) ∧ Below w.heap.size w w' := by
  refine ((run_sound (w0 := w) hm hT k f xs AH.none _ hr).2 Mp.none w vs (HR.start σ w) hv).mono fun e w' he => ?_
  obtain ⟨u, ρ', rfl, _, h1, h2⟩ := he
  exact ⟨by rw [VR_bool h1], h2.bel⟩
theorem VA_1 {σ : Nat → FuncId} {w : World} {ρ : Mp} {a : AV} {v : Value} (h : VR σ w ρ a v) : VA σ w ρ [a] (#[v] : Array Value).toList := ⟨rfl, fun j x y hx hy => by
  cases j with
  | zero => cases hx; cases hy; exact h
  | succ j => simp at hx⟩
theorem VA_2 {σ : Nat → FuncId} {w : World} {ρ : Mp} {a b : AV} {v u : Value} (h : VR σ w ρ a v) (h' : VR σ w ρ b u) : VA σ w ρ [a, b] (#[v, u] : Array Value).toList := ⟨rfl, fun j x y hx hy => by
  match j with
  | 0 => cases hx; cases hy; exact h
  | 1 => cases hx; cases hy; exact h'
  | j + 2 => simp at hx⟩
theorem VA_3 {σ : Nat → FuncId} {w : World} {ρ : Mp} {a b c : AV} {v u t : Value} (h : VR σ w ρ a v) (h' : VR σ w ρ b u) (h'' : VR σ w ρ c t) : VA σ w ρ [a, b, c] (#[v, u, t] : Array Value).toList := ⟨rfl, fun j x y hx hy => by
  match j with
  | 0 => cases hx; cases hy; exact h
  | 1 => cases hx; cases hy; exact h'
  | 2 => cases hx; cases hy; exact h''
  | j + 3 => simp at hx⟩
theorem VA_4 {σ : Nat → FuncId} {w : World} {ρ : Mp} {a b c d : AV} {v u t s : Value} (h : VR σ w ρ a v) (h' : VR σ w ρ b u) (h'' : VR σ w ρ c t) (h3 : VR σ w ρ d s) : VA σ w ρ [a, b, c, d] (#[v, u, t, s] : Array Value).toList := ⟨rfl, fun j x y hx hy => by
  match j with
  | 0 => cases hx; cases hy; exact h
  | 1 => cases hx; cases hy; exact h'
  | 2 => cases hx; cases hy; exact h''
  | 3 => cases hx; cases hy; exact h3
  | j + 4 => simp at hx⟩
theorem fits_u8 {n : Int} (h : Fits .u8 n) : 0 ≤ n ∧ n < 256 := by
  have e1 : IntKind.u8.min = 0 := by decide
  have e2 : IntKind.u8.max = 255 := by decide
  have h : (decide (IntKind.u8.min ≤ n) && decide (n ≤ IntKind.u8.max)) = true := h
  rw [e1, e2] at h
  simp at h
  omega
theorem flatMap_one {α β : Type} (f : α → β) : ∀ l : List α, l.flatMap (fun n => [f n]) = l.map f
  | [] => rfl
  | a :: l => by rw [List.flatMap_cons, flatMap_one f l]; rfl
theorem roL_u8 (l : List Int) : roL (fun n : Int => [.int .u8 n]) l = .ro (l.map (.int .u8)) l.length := by unfold roL; rw [flatMap_one]
end Go.AM
