/- How the machine's values and memory stand for those of Go's model. -/
import Derived.Test.YtfcdnfbhoppefaaMB
import Derived.Below
import Derived.Maps.AppendAt
import Derived.Laws.CopyRow
import Derived.Laws.MakeOwn
import Derived.Laws.OwnMore
import Derived.OrdersHeld
namespace Go.AM
set_option linter.unusedVariables false
set_option linter.unusedSimpArgs false
open Go.RowKit
/-- Each block that is known: the block of Go's memory, and how many cells that has. -/
abbrev Mp := Nat → Option (Nat × Nat)
def Mp.le (ρ ρ' : Mp) : Prop := ∀ b x, ρ b = some x → ρ' b = some x
theorem Mp.le_refl (ρ : Mp) : ρ.le ρ := fun _ _ h => h
theorem Mp.le_trans {ρ ρ' ρ'' : Mp} (h : ρ.le ρ') (h' : ρ'.le ρ'') : ρ.le ρ'' := fun b x e => h' b x (h b x e)
inductive VR (σ : Nat → FuncId) (w0 : World) (ρ : Mp) : AV → Value → Prop
  | int (k : IntKind) (n : Int) : VR σ w0 ρ (.int k n) (.int k n)
  | bool (b : Bool) : VR σ w0 ρ (.bool b) (.bool b)
  | nils : VR σ w0 ρ .nils (.slice none 0 0)
  | sl (b off n s g z cap : Nat) (a : Addr) : ρ b = some (g, z) → n ≤ cap → ((a = ⟨g, off, none⟩ ∧ off + cap * s = z) ∨ (cap = 0 ∧ 0 < off)) → VR σ w0 ρ (.sl b off n s) (.slice (some a) n cap)
  | ro (cs : List AV) (n cap : Nat) (g o : Nat) (f : Nat → Value) : n ≤ cap → (∀ (j : Nat) (c : AV), cs[j]? = some c → w0.cell? ⟨g, o + j, none⟩ = some (f j)) → (∀ (j : Nat) (c : AV), cs[j]? = some c → VR σ w0 ρ c (f j)) → (∀ (j : Nat) (c : AV), cs[j]? = some c → (f j).oneCell' = true) → VR σ w0 ρ (.ro cs n) (.slice (some ⟨g, o, none⟩) n cap)
  | ro0 (cs : List AV) (A : Option Addr) (cap : Nat) : VR σ w0 ρ (.ro cs 0) (.slice A 0 cap)
  | ptr (b off g z : Nat) : ρ b = some (g, z) → VR σ w0 ρ (.ptr b off) (.pointer (some ⟨g, off, none⟩))
  | rop (cs : List AV) (off : Nat) (g o : Nat) (f : Nat → Value) : (∀ (j : Nat) (c : AV), cs[j]? = some c → w0.cell? ⟨g, o + j, none⟩ = some (f j)) → (∀ (j : Nat) (c : AV), cs[j]? = some c → VR σ w0 ρ c (f j)) → (∀ (j : Nat) (c : AV), cs[j]? = some c → (f j).oneCell' = true) → VR σ w0 ρ (.rop cs off) (.pointer (some ⟨g, o + off, none⟩))
  | nilp : VR σ w0 ρ .nilp (.pointer none)
  | fn (f : Nat) (caps : List AV) (cs : Array Value) : cs.size = caps.length → (∀ (j : Nat) (a : AV) (v : Value), caps[j]? = some a → cs[j]? = some v → VR σ w0 ρ a v) → VR σ w0 ρ (.fn f caps) (.func (.func (σ f)) #[] cs)
  | nilf : VR σ w0 ρ .nilf .nilFunc
  | agg (cs : List AV) (vs : Array Value) : vs.size = cs.length → (∀ (j : Nat) (a : AV) (v : Value), cs[j]? = some a → vs[j]? = some v → VR σ w0 ρ a v) → (∀ (j : Nat) (v : Value), vs[j]? = some v → v.oneCell' = true) → VR σ w0 ρ (.agg cs) (.agg vs)
  | tup (cs : List AV) (vs : Array Value) : vs.size = cs.length → (∀ (j : Nat) (a : AV) (v : Value), cs[j]? = some a → vs[j]? = some v → VR σ w0 ρ a v) → VR σ w0 ρ (.tup cs) (.tuple vs)
  | junk (v : Value) : VR σ w0 ρ .junk v
variable {σ : Nat → FuncId} {w0 : World} {ρ ρ' : Mp}
theorem VR.mono (hle : ρ.le ρ') {a : AV} {v : Value} (h : VR σ w0 ρ a v) : VR σ w0 ρ' a v := by
  induction h with
  | int k n => exact .int k n
  | bool b => exact .bool b
  | nils => exact .nils
  | sl b off n s g z cap a h1 h2 h3 => exact .sl b off n s g z cap a (hle _ _ h1) h2 h3
  | ro cs n cap g o f h1 h2 _ h3 ih => exact .ro cs n cap g o f h1 h2 ih h3
  | ro0 cs A cap => exact .ro0 cs A cap
  | ptr b off g z h => exact .ptr b off g z (hle _ _ h)
  | rop cs off g o f h1 _ h2 ih => exact .rop cs off g o f h1 ih h2
  | nilp => exact .nilp
  | fn f caps cs h1 _ ih => exact .fn f caps cs h1 ih
  | nilf => exact .nilf
  | agg cs vs h1 _ h2 ih => exact .agg cs vs h1 ih h2
  | tup cs vs h1 _ ih => exact .tup cs vs h1 ih
  | junk v => exact .junk v
/-- Cells: values of one cell each. -/
def VL (σ : Nat → FuncId) (w0 : World) (ρ : Mp) (cs : List AV) (vs : List Value) : Prop := vs.length = cs.length ∧ ∀ (j : Nat) (a : AV) (v : Value), cs[j]? = some a → vs[j]? = some v → VR σ w0 ρ a v ∧ v.oneCell' = true
/-- Values, of whatever form. -/
def VA (σ : Nat → FuncId) (w0 : World) (ρ : Mp) (cs : List AV) (vs : List Value) : Prop := vs.length = cs.length ∧ ∀ (j : Nat) (a : AV) (v : Value), cs[j]? = some a → vs[j]? = some v → VR σ w0 ρ a v
theorem VL.mono (hle : ρ.le ρ') {cs : List AV} {vs : List Value} (h : VL σ w0 ρ cs vs) : VL σ w0 ρ' cs vs := ⟨h.1, fun j a v h1 h2 => ⟨(h.2 j a v h1 h2).1.mono hle, (h.2 j a v h1 h2).2⟩⟩
theorem VA.mono (hle : ρ.le ρ') {cs : List AV} {vs : List Value} (h : VA σ w0 ρ cs vs) : VA σ w0 ρ' cs vs := ⟨h.1, fun j a v h1 h2 => (h.2 j a v h1 h2).mono hle⟩
theorem VL.nil : VL σ w0 ρ [] [] := ⟨rfl, fun j a v h => by simp at h⟩
theorem VL.append {a b : List AV} {c d : List Value} (h1 : VL σ w0 ρ a c) (h2 : VL σ w0 ρ b d) : VL σ w0 ρ (a ++ b) (c ++ d) := by
  refine ⟨by rw [List.length_append, List.length_append, h1.1, h2.1], fun j x v hx hv => ?_⟩
  rcases Nat.lt_or_ge j a.length with hj | hj
  · rw [List.getElem?_append_left hj] at hx
    rw [List.getElem?_append_left (by rw [h1.1]; exact hj)] at hv
    exact h1.2 j x v hx hv
  · rw [List.getElem?_append_right hj] at hx
    rw [List.getElem?_append_right (by rw [h1.1]; exact hj), h1.1] at hv
    exact h2.2 _ x v hx hv
theorem VL.drop {a : List AV} {c : List Value} (h : VL σ w0 ρ a c) (n : Nat) : VL σ w0 ρ (a.drop n) (c.drop n) :=
  ⟨by rw [List.length_drop, List.length_drop, h.1], fun j x v hx hv => h.2 (n + j) x v (by rwa [List.getElem?_drop] at hx) (by rwa [List.getElem?_drop] at hv)⟩
theorem VL.take {a : List AV} {c : List Value} (h : VL σ w0 ρ a c) (n : Nat) : VL σ w0 ρ (a.take n) (c.take n) := by
  refine ⟨by rw [List.length_take, List.length_take, h.1], fun j x v hx hv => ?_⟩
  rw [List.getElem?_take] at hx hv
  split at hx
  · rename_i hj
    rw [if_pos hj] at hv
    exact h.2 j x v hx hv
  · cases hx
theorem VL.splice {a b : List AV} {c d : List Value} (h : VL σ w0 ρ a c) (k : VL σ w0 ρ b d) (o : Nat) : VL σ w0 ρ (splice a o b) (c.take o ++ d ++ c.drop (o + d.length)) := by
  unfold AM.splice
  rw [k.1]
  exact ((h.take o).append k).append (h.drop _)
theorem VL.one {a : List AV} {c : List Value} (h : VL σ w0 ρ a c) : ∀ v ∈ c, v.oneCell' = true := by
  intro v hv
  obtain ⟨j, hj, rfl⟩ := List.mem_iff_getElem.1 hv
  exact (h.2 j (a[j]'(by rw [← h.1]; exact hj)) c[j] (List.getElem?_eq_getElem _) (List.getElem?_eq_getElem _)).2
theorem VL.rep {z : List AV} {c : List Value} (h : VL σ w0 ρ z c) : ∀ n : Nat, VL σ w0 ρ (List.replicate n z).flatten (List.replicate n c).flatten
  | 0 => VL.nil
  | n + 1 => by rw [List.replicate_succ, List.replicate_succ, List.flatten_cons, List.flatten_cons]; exact h.append (VL.rep h n)
theorem VL.agg {cs : List AV} {vs : List Value} (h : VL σ w0 ρ cs vs) : VR σ w0 ρ (.agg cs) (.agg vs.toArray) :=
  .agg cs vs.toArray (by rw [List.size_toArray, h.1]) (fun j a v h1 h2 => (h.2 j a v h1 (by simpa using h2)).1) (fun j v hv => h.one v (List.mem_of_getElem? (by simpa using hv)))
theorem VR.one {a : AV} {v : Value} (h : VR σ w0 ρ a v) (ha : ∀ cs, a ≠ .agg cs) (hb : ∀ cs, a ≠ .tup cs) (hc : a ≠ .junk) : v.oneCell' = true := by
  cases h with
  | agg cs => exact absurd rfl (ha cs)
  | tup cs => exact absurd rfl (hb cs)
  | junk => exact absurd rfl hc
  | _ => rfl
theorem cellsOf_VL {a : AV} {v : Value} {cs : List AV} (h : VR σ w0 ρ a v) (hc : cellsOf a = some cs) : VL σ w0 ρ cs v.cells.toList := by
  have key : v.oneCell' = true → cs = [a] → v.cells = #[v] → VL σ w0 ρ cs v.cells.toList := by
    intro h1 h2 h3
    rw [h3]; subst h2
    refine ⟨rfl, fun j x u hx hu => ?_⟩
    cases j with
    | zero => simp at hx hu; subst hx; subst hu; exact ⟨h, h1⟩
    | succ j => simp at hx
  cases h with
  | agg cs' vs h1 h2 h3 =>
    simp only [cellsOf, Option.some.injEq] at hc
    subst hc
    refine ⟨by simpa [Value.cells] using h1, fun j x u hx hu => ?_⟩
    have hu' : vs[j]? = some u := by simpa [Value.cells] using hu
    exact ⟨h2 j x u hx hu', h3 j u hu'⟩
  | tup => simp [cellsOf] at hc
  | junk => simp [cellsOf] at hc
  | _ => exact key rfl (by simpa [cellsOf] using hc.symm) rfl

/-- Memory: what came in is as it was; the blocks that are known hold what the machine says. -/
structure HR (σ : Nat → FuncId) (w0 : World) (ρ : Mp) (h : AH) (w : World) : Prop where
  bel : Below w0.heap.size w0 w
  fresh : ∀ b, h.next ≤ b → ρ b = none
  dead : ∀ b, h.next ≤ b → h.blk b = none
  lt : ∀ b g z, ρ b = some (g, z) → w0.heap.size ≤ g ∧ g < w.heap.size
  blk : ∀ b cs g z, h.blk b = some cs → ρ b = some (g, z) → ∃ c e, w.heap[g]? = some (.cells c e (0, 0)) ∧ c.size = z ∧ cs.length ≤ z ∧ VL σ w0 ρ cs (c.toList.take cs.length)
  inj : ∀ b b' cs cs' g z z', h.blk b = some cs → h.blk b' = some cs' → ρ b = some (g, z) → ρ b' = some (g, z') → b = b'
theorem HR.drew {h : AH} {w : World} (r : HR σ w0 ρ h w) : HR σ w0 ρ h w.drew := ⟨r.bel.drew, r.fresh, r.dead, r.lt, r.blk, r.inj⟩
def Mp.add (ρ : Mp) (b g z : Nat) : Mp := fun x => if x = b then some (g, z) else ρ x
theorem Mp.le_add {b g z : Nat} (h : ρ b = none) : ρ.le (ρ.add b g z) := by
  intro x y hx
  unfold Mp.add
  split
  · rename_i e; rw [e, h] at hx; cases hx
  · exact hx
theorem Mp.add_self {b g z : Nat} : ρ.add b g z b = some (g, z) := if_pos rfl
/-- A new block. -/
theorem HR.new {h : AH} {w : World} (r : HR σ w0 ρ h w) {cs : List AV} {c : Array Value} (e : TypeId) (hl : cs.length ≤ c.size) (hv : VL σ w0 ρ cs (c.toList.take cs.length)) :
    HR σ w0 (ρ.add h.next w.heap.size c.size) (h.new cs) (w.alloc (.cells c e)) := by
  have hle := Mp.le_add (g := w.heap.size) (z := c.size) (r.fresh h.next (Nat.le_refl _))
  refine ⟨r.bel.alloc r.bel.size _, fun b hb => ?_, fun b hb => ?_, fun b g z hb => ?_, fun b cs' g z hb hg => ?_, fun b b' cs1 cs2 g z z' hb hb' hg hg' => ?_⟩
  · simp only [AH.new] at hb
    simp only [Mp.add]
    rw [if_neg (by omega)]
    exact r.fresh b (by omega)
  · simp only [AH.new] at hb ⊢
    rw [if_neg (by omega)]
    exact r.dead b (by omega)
  · simp only [Mp.add] at hb
    split at hb
    · simp only [Option.some.injEq, Prod.mk.injEq] at hb
      obtain ⟨rfl, rfl⟩ := hb
      exact ⟨r.bel.size, by rw [World.size_alloc]; omega⟩
    · have := r.lt b g z hb
      exact ⟨this.1, by rw [World.size_alloc]; omega⟩
  · simp only [AH.new] at hb
    simp only [Mp.add] at hg
    split at hb
    · rename_i eb
      rw [if_pos eb] at hg
      simp only [Option.some.injEq, Prod.mk.injEq] at hb hg
      obtain ⟨rfl, rfl⟩ := hg
      subst hb
      exact ⟨c, e, heap_alloc_new w _, rfl, hl, hv.mono hle⟩
    · rename_i eb
      rw [if_neg eb] at hg
      obtain ⟨c', e', h1, h2, h3, h4⟩ := r.blk b cs' g z hb hg
      exact ⟨c', e', by rw [heap_alloc_old w _ g (r.lt b g z hg).2]; exact h1, h2, h3, h4.mono hle⟩
  · simp only [AH.new] at hb hb'
    simp only [Mp.add] at hg hg'
    by_cases e1 : b = h.next <;> by_cases e2 : b' = h.next
    · rw [e1, e2]
    · rw [if_pos e1] at hg
      rw [if_neg e2] at hg'
      simp only [Option.some.injEq, Prod.mk.injEq] at hg
      have := (r.lt b' g z' hg').2
      omega
    · rw [if_neg e1] at hg
      rw [if_pos e2] at hg'
      simp only [Option.some.injEq, Prod.mk.injEq] at hg'
      have := (r.lt b g z hg).2
      omega
    · rw [if_neg e1] at hb hg
      rw [if_neg e2] at hb' hg'
      exact r.inj b b' cs1 cs2 g z z' hb hb' hg hg'
theorem HR.del {h : AH} {w : World} (r : HR σ w0 ρ h w) (b : Nat) : HR σ w0 ρ (h.del b) w := by
  have key : ∀ x cs, (h.del b).blk x = some cs → h.blk x = some cs := by
    intro x cs hx
    simp only [AH.del] at hx
    split at hx
    · cases hx
    · exact hx
  refine ⟨r.bel, r.fresh, fun x hx => ?_, r.lt, fun x cs g z hx hg => r.blk x cs g z (key x cs hx) hg, fun x y cs cs' g z z' hx hy hg hg' => r.inj x y cs cs' g z z' (key _ _ hx) (key _ _ hy) hg hg'⟩
  simp only [AH.del]
  split
  · rfl
  · exact r.dead x hx
/-- Cells of a block are written; 'd' behind the known ones may be written too (room of an append). -/
theorem HR.write {h : AH} {w : World} (r : HR σ w0 ρ h w) {b g z : Nat} {cs cs' : List AV} {c d : Array Value} {e : TypeId} (hb : h.blk b = some cs) (hg : ρ b = some (g, z)) (hc : w.heap[g]? = some (.cells c e (0, 0))) (hd : d.size = z) (hl : cs'.length ≤ z) (hv : VL σ w0 ρ cs' (d.toList.take cs'.length)) :
    HR σ w0 ρ (h.set b cs') (w.setRow g d) := by
  have hlt := r.lt b g z hg
  have hsz : (w.setRow g d).heap.size = w.heap.size := by simp [World.setRow]
  have hother : ∀ k, k ≠ g → (w.setRow g d).heap[k]? = w.heap[k]? := fun k hk => setRow_other w g k d hk
  refine ⟨r.bel.trans ⟨rfl, rfl, rfl, by rw [hsz]; exact Nat.le_refl _, fun k hk => hother k (by omega)⟩, r.fresh, fun x hx => ?_, fun x g' z' hx => by rw [hsz]; exact r.lt x g' z' hx, fun x cs1 g' z' hx hg' => ?_, fun x y cs1 cs2 g' z1 z2 hx hy hg1 hg2 => ?_⟩
  · simp only [AH.set]
    rw [if_neg (by intro e; rw [e] at hx; rw [r.fresh b hx] at hg; cases hg)]
    exact r.dead x hx
  · simp only [AH.set] at hx
    split at hx
    · rename_i ex
      subst ex
      rw [hg] at hg'
      simp only [Option.some.injEq, Prod.mk.injEq] at hg' hx
      obtain ⟨rfl, rfl⟩ := hg'
      subst hx
      exact ⟨d, e, setRow_heap w g c d e _ hc, hd, hl, hv⟩
    · rename_i ex
      obtain ⟨c', e', h1, h2, h3, h4⟩ := r.blk x cs1 g' z' hx hg'
      refine ⟨c', e', ?_, h2, h3, h4⟩
      rw [hother g' (fun eg => ex (r.inj x b cs1 cs g z' z hx hb (by rw [← eg]; exact hg') hg))]
      exact h1
  · simp only [AH.set] at hx hy
    have key : ∀ x cs1, (if x = b then some cs' else h.blk x) = some cs1 → ∃ cs2, h.blk x = some cs2 := by
      intro x cs1 hx
      split at hx
      · rename_i ex; rw [ex]; exact ⟨cs, hb⟩
      · exact ⟨_, hx⟩
    obtain ⟨_, hx'⟩ := key x cs1 hx
    obtain ⟨_, hy'⟩ := key y cs2 hy
    exact r.inj x y _ _ g' z1 z2 hx' hy' hg1 hg2
/-- A block takes a new number. -/
theorem HR.rename {h : AH} {w : World} (r : HR σ w0 ρ h w) {b g z : Nat} {cs : List AV} (hb : h.blk b = some cs) (hg : ρ b = some (g, z)) : HR σ w0 (ρ.add h.next g z) ((h.del b).new cs) w := by
  have hle := Mp.le_add (g := g) (z := z) (r.fresh h.next (Nat.le_refl _))
  have hbn : b ≠ h.next := fun e => by rw [e, r.dead h.next (Nat.le_refl _)] at hb; cases hb
  have kd : ∀ x cs', ((h.del b).new cs).blk x = some cs' → (x = h.next ∧ cs' = cs) ∨ (x ≠ h.next ∧ x ≠ b ∧ h.blk x = some cs') := by
    intro x cs' hx
    have hx : (if x = h.next then some cs else if x = b then none else h.blk x) = some cs' := hx
    by_cases ex : x = h.next
    · rw [if_pos ex] at hx; exact .inl ⟨ex, by simpa using hx.symm⟩
    · rw [if_neg ex] at hx
      by_cases ey : x = b
      · rw [if_pos ey] at hx; cases hx
      · rw [if_neg ey] at hx; exact .inr ⟨ex, ey, hx⟩
  have kg : ∀ x y, x ≠ h.next → ρ.add h.next g z x = some y → ρ x = some y := by
    intro x y hx hy
    simp only [Mp.add] at hy
    rwa [if_neg hx] at hy
  refine ⟨r.bel, fun x hx => ?_, fun x hx => ?_, fun x g' z' hx => ?_, fun x cs' g' z' hx hg' => ?_, fun x y cs1 cs2 g' z1 z2 hx hy hg1 hg2 => ?_⟩
  · simp only [AH.new, AH.del] at hx
    simp only [Mp.add]
    rw [if_neg (by omega)]
    exact r.fresh x (by omega)
  · have hx : h.next + 1 ≤ x := hx
    show (if x = h.next then some cs else if x = b then none else h.blk x) = none
    rw [if_neg (by omega)]
    by_cases ey : x = b
    · rw [if_pos ey]
    · rw [if_neg ey]; exact r.dead x (by omega)
  · by_cases ex : x = h.next
    · rw [ex, Mp.add_self] at hx
      simp only [Option.some.injEq, Prod.mk.injEq] at hx
      obtain ⟨rfl, rfl⟩ := hx
      exact r.lt b g z hg
    · exact r.lt x g' z' (kg x _ ex hx)
  · rcases kd x cs' hx with ⟨rfl, rfl⟩ | ⟨h1, h2, h3⟩
    · rw [Mp.add_self] at hg'
      simp only [Option.some.injEq, Prod.mk.injEq] at hg'
      obtain ⟨rfl, rfl⟩ := hg'
      obtain ⟨c, e, h1, h2, h3, h4⟩ := r.blk b _ g z hb hg
      exact ⟨c, e, h1, h2, h3, h4.mono hle⟩
    · obtain ⟨c, e, q1, q2, q3, q4⟩ := r.blk x cs' g' z' h3 (kg x _ h1 hg')
      exact ⟨c, e, q1, q2, q3, q4.mono hle⟩
  · rcases kd x cs1 hx with ⟨rfl, rfl⟩ | ⟨h1, h2, h3⟩ <;> rcases kd y cs2 hy with ⟨rfl, rfl⟩ | ⟨k1, k2, k3⟩
    · rfl
    · rw [Mp.add_self] at hg1
      simp only [Option.some.injEq, Prod.mk.injEq] at hg1
      obtain ⟨rfl, rfl⟩ := hg1
      exact absurd (r.inj y b cs2 _ g z2 z k3 hb (kg y _ k1 hg2) hg) k2
    · rw [Mp.add_self] at hg2
      simp only [Option.some.injEq, Prod.mk.injEq] at hg2
      obtain ⟨rfl, rfl⟩ := hg2
      exact absurd (r.inj x b cs1 _ g z1 z h3 hb (kg x _ h1 hg1) hg) h2
    · exact r.inj x y cs1 cs2 g' z1 z2 h3 k3 (kg x _ h1 hg1) (kg y _ k1 hg2)
end Go.AM
