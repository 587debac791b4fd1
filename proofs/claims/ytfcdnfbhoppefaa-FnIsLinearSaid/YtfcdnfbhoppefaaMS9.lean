/- FnIsLinear over the machine. -/
import Derived.Test.YtfcdnfbhoppefaaMS8
namespace Go.AM
set_option linter.unusedVariables false
set_option linter.unusedSimpArgs false
set_option maxRecDepth 100000
structure HasLin (T : Nat → Option AF) : Prop extends HasQ T where
  f185 : T 185 = some spec_DrawIsLinear.ir
  f186 : T 186 = some impl_IsLinear.ir
  f187 : T 187 = some spec_IsLinear.ir
  f209 : T 209 = some spec_anyPlan.ir
  f268 : T 268 = some laws_FnIsLinear.ir
theorem drawIsLinear_ok {T : Nat → Option AF} (H : HasLin T) {k : Nat} (hk : 1000100 ≤ k) {h : AH} {bs : List Int} (hb : ∀ x, x ∈ bs → 0 ≤ x ∧ x < 256) (ok : Ok h) :
    W (run T k 185 [.ro (bs.map (.int .u8)) bs.length] h) fun v h' => ∃ (m : Mem) (rows : List (List AV)), Sl m 10 v rows ∧ (∀ r, r ∈ rows → NodeB 2000 m r) ∧ rows.length ≤ 1000 ∧ Sub m h' ∧ Ok h' := by
  obtain ⟨k, rfl⟩ : ∃ j, k = j + 1 := ⟨k - 1, by omega⟩
  rw [spec_DrawIsLinear_run T H.f185]
  refine W.call_ (newReader_ok H.f35 (by omega) hb ok) fun v h1 ⟨e, r, c, ok1, _⟩ => ?_
  subst e
  have fin : ∀ {px wx : AV} {h3 h4 : AH} {m : Mem} {rows : List (List AV)} {B : List Nat} {p p' : Int} {ws : List Int} {Bx : List Nat}, Dr h3 h.next p px wx h4 m rows B p' ws Bx → W (some (px, h4)) fun v h' => ∃ (m : Mem) (rows : List (List AV)), Sl m 10 v rows ∧ (∀ r, r ∈ rows → NodeB 2000 m r) ∧ rows.length ≤ 1000 ∧ Sub m h' ∧ Ok h' :=
    fun {px wx h3 h4 m rows B p p' ws Bx} D => W.ret ⟨m.add h4 B, rows, D.own.add, fun r hr => (D.node r hr).mono (Mem.le_add D.sub B), D.small, D.sub.add B, D.ok⟩
  refine W.callI (pick_ok H.f37 (by omega) r (by omega) ok1) fun n h2 ⟨r2, c2, ok2, _, _, _⟩ => W.bif_ (fun _ => ?_) fun _ => ?_
  · refine W.call_ (linearPlan_dr H.toHasQ (by omega) r2 ok2 (by omega)) fun v h3 ⟨px, wx, m, rows, B, p', ws, Bx, e, D, _⟩ => ?_
    subst e
    exact fin D
  · rw [spec_DrawIsLinear.J1_eq]
    refine W.call_ (anyPlan_dr H.toHasQ H.f209 (by omega) r2 ok2 (by omega)) fun v h3 ⟨px, wx, m, rows, B, p', ws, Bx, e, D, _⟩ => ?_
    subst e
    exact fin D
theorem lin_loop {T : Nat → Option AF} (H : HasLin T) {k : Nat} (hk : 1000050 ≤ k) {m : Mem} {x : AV} {rows : List (List AV)} (hx : Sl m 10 x rows) (hn : ∀ r, r ∈ rows → NodeB 2000 m r) (hl : rows.length ≤ 1000) : ∀ (d i1 j : Nat) (h : AH), j + d = rows.length → d < i1 → Sub m h → Ok h →
    W (laws_FnIsLinear.L3 (run T k) k i1 x (rows.all linRow) (.bool ((rows.take j).all linRow)) (j : Int) h) fun v _ => v = .bool true := by
  intro d
  induction d with
  | zero =>
    intro i1 j h h1 h2 sub ok
    obtain ⟨i1, rfl⟩ : ∃ j, i1 = j + 1 := ⟨i1 - 1, by omega⟩
    rw [laws_FnIsLinear.L3_succ]
    refine W.len hx (W.bif_ (fun c => ?_) fun c => ?_)
    · have : (j : Int) < rows.length := by simpa using c
      omega
    · rw [laws_FnIsLinear.J6_eq, List.take_of_length_le (by omega)]
      refine W.bif_ (fun c => ?_) fun c => ?_
      · simp only [fill_nil, new_eq]
        have o := Own.new (h := h) (s := 10)
        refine W.callB (implIsLinear_ok H.f186 (by omega) (m := (h.new []).blk) (rows := []) o.sl (bn := 0) (by simp) (by simp) (fun _ _ h => h) ok.new) fun n h' ⟨e, _, _⟩ => W.ret ?_
        rw [e]; rfl
      · simp at c
  | succ d ih =>
    intro i1 j h h1 h2 sub ok
    obtain ⟨i1, rfl⟩ : ∃ j, i1 = j + 1 := ⟨i1 - 1, by omega⟩
    rw [laws_FnIsLinear.L3_succ]
    have hj : j < rows.length := by omega
    have tk : rows.take (j + 1) = rows.take j ++ [rows[j]] := by rw [List.take_add_one, List.getElem?_eq_getElem hj]; rfl
    have e : (j : Int) + 1 = ((j + 1 : Nat) : Int) := by omega
    refine W.len hx (W.bif_ (fun c => ?_) fun c => ?_)
    · rw [laws_FnIsLinear.J4_eq]
      refine W.bif_ (fun c1 => ?_) fun c1 => ?_
      · rw [wr (by omega) (by omega), e]
        obtain ⟨v, e1, s1⟩ := hx.slice (l := j) (u := j + 1) (by omega) (by omega)
        have er : (rows.drop j).take (j + 1 - j) = [rows[j]] := by
          rw [Nat.add_sub_cancel_left, List.drop_eq_getElem_cons hj]; rfl
        rw [er] at s1
        unfold pSlice
        rw [e1, Option.bind_some]
        refine W.callB (implIsLinear_ok H.f186 (by omega) s1 (fun r hr => hn r (by simp at hr; rw [hr]; exact List.getElem_mem hj)) (by simp) sub ok) fun n h' ⟨e2, c2, ok2⟩ => ?_
        rw [laws_FnIsLinear.J5_eq, wr (by omega) (by omega), e]
        have := ih i1 (j + 1) h' (by omega) (by omega) (sub.keep ok c2 (by simp)) ok2
        rw [tk, List.all_append, c1, Bool.true_and, ← e2] at this
        exact this
      · rw [laws_FnIsLinear.J5_eq, wr (by omega) (by omega), e]
        have := ih i1 (j + 1) h (by omega) (by omega) sub ok
        rw [tk, List.all_append, c1, Bool.false_and] at this
        exact this
    · have : (rows.length : Int) ≤ j := by simpa using c
      omega
theorem fnIsLinear_run {T : Nat → Option AF} (H : HasLin T) {k : Nat} (hk : 1000200 ≤ k) {h : AH} {bs : List Int} (hb : ∀ x, x ∈ bs → 0 ≤ x ∧ x < 256) (ok : Ok h) :
    W (run T k 268 [.ro (bs.map (.int .u8)) bs.length] h) fun v _ => v = .bool true := by
  obtain ⟨k, rfl⟩ : ∃ j, k = j + 1 := ⟨k - 1, by omega⟩
  rw [laws_FnIsLinear_run T H.f268]
  simp only [len_ro]
  refine W.bif_ (fun _ => W.ret rfl) fun _ => ?_
  rw [laws_FnIsLinear.J1_eq]
  refine W.call_ (drawIsLinear_ok H (by omega) hb ok) fun v h1 ⟨m, rows, s, nd, hl, sub, ok1⟩ => ?_
  refine W.callB (implIsLinear_ok H.f186 (by omega) s nd (by omega) sub ok1) fun n1 h2 ⟨e1, c2, ok2⟩ => ?_
  have sub2 := sub.keep ok1 c2 (by simp)
  refine W.callB (specIsLinear_ok H.f187 H.f49 (by omega) (s.mono sub2) (fun r hr => by
    obtain ⟨a, b, c, d, x, p0, p1, p2, g, e, l, h, _⟩ := nd r hr; exact ⟨a, _, h⟩) (by omega)) fun n2 h3 ⟨e2, e3⟩ => ?_
  subst e3; subst e1; subst e2
  refine W.bif_ (fun c => ?_) fun _ => ?_
  · simp at c
  · rw [laws_FnIsLinear.J2_eq]
    exact lin_loop H (by omega) s nd hl rows.length k 0 _ (by omega) (by omega) sub2 ok2
end Go.AM
