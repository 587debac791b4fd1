/- Regions: a list of operations in its order, or in whatever order the edges leave. -/
import Derived.Test.YtfcdnfbhoppefaaMJ
namespace Go.AM
set_option linter.unusedVariables false
set_option linter.unusedSimpArgs false
open Go.RowKit
variable {σ : Nat → FuncId} {w0 : World} {ρ ρ' : Mp} {P : Program} {call : Nat → List AV → AH → O}
def okDst : Option Tmp → Option Nat → Bool
  | none, none => true
  | some a, some b => Nat.beq a b
  | _, _ => false
def okOper (P : Program) (σ : Nat → FuncId) (ops : Array Oper) (o : Oper) (a : AOper) : Bool :=
  okDst o.dst a.dst && okOp P σ o.op a.op && (match o.guard with
    | none => match a.guard with
      | none => true
      | some _ => false
    | some (j, want) => match a.guard with
      | none => false
      | some (t, want') => (want == want') && (match ops[j]? with
        | some oj => match oj.dst with
          | some d => Nat.beq d t
          | none => false
        | none => false))
theorem okDst_eq {a : Option Tmp} {b : Option Nat} (h : okDst a b = true) : a = b := by
  cases a <;> cases b <;> simp [okDst] at h
  · rfl
  · rw [h]
/-- What one operation does to its slot and to memory. -/
inductive StepC (call : Nat → List AV → AH → O) (o : AOper) (fr : Fr) (h : AH) : AH → AV → Prop
  | plain (v : AV) (h' : AH) : o.guard = none → aopV call o.sh o.op fr h = some (v, h') → StepC call o fr h h' v
  | on (t : Nat) (b : Bool) (v : AV) (h' : AH) : o.guard = some (t, b) → fr.at t = .bool b → aopV call o.sh o.op fr h = some (v, h') → StepC call o fr h h' v
  | off (t : Nat) (b b' : Bool) : o.guard = some (t, b) → fr.at t = .bool b' → b' ≠ b → StepC call o fr h h .junk
theorem Fr.at_put_same {fr : Fr} {t : Nat} {v : AV} (h : fr.at t = v) (i : Nat) : (fr.put t v).at i = fr.at i := by
  rw [Fr.at_put]
  split
  · rename_i e; rw [e.1, h]
  · rfl
def AO.sl : AO → List Nat
  | .t n => [n]
  | .c _ => []
def AOp.uses : AOp → List Nat
  | .move x | .box x | .load _ x | .nilck x | .isnil _ x | .not x | .neg x | .conv _ x | .mkS _ _ _ x | .fld _ x | .field _ _ x | .extract x _ | .len x | .clear _ _ x => x.sl
  | .pick c a b => c.sl ++ a.sl ++ b.sl
  | .new _ => []
  | .build _ ps | .buildS _ _ _ ps => ps.flatMap fun p => p.2.2.sl
  | .store _ x y | .bin _ x y | .eqa _ x y | .eqb _ x y | .idx _ x y | .idxA _ _ x y | .app _ _ x y | .copy _ x y | .min x y | .max x y => x.sl ++ y.sl
  | .mkfn _ xs | .call _ xs => xs.flatMap AO.sl
  | .callv x xs => x.sl ++ xs.flatMap AO.sl
  | .slice _ x lo hi => x.sl ++ (match lo with | some y => y.sl | none => []) ++ (match hi with | some y => y.sl | none => [])
theorem ev_congr {fr fr' : Fr} {x : AO} (h : ∀ t ∈ x.sl, fr.at t = fr'.at t) : ev fr x = ev fr' x := by
  cases x with
  | t n => exact h n (by simp [AO.sl])
  | c v => rfl
theorem evs_congr {fr fr' : Fr} : ∀ {xs : List AO}, (∀ t ∈ xs.flatMap AO.sl, fr.at t = fr'.at t) → evs fr xs = evs fr' xs
  | [], _ => rfl
  | x :: xs, h => by
    have h1 := ev_congr (x := x) (fun t ht => h t (by simp only [List.flatMap_cons, List.mem_append]; exact .inl ht))
    have h2 := evs_congr (xs := xs) (fun t ht => h t (by simp only [List.flatMap_cons, List.mem_append]; exact .inr ht))
    show ev fr x :: evs fr xs = ev fr' x :: evs fr' xs
    rw [h1, h2]
theorem parts_congr {fr fr' : Fr} : ∀ {xs : List (Nat × Nat × AO)}, (∀ t ∈ xs.flatMap (fun p => p.2.2.sl), fr.at t = fr'.at t) → partsOf fr xs = partsOf fr' xs
  | [], _ => rfl
  | x :: xs, h => by
    have h1 := ev_congr (x := x.2.2) (fun t ht => h t (by simp only [List.flatMap_cons, List.mem_append]; exact .inl ht))
    have h2 := parts_congr (xs := xs) (fun t ht => h t (by simp only [List.flatMap_cons, List.mem_append]; exact .inr ht))
    show (x.1, x.2.1, ev fr x.2.2) :: partsOf fr xs = (x.1, x.2.1, ev fr' x.2.2) :: partsOf fr' xs
    rw [h1, h2]
theorem optI_congr {fr fr' : Fr} {x : Option AO} (h : ∀ t ∈ (match x with | some y => y.sl | none => []), fr.at t = fr'.at t) (K : Option Int → O) : optI fr x K = optI fr' x K := by
  cases x with
  | none => rfl
  | some y =>
    show asI (ev fr y) _ = asI (ev fr' y) _
    rw [ev_congr h]
theorem aopV_congr {sh : ASh} {op : AOp} {fr fr' : Fr} {h : AH} (hu : ∀ t ∈ op.uses, fr.at t = fr'.at t) : aopV call sh op fr h = aopV call sh op fr' h := by
  unfold aopV
  cases op <;> simp only [AOp.uses] at hu <;> simp only [aop]
  case build z ps => rw [parts_congr hu]
  case buildS n s z ps => rw [parts_congr hu]
  case mkfn f xs => rw [evs_congr hu]
  case call f xs => rw [evs_congr hu]
  case callv x xs => rw [ev_congr (x := x) (fun t ht => hu t (List.mem_append_left _ ht)), evs_congr (fun t ht => hu t (List.mem_append_right _ ht))]
  case slice s x lo hi =>
    rw [ev_congr (x := x) (fun t ht => hu t (List.mem_append_left _ (List.mem_append_left _ ht))), optI_congr (fun t ht => hu t (List.mem_append_left _ (List.mem_append_right _ ht)))]
    congr 1
    funext lo
    exact optI_congr (fun t ht => hu t (List.mem_append_right _ ht)) _
  case pick c a b => rw [ev_congr (x := c) (fun t ht => hu t (List.mem_append_left _ (List.mem_append_left _ ht))), ev_congr (x := a) (fun t ht => hu t (List.mem_append_left _ (List.mem_append_right _ ht))), ev_congr (x := b) (fun t ht => hu t (List.mem_append_right _ ht))]
  all_goals first
    | rfl
    | rw [ev_congr hu]
    | (rename_i x y; rw [ev_congr (x := x) (fun t ht => hu t (List.mem_append_left _ ht)), ev_congr (x := y) (fun t ht => hu t (List.mem_append_right _ ht))])
theorem StepR.toC {o : AOper} {fr fr' : Fr} {h h' : AH} {v : AV} (s : StepR call o fr h fr' h' v) : StepC call o fr h h' v ∧ fr'.length = fr.length ∧ (∀ t, fr'.at t = if o.dst = some t ∧ t < fr.length then v else fr.at t) ∧ (ChkAll h' fr o.chk ∨ h' = h) := by
  have put_ : ∀ (fr0 : Fr) (d : Option Nat) (v : AV), fr0.length = fr.length → (∀ t, fr0.at t = fr.at t) → (putO fr0 d v).length = fr.length ∧ ∀ t, (putO fr0 d v).at t = if d = some t ∧ t < fr.length then v else fr.at t := by
    intro fr0 d v hl ha
    cases d with
    | none => exact ⟨hl, fun t => by rw [if_neg (by simp)]; exact ha t⟩
    | some d =>
      refine ⟨by show (fr0.put d v).length = _; rw [Fr.length_put, hl], fun t => ?_⟩
      show (fr0.put d v).at t = _
      rw [Fr.at_put, hl]
      by_cases ht : t = d ∧ d < fr.length
      · rw [if_pos ht, if_pos ⟨by rw [ht.1], by rw [ht.1]; exact ht.2⟩]
      · rw [if_neg ht, if_neg (fun e => ht ⟨by cases e.1; rfl, by cases e.1; exact e.2⟩)]
        exact ha t
  cases s with
  | plain v h' h1 h2 h3 =>
    have := put_ fr o.dst v rfl (fun _ => rfl)
    exact ⟨.plain v h' h1 h2, this.1, this.2, .inl h3⟩
  | on t b v h' h1 h2 h3 h4 =>
    have he : ∀ i, (fr.put t (.bool b)).at i = fr.at i := Fr.at_put_same h2
    have := put_ (fr.put t (.bool b)) o.dst v (Fr.length_put _ _ _) he
    refine ⟨.on t b v h' h1 h2 (by rw [← aopV_congr (fun t _ => he t)]; exact h3), this.1, this.2, .inl ?_⟩
    intro c hc
    have h5 := h4 c hc
    have hp : ev (fr.put t (.bool b)) c.p = ev fr c.p := ev_congr (fun t _ => he t)
    cases hg : c.guard with
    | none => rw [hg] at h5; dsimp only at h5 ⊢; rw [hp, he] at h5; exact h5
    | some g =>
      rw [hg] at h5
      dsimp only at h5 ⊢
      obtain ⟨b2, q1, q2⟩ := h5
      rw [he] at q1
      rw [hp, he] at q2
      exact ⟨b2, q1, q2⟩
  | off t b b' h1 h2 h3 =>
    have he : ∀ i, (fr.put t (.bool b')).at i = fr.at i := Fr.at_put_same h2
    have := put_ (fr.put t (.bool b')) o.dst .junk (Fr.length_put _ _ _) he
    exact ⟨.off t b b' h1 h2 h3, this.1, this.2, .inr rfl⟩
theorem yielded_of {ops : Array Oper} {fr : Fr} {tmps : Array Value} {j t : Nat} {b : Bool} {oj : Oper} (hf : FrR σ w0 ρ fr tmps) (hj : ops[j]? = some oj) (hd : oj.dst = some t) (hv : fr.at t = .bool b) : yielded ops tmps j = some b := by
  have h1 := hf.2 t
  rw [hv] at h1
  have h2 := VR_bool h1
  have h3 : tmps[t]? = some (.bool b) := by
    rw [Array.getD_eq_getD_getElem?] at h2
    cases ht : tmps[t]? with
    | none => rw [ht] at h2; cases h2
    | some x => rw [ht] at h2; rw [← h2]; rfl
  unfold yielded
  rw [hj]
  simp [hd, h3]
/-- One operation of a region. -/
theorem step_sound (hc : CallS P σ w0 call) {ops : Array Oper} {i : Nat} {o : Oper} {ao : AOper} {fr : Fr} {h h' : AH} {v : AV} {a : Act} {w : World} {K : Act → World → Prop} {Q : Exit → Act → World → Prop} (ho : ops[i]? = some o) (hok : okOper P σ ops o ao = true) (hs : StepC call ao fr h h' v) (hf : FrR σ w0 ρ fr a.tmps) (hr : HR σ w0 ρ h w)
    (hK : ∀ ρ' u w', ρ.le ρ' → VR σ w0 ρ' v u → HR σ w0 ρ' h' w' → K (a.put ao.dst u) w') : wpOp P ops Q i K a w := by
  simp only [okOper, Bool.and_eq_true] at hok
  obtain ⟨⟨h1, h2⟩, h3⟩ := hok
  have hd : o.dst = ao.dst := okDst_eq h1
  unfold wpOp
  rw [ho]
  dsimp only
  cases hs with
  | plain v h' g1 g2 =>
    have : o.guard = none := by
      cases hg : o.guard with
      | none => rfl
      | some q => rw [hg, g1] at h3; cases h3
    rw [if_pos (by simp [Region.wanted, this])]
    exact .inl (op_sound hc h2 hf hr g2 (fun ρ' u w' q1 q2 q3 => by rw [hd]; exact hK ρ' u w' q1 q2 q3))
  | on t b v h' g1 g2 g3 =>
    cases hg : o.guard with
    | none => rw [hg, g1] at h3; cases h3
    | some q =>
      obtain ⟨j, want⟩ := q
      rw [hg, g1] at h3
      simp only [Bool.and_eq_true] at h3
      obtain ⟨h4, h5⟩ := h3
      obtain rfl := eq_of_beq h4
      cases hj : ops[j]? with
      | none => rw [hj] at h5; cases h5
      | some oj =>
        rw [hj] at h5
        dsimp only at h5
        cases hdj : oj.dst with
        | none => rw [hdj] at h5; cases h5
        | some d =>
          rw [hdj] at h5
          dsimp only at h5
          obtain rfl := Nat.eq_of_beq_eq_true h5
          have hy := yielded_of hf hj hdj g2
          rw [if_pos (by simp [Region.wanted, hg, hy])]
          exact .inl (op_sound hc h2 hf hr g3 (fun ρ' u w' q1 q2 q3 => by rw [hd]; exact hK ρ' u w' q1 q2 q3))
  | off t b b' g1 g2 g3 =>
    cases hg : o.guard with
    | none => rw [hg, g1] at h3; cases h3
    | some q =>
      obtain ⟨j, want⟩ := q
      rw [hg, g1] at h3
      simp only [Bool.and_eq_true] at h3
      obtain ⟨h4, h5⟩ := h3
      obtain rfl := eq_of_beq h4
      cases hj : ops[j]? with
      | none => rw [hj] at h5; cases h5
      | some oj =>
        rw [hj] at h5
        dsimp only at h5
        cases hdj : oj.dst with
        | none => rw [hdj] at h5; cases h5
        | some d =>
          rw [hdj] at h5
          dsimp only at h5
          obtain rfl := Nat.eq_of_beq_eq_true h5
          have hy := yielded_of hf hj hdj g2
          rw [if_neg (by simp [Region.wanted, hg, hy, g3]), hd]
          exact hK ρ undef w ρ.le_refl (.junk _) hr
theorem FrR.putO {fr : Fr} {a : Act} (h : FrR σ w0 ρ fr a.tmps) (d : Option Nat) {v : AV} {u : Value} (hv : VR σ w0 ρ v u) : FrR σ w0 ρ (putO fr d v) (a.put d u).tmps := by
  cases d with
  | none => exact h
  | some d => exact h.put d hv
theorem put_defers (a : Act) (d : Option Nat) (u : Value) : (a.put d u).defers = a.defers := by cases d <;> rfl
theorem FrR.congr {fr fr' : Fr} {t : Array Value} (h : FrR σ w0 ρ fr t) (hl : fr'.length = fr.length) (ha : ∀ i, fr'.at i = fr.at i) : FrR σ w0 ρ fr' t := ⟨by rw [hl, h.1], fun i => by rw [ha i]; exact h.2 i⟩
/-! ### In its order -/
def okList (P : Program) (σ : Nat → FuncId) (ops : Array Oper) : Nat → List AOper → Bool
  | p, [] => Nat.beq p ops.size
  | p, a :: l => (match ops[p]? with
    | some o => okOper P σ ops o a
    | none => false) && okList P σ ops (p + 1) l
theorem ops_seq (hc : CallS P σ w0 call) {ops : Array Oper} {Q : Exit → Act → World → Prop} : ∀ {l : List AOper} {p : Nat} {ρ : Mp} {fr fr' : Fr} {h h' : AH} {a : Act} {w : World}, OpsR call l fr h fr' h' → okList P σ ops p l = true → FrR σ w0 ρ fr a.tmps → HR σ w0 ρ h w →
    (∀ ρ' a' w', ρ.le ρ' → FrR σ w0 ρ' fr' a'.tmps → a'.defers = a.defers → HR σ w0 ρ' h' w' → Q .normal a' w') → wpOps P ops Q (List.range' p l.length) a w := by
  intro l
  induction l with
  | nil =>
    intro p ρ fr fr' h h' a w hr _ hf hh hQ
    cases hr
    exact hQ ρ a w ρ.le_refl hf rfl hh
  | cons o l ih =>
    intro p ρ fr fr' h h' a w hr hok hf hh hQ
    cases hr with
    | cons s1 s2 =>
      simp only [okList, Bool.and_eq_true] at hok
      obtain ⟨h1, h2⟩ := hok
      cases ho : ops[p]? with
      | none => rw [ho] at h1; cases h1
      | some oo =>
        rw [ho] at h1
        obtain ⟨c1, c2, c3, _⟩ := s1.toC
        rw [List.length_cons, List.range'_succ, wpOps_cons]
        refine step_sound hc ho h1 c1 hf hh (fun ρ' u w' q1 q2 q3 => ?_)
        refine ih s2 h2 ?_ q3 (fun ρ2 a2 w2 r1 r2 r3 r4 => hQ ρ2 a2 w2 (Mp.le_trans q1 r1) r2 (by rw [r3, put_defers]) r4)
        refine FrR.congr ((hf.mono q1).putO o.dst q2) ?_ ?_
        · cases hd : o.dst with
          | none => exact c2
          | some d => rw [c2]; exact (Fr.length_put _ _ _).symm
        · intro t
          rw [c3 t]
          cases hd : o.dst with
          | none => rw [if_neg (by simp)]
          | some d =>
            show _ = (fr.put d _).at t
            rw [Fr.at_put]
            by_cases ht : t = d ∧ d < fr.length
            · rw [if_pos ht, if_pos ⟨by rw [ht.1], by rw [ht.1]; exact ht.2⟩]
            · rw [if_neg ht, if_neg (fun e => ht ⟨by cases e.1; rfl, by cases e.1; exact e.2⟩)]
theorem okList_len {ops : Array Oper} : ∀ {l : List AOper} {p : Nat}, okList P σ ops p l = true → p + l.length = ops.size
  | [], p, h => Nat.eq_of_beq_eq_true h
  | a :: l, p, h => by
    simp only [okList, Bool.and_eq_true] at h
    have := okList_len h.2
    rw [List.length_cons]; omega
theorem region_seq (hc : CallS P σ w0 call) {id : Nat} {ops : Array Oper} {Q : Exit → Act → World → Prop} {l : List AOper} {fr fr' : Fr} {h h' : AH} {a : Act} {w : World} (hr : OpsR call l fr h fr' h') (hok : okList P σ ops 0 l = true) (hf : FrR σ w0 ρ fr a.tmps) (hh : HR σ w0 ρ h w)
    (hQ : ∀ ρ' a' w', ρ.le ρ' → FrR σ w0 ρ' fr' a'.tmps → a'.defers = a.defers → HR σ w0 ρ' h' w' → Q .normal a' w') : (Code.region id ops false).wp P Q a w := by
  refine wp_region ?_
  have := okList_len hok
  rw [Nat.zero_add] at this
  rw [← this, List.range_eq_range']
  exact ops_seq hc hr hok hf hh hQ
end Go.AM
