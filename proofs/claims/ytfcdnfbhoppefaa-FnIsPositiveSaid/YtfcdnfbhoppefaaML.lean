/- Regions that draw their order. -/
import Derived.Test.YtfcdnfbhoppefaaMK
namespace Go.AM
set_option linter.unusedVariables false
set_option linter.unusedSimpArgs false
open Go.RowKit
variable {σ : Nat → FuncId} {w0 : World} {ρ ρ' : Mp} {P : Program} {call : Nat → List AV → AH → O}
def isLoad : AOp → Bool
  | .load _ _ => true
  | _ => false
theorem quiet_heap {sh : ASh} {op : AOp} {fr : Fr} {h h' : AH} {v : AV} (hq : quiet op = true) (hv : aopV call sh op fr h = some (v, h')) : h' = h := by
  unfold aopV at hv
  cases op <;> try (cases hq; done)
  case move y => cases hv; rfl
  case pick c x y => obtain ⟨b, _, hv⟩ := asB_some hv; cases b <;> cases hv <;> rfl
  case build z qs => obtain ⟨cs, _, hv⟩ := Option.bind_eq_some_iff.1 (show (fillA z (partsOf fr qs)).bind (fun cs => some (AV.agg cs, h)) = some (v, h') from hv); cases hv; rfl
  case load n y => obtain ⟨x, _, hv⟩ := Option.bind_eq_some_iff.1 (show (aLd h n (ev fr y)).bind (fun v => asSh sh v fun v => some (v, h)) = some (v, h') from hv); exact (asSh_v hv).1
  case nilck y =>
    have hv : (pNil (ev fr y) fun v => some (v, h)) = some (v, h') := hv
    unfold pNil at hv
    split at hv <;> cases hv <;> rfl
  case bin o x y =>
    obtain ⟨k, m, _, hv⟩ := asI_some hv
    obtain ⟨k', n, _, hv⟩ := asI_some hv
    cases o <;> simp only [pBin, pShift] at hv <;> first
      | (have h2 := (cond_some hv).2; cases h2; rfl)
      | (have h2 := (cond_some hv).2; split at h2 <;> cases h2; rfl)
      | (split at hv <;> cases hv; rfl)
  case eqa ng x y =>
    have hv : (pEq (ev fr x) (ev fr y) fun t => some (AV.bool (t != ng), h)) = some (v, h') := hv
    unfold pEq at hv
    split at hv
    · obtain ⟨_, _, hv⟩ := Option.bind_eq_some_iff.1 hv; cases hv; rfl
    · cases hv
  case eqb ng x y =>
    obtain ⟨_, _, hv⟩ := asB_some hv
    obtain ⟨_, _, hv⟩ := asB_some hv
    cases hv; rfl
  case isnil ng x =>
    have hv : (pIsNil (ev fr x) fun t => some (AV.bool (t != ng), h)) = some (v, h') := hv
    unfold pIsNil at hv
    split at hv <;> cases hv <;> rfl
  case not x => obtain ⟨_, _, hv⟩ := asB_some hv; cases hv; rfl
  case neg x => obtain ⟨_, _, _, hv⟩ := asI_some hv; cases hv; rfl
  case conv k x => obtain ⟨_, _, _, hv⟩ := asI_some hv; cases hv; rfl
  case mkfn f xs => cases hv; rfl
  case slice s x lo hi =>
    have hv : (optI fr lo fun lo => optI fr hi fun hi => pSlice s (ev fr x) lo hi fun v => some (v, h)) = some (v, h') := hv
    have key : ∀ L U, (pSlice s (ev fr x) L U fun v => some (v, h)) = some (v, h') → h' = h := by
      intro L U hv
      obtain ⟨_, _, hv⟩ := Option.bind_eq_some_iff.1 (show (aSlice s (ev fr x) L U).bind (fun v => some (v, h)) = some (v, h') from hv)
      cases hv; rfl
    rcases optI_some hv with ⟨_, hv1⟩ | ⟨_, _, _, _, _, hv1⟩ <;> rcases optI_some hv1 with ⟨_, hv2⟩ | ⟨_, _, _, _, _, hv2⟩ <;> exact key _ _ hv2
  case fld o p => obtain ⟨_, _, hv⟩ := Option.bind_eq_some_iff.1 (show (aFld o (ev fr p)).bind (fun v => some (v, h)) = some (v, h') from hv); cases hv; rfl
  case field o n x => obtain ⟨_, _, hv⟩ := Option.bind_eq_some_iff.1 (show (aField o n (ev fr x)).bind (fun v => asSh sh v fun v => some (v, h)) = some (v, h') from hv); exact (asSh_v hv).1
  case idx s x i =>
    obtain ⟨_, n, _, hv⟩ := asI_some hv
    obtain ⟨_, _, hv⟩ := Option.bind_eq_some_iff.1 (show (aIdx s (ev fr x) n).bind (fun v => some (v, h)) = some (v, h') from hv); cases hv; rfl
  case idxA l s x i =>
    obtain ⟨_, n, _, hv⟩ := asI_some hv
    obtain ⟨_, _, hv⟩ := Option.bind_eq_some_iff.1 (show (aIdxA l s (ev fr x) n).bind (fun v => some (v, h)) = some (v, h') from hv); cases hv; rfl
  case extract x i =>
    have hv : (pExtract (ev fr x) i fun v => asSh sh v fun v => some (v, h)) = some (v, h') := hv
    unfold pExtract at hv
    split at hv
    · obtain ⟨_, _, hv⟩ := Option.bind_eq_some_iff.1 hv; exact (asSh_v hv).1
    · cases hv
  case len x => obtain ⟨_, _, hv⟩ := Option.bind_eq_some_iff.1 (show (slen (ev fr x)).bind (fun n => some (AV.int .i64 n, h)) = some (v, h') from hv); cases hv; rfl
  case min x y =>
    obtain ⟨_, _, _, hv⟩ := asI_some hv
    obtain ⟨_, _, _, hv⟩ := asI_some hv
    cases hv; rfl
  case max x y =>
    obtain ⟨_, _, _, hv⟩ := asI_some hv
    obtain ⟨_, _, _, hv⟩ := asI_some hv
    cases hv; rfl
/-- What a quiet operation that loads nothing yields does not hang on memory. -/
theorem quiet_pure {sh : ASh} {op : AOp} {fr : Fr} {h h2 : AH} {v : AV} (hq : quiet op = true) (hl : isLoad op = false) (hv : aopV call sh op fr h = some (v, h)) : aopV call sh op fr h2 = some (v, h2) := by
  have key : ∀ (X : AH → O), (∀ h, X h = (X h2).map fun p => (p.1, h)) → X h = some (v, h) → X h2 = some (v, h2) := by
    intro X hX hx
    have h1 := hX h
    have h3 := hX h2
    rw [hx] at h1
    cases hx2 : X h2 with
    | none => rw [hx2] at h1; cases h1
    | some p =>
      rw [hx2] at h1 h3
      simp only [Option.map_some, Option.some.injEq, Prod.mk.injEq, and_true] at h1 h3
      rw [h3, ← h1]
  refine key (fun h => aopV call sh op fr h) (fun h => ?_) hv
  have aB : ∀ (v : AV) (K : AH → Bool → O), (∀ b, K h b = (K h2 b).map fun p => (p.1, h)) → asB v (K h) = (asB v (K h2)).map fun p => (p.1, h) := by
    intro v K hK; cases v <;> first | exact hK _ | rfl
  have aI : ∀ (v : AV) (K : AH → IntKind → Int → O), (∀ k n, K h k n = (K h2 k n).map fun p => (p.1, h)) → asI v (K h) = (asI v (K h2)).map fun p => (p.1, h) := by
    intro v K hK; cases v <;> first | exact hK _ _ | rfl
  have bd : ∀ {α : Type} (x : Option α) (K : AH → α → O), (∀ b, K h b = (K h2 b).map fun p => (p.1, h)) → x.bind (K h) = (x.bind (K h2)).map fun p => (p.1, h) := by
    intro α x K hK; cases x <;> first | exact hK _ | rfl
  have sh_ : ∀ (v : AV), (asSh sh v fun v => some (v, h)) = (asSh sh v fun v => some (v, h2)).map fun p => (p.1, h) := by
    intro v
    cases sh with
    | any => rfl
    | bool => cases v <;> rfl
    | int k =>
      cases v <;> try rfl
      simp only [asSh, asK]
      cases kEq k _ <;> rfl
  show aop call sh op fr h _ = (aop call sh op fr h2 _).map _
  cases op <;> try (cases hq; done)
  case load => cases hl
  case move y => rfl
  case pick c x y => exact aB _ (fun h t => bif t then some (ev fr x, h) else some (ev fr y, h)) (fun b => by cases b <;> rfl)
  case build z qs => exact bd _ (fun h cs => some (AV.agg cs, h)) (fun _ => rfl)
  case nilck y => simp only [aop, pNil]; cases ev fr y <;> rfl
  case bin o x y =>
    refine aI _ (fun h k a => asI (ev fr y) fun k' b => pBin o k k' a b fun v => some (v, h)) (fun k m => aI _ (fun h k' b => pBin o k k' m b fun v => some (v, h)) (fun k' n => ?_))
    cases o <;> simp only [pBin, pShift] <;> first
      | (cases kEq k k' <;> rfl)
      | (cases kEq k k' <;> simp only [cond_true, cond_false] <;> first | rfl | (split <;> rfl))
      | (split <;> rfl)
  case eqa ng x y => simp only [aop, pEq]; split <;> first | exact bd _ (fun h t => some (AV.bool (t != ng), h)) (fun _ => rfl) | rfl
  case eqb ng x y => exact aB _ (fun h a => asB (ev fr y) fun b => some (AV.bool ((a == b) != ng), h)) (fun a => aB _ (fun h b => some (AV.bool ((a == b) != ng), h)) (fun _ => rfl))
  case isnil ng x => simp only [aop, pIsNil]; cases ev fr x <;> rfl
  case not x => exact aB _ (fun h t => some (AV.bool (!t), h)) (fun _ => rfl)
  case neg x => exact aI _ (fun h k n => some (AV.int k (k.wrap (0 - n)), h)) (fun _ _ => rfl)
  case conv k x => exact aI _ (fun h _ n => some (AV.int k (k.wrap n), h)) (fun _ _ => rfl)
  case mkfn f xs => rfl
  case slice s x lo hi =>
    have oI : ∀ (x : Option AO) (K : AH → Option Int → O), (∀ b, K h b = (K h2 b).map fun p => (p.1, h)) → optI fr x (K h) = (optI fr x (K h2)).map fun p => (p.1, h) := by
      intro x K hK
      cases x with
      | none => exact hK _
      | some y => exact aI _ (fun h _ n => K h (some n)) (fun _ _ => hK _)
    exact oI lo (fun h lo => optI fr hi fun hi => pSlice s (ev fr x) lo hi fun v => some (v, h)) (fun lo => oI hi (fun h hi => pSlice s (ev fr x) lo hi fun v => some (v, h)) (fun hi => bd _ (fun h v => some (v, h)) (fun _ => rfl)))
  case fld o p => exact bd _ (fun h v => some (v, h)) (fun _ => rfl)
  case field o n x => exact bd _ (fun h v => asSh sh v fun v => some (v, h)) (fun v => sh_ v)
  case idx s x i => exact aI _ (fun h _ i => pIdx s (ev fr x) i fun v => some (v, h)) (fun _ i => bd _ (fun h v => some (v, h)) (fun _ => rfl))
  case idxA l s x i => exact aI _ (fun h _ i => pIdxA l s (ev fr x) i fun v => some (v, h)) (fun _ i => bd _ (fun h v => some (v, h)) (fun _ => rfl))
  case extract x i => simp only [aop, pExtract]; split <;> first | exact bd _ (fun h v => asSh sh v fun v => some (v, h)) (fun v => sh_ v) | rfl
  case len x => exact bd _ (fun h (n : Nat) => some (AV.int .i64 n, h)) (fun _ => rfl)
  case min x y => exact aI _ (fun h k a => asI (ev fr y) fun _ b => some (AV.int k (if b < a then b else a), h)) (fun k a => aI _ (fun h _ b => some (AV.int k (if b < a then b else a), h)) (fun _ _ => rfl))
  case max x y => exact aI _ (fun h k a => asI (ev fr y) fun _ b => some (AV.int k (if b > a then b else a), h)) (fun k a => aI _ (fun h _ b => some (AV.int k (if b > a then b else a), h)) (fun _ _ => rfl))
/-! ### What is checked of a region that draws -/
def looks (o : AOper) : List Nat := o.op.uses ++ (match o.guard with | some (t, _) => [t] | none => [])
def loud (o : AOper) : Bool := !quiet o.op
def ancU (A : List Nat) (o : Oper) : Nat := o.after.toList.foldl (fun s e => if Region.binds .any e then s ||| 2 ^ e.on ||| A.getD e.on 0 else s) 0
def guardEq (a b : Option (Nat × Bool)) : Bool := match a, b with
  | none, none => true
  | some (t, x), some (u, y) => Nat.beq t u && (x == y)
  | _, _ => false
def aoEq : AO → AO → Bool
  | .t n, .t m => Nat.beq n m
  | _, _ => false
def nEq : Option Nat → Option Nat → Bool
  | none, none => true
  | some a, some b => Nat.beq a b
  | _, _ => false
def hasChk (a : AOper) (cs : List Chk) : Bool := match a.op with
  | .load n p => cs.any fun c => (match a.dst with | some d => Nat.beq d c.dst | none => false) && nEq n c.n && aoEq p c.p && guardEq a.guard c.guard
  | _ => false
def memB (d : Option Nat) (l : List Nat) : Bool := match d with
  | some d => l.any (Nat.beq d)
  | none => false
/-- a comes before b in the machine's order. -/
def pairOk (A : List Nat) (a b : AOper) : Bool :=
  !((A.getD a.ix 0).testBit b.ix) &&
  ((A.getD b.ix 0).testBit a.ix || (!loud a && !(memB a.dst (looks b)) && !(memB b.dst (looks a)) && (!(isLoad a.op) || !loud b || hasChk a b.chk))) &&
  (match a.dst, b.dst with
    | some d, some e => !(Nat.beq d e)
    | _, _ => true) &&
  (!(isLoad a.op) || !(memB b.dst (looks a))) && !(Nat.beq a.ix b.ix)
def pairsOk (A : List Nat) : List AOper → Bool
  | [] => true
  | a :: l => l.all (pairOk A a) && !(memB a.dst (looks a)) && pairsOk A l
def okDrawn (P : Program) (σ : Nat → FuncId) (N : Nat) (ops : Array Oper) (A : List Nat) (l : List AOper) : Bool :=
  l.all (fun a => match a.dst with | some d => Nat.blt d N | none => true) &&
  Nat.beq l.length ops.size &&
  l.all (fun a => match ops[a.ix]? with
    | some o => okOper P σ ops o a && Nat.beq (A.getD a.ix 0) (ancU A o) && o.after.toList.all (fun e => !(Region.binds .any e) || Nat.blt e.on a.ix)
    | none => false) &&
  (List.range ops.size).all (fun i => l.any fun a => Nat.beq a.ix i) &&
  pairsOk A l
theorem OpsR.trace : ∀ {l : List AOper} {fr fr' : Fr} {h h' : AH}, OpsR call l fr h fr' h' → ∃ (frs : Nat → Fr) (hs : Nat → AH) (vs : Nat → AV), frs 0 = fr ∧ hs 0 = h ∧ frs l.length = fr' ∧ hs l.length = h' ∧ ∀ p, p < l.length → StepR call (l.getD p default) (frs p) (hs p) (frs (p + 1)) (hs (p + 1)) (vs p) := by
  intro l
  induction l with
  | nil => intro fr fr' h h' hr; cases hr; exact ⟨fun _ => fr, fun _ => h, fun _ => .junk, rfl, rfl, rfl, rfl, fun p hp => by simp at hp⟩
  | cons o l ih =>
    intro fr fr' h h' hr
    cases hr with
    | cons s1 s2 =>
      rename_i fr1 h1 v
      obtain ⟨frs, hs, vs, e1, e2, e3, e4, e5⟩ := ih s2
      refine ⟨fun p => match p with | 0 => fr | p + 1 => frs p, fun p => match p with | 0 => h | p + 1 => hs p, fun p => match p with | 0 => v | p + 1 => vs p, rfl, rfl, e3, e4, fun p hp => ?_⟩
      cases p with
      | zero => simp only [List.getD_cons_zero, e1, e2]; exact s1
      | succ p => simp only [List.getD_cons_succ]; exact e5 p (by simpa using hp)
theorem pairsOk_get {A : List Nat} : ∀ {l : List AOper}, pairsOk A l = true → (∀ p q, p < q → q < l.length → pairOk A (l.getD p default) (l.getD q default) = true) ∧ ∀ p, p < l.length → memB (l.getD p default).dst (looks (l.getD p default)) = false := by
  intro l
  induction l with
  | nil => intro _; exact ⟨fun p q _ h => by simp at h, fun p h => by simp at h⟩
  | cons a l ih =>
    intro h
    simp only [pairsOk, Bool.and_eq_true, Bool.not_eq_true', List.all_eq_true] at h
    obtain ⟨⟨h1, h2⟩, h3⟩ := h
    obtain ⟨h4, h5⟩ := ih h3
    refine ⟨fun p q hpq hq => ?_, fun p hp => ?_⟩
    · obtain ⟨q, rfl⟩ : ∃ r, q = r + 1 := ⟨q - 1, by omega⟩
      have hq' : q < l.length := by simpa using hq
      cases p with
      | zero =>
        simp only [List.getD_cons_zero, List.getD_cons_succ]
        refine h1 _ ?_
        rw [List.getD_eq_getElem?_getD, List.getElem?_eq_getElem hq']
        exact List.getElem_mem _
      | succ p => simp only [List.getD_cons_succ]; exact h4 p q (by omega) hq'
    · cases p with
      | zero => exact h2
      | succ p => simp only [List.getD_cons_succ]; exact h5 p (by simpa using hp)
theorem memB_false {d : Option Nat} {l : List Nat} (h : memB d l = false) : ∀ t ∈ l, d ≠ some t := by
  intro t ht e
  subst e
  simp only [memB, List.any_eq_false] at h
  exact h t ht (Nat.beq_refl t)
theorem memB_true {d : Option Nat} {l : List Nat} {t : Nat} (hd : d = some t) (ht : t ∈ l) : memB d l = true := by
  subst hd
  simp only [memB, List.any_eq_true]
  exact ⟨t, ht, Nat.beq_refl t⟩
/-- Ancestors by the bits: closed sets hold them. -/
theorem foldU (A : List Nat) (j : Nat) : ∀ (es : List Edge) (s : Nat), (es.foldl (fun s e => if Region.binds .any e then s ||| 2 ^ e.on ||| A.getD e.on 0 else s) s).testBit j = true →
    s.testBit j = true ∨ ∃ e ∈ es, Region.binds .any e = true ∧ (e.on = j ∨ (A.getD e.on 0).testBit j = true)
  | [], s, h => .inl h
  | e :: es, s, h => by
    rw [List.foldl_cons] at h
    rcases foldU A j es _ h with h1 | ⟨e', h1, h2⟩
    · split at h1
      · rename_i hb
        rw [Nat.testBit_or, Nat.testBit_or, Nat.testBit_two_pow] at h1
        simp only [Bool.or_eq_true, decide_eq_true_eq] at h1
        rcases h1 with (h1 | h1) | h1
        · exact .inl h1
        · exact .inr ⟨e, List.mem_cons_self .., hb, .inl h1⟩
        · exact .inr ⟨e, List.mem_cons_self .., hb, .inr h1⟩
      · exact .inl h1
    · exact .inr ⟨e', List.mem_cons_of_mem _ h1, h2⟩
theorem foldU_edge (A : List Nat) : ∀ (es : List Edge) (s : Nat) (e : Edge), e ∈ es → Region.binds .any e = true → (es.foldl (fun s e => if Region.binds .any e then s ||| 2 ^ e.on ||| A.getD e.on 0 else s) s).testBit e.on = true := by
  have mono : ∀ (es : List Edge) (s j : Nat), s.testBit j = true → (es.foldl (fun s e => if Region.binds .any e then s ||| 2 ^ e.on ||| A.getD e.on 0 else s) s).testBit j = true := by
    intro es
    induction es with
    | nil => intro s j h; exact h
    | cons e es ih =>
      intro s j h
      rw [List.foldl_cons]
      refine ih _ j ?_
      split
      · rw [Nat.testBit_or, Nat.testBit_or, h]; rfl
      · exact h
  intro es
  induction es with
  | nil => intro s e h; cases h
  | cons e' es ih =>
    intro s e he hb
    rw [List.foldl_cons]
    rcases List.mem_cons.1 he with rfl | he
    · refine mono es _ _ ?_
      rw [if_pos hb, Nat.testBit_or, Nat.testBit_or, Nat.testBit_two_pow]
      simp
    · exact ih _ e he hb
theorem hasChk_get {a : AOper} {cs : List Chk} (h : hasChk a cs = true) : ∃ n p d, a.op = .load n p ∧ a.dst = some d ∧ ∃ c ∈ cs, c.dst = d ∧ c.n = n ∧ c.p = p ∧ c.guard = a.guard ∧ ∃ t, p = .t t := by
  unfold hasChk at h
  split at h
  · rename_i n p hop
    obtain ⟨c, hc, h1⟩ := List.any_eq_true.1 h
    simp only [Bool.and_eq_true] at h1
    obtain ⟨⟨⟨h2, h3⟩, h4⟩, h5⟩ := h1
    cases hd : a.dst with
    | none => rw [hd] at h2; cases h2
    | some d =>
      rw [hd] at h2
      have e1 := Nat.eq_of_beq_eq_true h2
      have e2 : c.n = n := by
        cases n <;> cases hcn : c.n <;> rw [hcn] at h3 <;> simp [nEq] at h3
        rw [h3]
      have e3 : c.p = p ∧ ∃ t, p = .t t := by
        cases p with
        | t m =>
          cases hcp : c.p with
          | t k =>
            rw [hcp] at h4
            have := Nat.eq_of_beq_eq_true h4
            exact ⟨by rw [this], m, rfl⟩
          | c _ => rw [hcp] at h4; cases h4
        | c _ => cases h4
      have e4 : c.guard = a.guard := by
        cases hg : a.guard with
        | none =>
          cases hcg : c.guard with
          | none => rfl
          | some q => rw [hg, hcg] at h5; cases h5
        | some g =>
          obtain ⟨t, x⟩ := g
          cases hcg : c.guard with
          | none => rw [hg, hcg] at h5; cases h5
          | some q =>
            obtain ⟨u, y⟩ := q
            rw [hg, hcg] at h5
            simp only [guardEq, Bool.and_eq_true] at h5
            rw [Nat.eq_of_beq_eq_true h5.1, eq_of_beq h5.2]
      exact ⟨n, p, d, hop, rfl, c, hc, e1.symm, e2, e3.1, e4, e3.2⟩
  · cases h
theorem StepC.inv {o : AOper} {fr : Fr} {h h' : AH} {v : AV} (s : StepC call o fr h h' v) : (o.guard = none ∧ aopV call o.sh o.op fr h = some (v, h')) ∨ (∃ t b, o.guard = some (t, b) ∧ fr.at t = .bool b ∧ aopV call o.sh o.op fr h = some (v, h')) ∨ (∃ t b b', o.guard = some (t, b) ∧ fr.at t = .bool b' ∧ b' ≠ b ∧ v = .junk ∧ h' = h) := by
  cases s with
  | plain v h' h1 h2 => exact .inl ⟨h1, h2⟩
  | on t b v h' h1 h2 h3 => exact .inr (.inl ⟨t, b, h1, h2, h3⟩)
  | off t b b' h1 h2 h3 => exact .inr (.inr ⟨t, b, b', h1, h2, h3, rfl, rfl⟩)
theorem StepC.congr {o : AOper} {fr fr' : Fr} {h h' : AH} {v : AV} (s : StepC call o fr h h' v) (hl : ∀ t ∈ looks o, fr.at t = fr'.at t) : StepC call o fr' h h' v := by
  have hu : ∀ t ∈ o.op.uses, fr.at t = fr'.at t := fun t ht => hl t (List.mem_append_left _ ht)
  cases s with
  | plain v h' h1 h2 => exact .plain v h' h1 (by rw [← aopV_congr hu]; exact h2)
  | on t b v h' h1 h2 h3 =>
    have hg : fr.at t = fr'.at t := hl t (List.mem_append_right _ (by rw [h1]; exact List.mem_singleton.2 rfl))
    exact .on t b v h' h1 (by rw [← hg]; exact h2) (by rw [← aopV_congr hu]; exact h3)
  | off t b b' h1 h2 h3 =>
    have hg : fr.at t = fr'.at t := hl t (List.mem_append_right _ (by rw [h1]; exact List.mem_singleton.2 rfl))
    exact .off t b b' h1 (by rw [← hg]; exact h2) h3
theorem StepC.quiet {o : AOper} {fr : Fr} {h h' : AH} {v : AV} (s : StepC call o fr h h' v) (hq : loud o = false) : h' = h := by
  have hq' : AM.quiet o.op = true := by simpa [loud] using hq
  cases s with
  | plain v h' h1 h2 => exact quiet_heap hq' h2
  | on t b v h' h1 h2 h3 => exact quiet_heap hq' h3
  | off => rfl
end Go.AM
