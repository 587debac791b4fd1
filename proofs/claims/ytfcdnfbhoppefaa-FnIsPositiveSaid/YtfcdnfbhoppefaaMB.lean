/- The machine in direct form: an operation's value and memory, a piece of code's end; the continuation form follows from it. -/
import Derived.Test.YtfcdnfbhoppefaaMA
namespace Go.AM
set_option linter.unusedVariables false
set_option linter.unusedSimpArgs false
variable {call : Nat → List AV → AH → O}
noncomputable def aopV (call : Nat → List AV → AH → O) (sh : ASh) (op : AOp) (fr : Fr) (h : AH) : O := aop call sh op fr h fun v h => some (v, h)
theorem asB_nat {v : AV} {K : Bool → O} : asB v K = none ∨ ∃ b, v = .bool b ∧ asB v K = K b := by
  cases v <;> simp [asB]
theorem asSh_nat {sh : ASh} {v : AV} {K : AV → O} : asSh sh v K = (asSh sh v fun v => some (v, ⟨fun _ => none, 0⟩)).bind fun p => K p.1 := by
  cases sh with
  | any => rfl
  | bool => cases v <;> rfl
  | int k =>
    cases v <;> try rfl
    simp only [asSh, asK]
    cases kEq k _ <;> rfl
theorem asSh_nat' {sh : ASh} {v : AV} {h : AH} {K : AV → AH → O} : (asSh sh v fun v => K v h) = (asSh sh v fun v => some (v, h)).bind fun p => K p.1 p.2 := by
  cases sh with
  | any => rfl
  | bool => cases v <;> rfl
  | int k =>
    cases v <;> try rfl
    simp only [asSh, asK]
    cases kEq k _ <;> rfl
theorem asI_nat {v : AV} {K : IntKind → Int → O} {L : IntKind → Int → O} {g : AV × AH → O} (h : ∀ k n, K k n = (L k n).bind g) : asI v K = (asI v L).bind g := by
  cases v <;> first | exact h _ _ | rfl
theorem asBB_nat {v : AV} {K : Bool → O} {L : Bool → O} {g : AV × AH → O} (h : ∀ b, K b = (L b).bind g) : asB v K = (asB v L).bind g := by
  cases v <;> first | exact h _ | rfl
theorem pBin_nat {o : ABin} {k k' : IntKind} {a b : Int} {K L : AV → O} {g : AV × AH → O} (h : ∀ v, K v = (L v).bind g) : pBin o k k' a b K = (pBin o k k' a b L).bind g := by
  have sh : ∀ (o : ABin) (K L : Int → O), (∀ n, K n = (L n).bind g) → pShift o k a b K = (pShift o k a b L).bind g := by
    intro o K L h
    unfold pShift
    split
    · rfl
    · split <;> exact h _
  cases o <;> simp only [pBin] <;> first | (cases kEq k k' <;> first | rfl | exact h _ | (dsimp only [cond]; split <;> first | rfl | exact h _)) | exact sh _ _ _ fun n => h _
theorem optI_nat {fr : Fr} {x : Option AO} {K L : Option Int → O} {g : AV × AH → O} (h : ∀ v, K v = (L v).bind g) : optI fr x K = (optI fr x L).bind g := by
  cases x with
  | none => exact h _
  | some x => exact asI_nat fun _ n => h _
theorem aop_nat {sh : ASh} {op : AOp} {fr : Fr} {h : AH} {K : AV → AH → O} : aop call sh op fr h K = (aopV call sh op fr h).bind fun p => K p.1 p.2 := by
  unfold aopV
  cases op with
  | move x => rfl
  | pick c a b => exact asBB_nat fun b => by cases b <;> rfl
  | new cs => rfl
  | box x => simp only [aop, pCells, pNew]; cases cellsOf _ <;> rfl
  | build z ps => simp only [aop, pFill]; cases fillA _ _ <;> rfl
  | buildS n s z ps => simp only [aop, pFill, pNew]; cases fillA _ _ <;> rfl
  | load n p => simp only [aop, pLd]; cases aLd _ _ _ with
    | none => rfl
    | some v => exact asSh_nat'
  | store n p x => simp only [aop, pSt]; cases aSt _ _ _ _ <;> rfl
  | nilck x => simp only [aop, pNil]; cases ev fr x <;> rfl
  | bin o x y => exact asI_nat fun _ _ => asI_nat fun _ _ => pBin_nat fun _ => rfl
  | eqa ng x y =>
    simp only [aop, pEq]
    cases ev fr x <;> cases ev fr y <;> first | rfl | (dsimp only; cases eqF _ _ <;> rfl)
  | eqb ng x y => exact asBB_nat fun _ => asBB_nat fun _ => rfl
  | isnil ng x => simp only [aop, pIsNil]; cases ev fr x <;> rfl
  | not x => exact asBB_nat fun b => rfl
  | neg x => exact asI_nat fun _ _ => rfl
  | conv k x => exact asI_nat fun _ _ => rfl
  | mkfn f cs => rfl
  | mkS s b z n => refine asI_nat fun _ _ => ?_; simp only [pMkS]; cases aMkS _ _ _ _ _ <;> rfl
  | slice s x lo hi =>
    simp only [aop]
    refine optI_nat fun _ => optI_nat fun _ => ?_
    simp only [pSlice]; cases aSlice _ _ _ _ <;> rfl
  | fld o p => simp only [aop, pFld]; cases aFld _ _ <;> rfl
  | field o n x => simp only [aop, pField]; cases aField _ _ _ with
    | none => rfl
    | some v => exact asSh_nat'
  | idx s x i => refine asI_nat fun _ _ => ?_; simp only [pIdx]; cases aIdx _ _ _ <;> rfl
  | idxA l s x i => refine asI_nat fun _ _ => ?_; simp only [pIdxA]; cases aIdxA _ _ _ _ <;> rfl
  | extract x i =>
    simp only [aop, pExtract]
    cases ev fr x <;> first | rfl | skip
    rename_i vs
    dsimp only
    cases vs[i]? with
    | none => rfl
    | some v => exact asSh_nat'
  | call f xs =>
    cases sh <;> simp only [aop, pCall, pCallI, pCallB] <;> cases call f _ h with
    | none => rfl
    | some p => first | rfl | (rcases p with ⟨v, h'⟩; cases v <;> first | rfl | (simp only [Option.bind_some, asK]; cases kEq _ _ <;> rfl))
  | callv f xs =>
    simp only [aop, pFun]
    cases ev fr f <;> first | rfl | skip
    cases sh <;> simp only [pCall, pCallI, pCallB] <;> cases call _ _ h with
    | none => rfl
    | some p => first | rfl | (rcases p with ⟨v, h'⟩; cases v <;> first | rfl | (simp only [Option.bind_some, asK]; cases kEq _ _ <;> rfl))
  | len x => simp only [aop, pLen]; cases slen _ <;> rfl
  | app s b x y => simp only [aop, pApp]; cases aApp _ _ _ _ _ <;> rfl
  | clear s z x => simp only [aop, pClear]; cases aClear _ _ _ _ <;> rfl
  | copy _ _ _ => rfl
  | min x y => exact asI_nat fun _ _ => asI_nat fun _ _ => rfl
  | max x y => exact asI_nat fun _ _ => asI_nat fun _ _ => rfl

/-! ### Steps, code -/
abbrev OV := Option (Fr × AH)
/-- Loads that were made before are as they were. -/
def ChkAll (h' : AH) (fr : Fr) (cs : List Chk) : Prop := ∀ c ∈ cs, match c.guard with
  | none => aLd h' c.n (ev fr c.p) = some (fr.at c.dst)
  | some (t, want) => ∃ b, fr.at t = .bool b ∧ (b = want → aLd h' c.n (ev fr c.p) = some (fr.at c.dst))
theorem need_some {p : Prop} {x : O} {r : AV × AH} (h : need p x = some r) : p ∧ x = some r := by
  unfold need at h
  split at h
  · exact ⟨by assumption, h⟩
  · cases h
theorem rechk_some {h' : AH} {fr : Fr} {x : O} {r : AV × AH} : ∀ {cs : List Chk}, rechk h' fr cs x = some r → ChkAll h' fr cs ∧ x = some r := by
  intro cs
  induction cs with
  | nil => intro h; exact ⟨fun c hc => (by cases hc), h⟩
  | cons c cs ih =>
    intro h
    unfold rechk at h
    cases hg : c.guard with
    | none =>
      rw [hg] at h
      obtain ⟨h1, h2⟩ := need_some h
      obtain ⟨h3, h4⟩ := ih h2
      refine ⟨fun d hd => ?_, h4⟩
      rcases List.mem_cons.1 hd with rfl | hd
      · rw [hg]; exact h1
      · exact h3 d hd
    | some g =>
      obtain ⟨t, want⟩ := g
      rw [hg] at h
      dsimp only at h
      cases hv : fr.at t with
      | bool b =>
        simp only [hv, asB] at h
        have key : (b = want → aLd h' c.n (ev fr c.p) = some (fr.at c.dst)) ∧ rechk h' fr cs x = some r := by
          cases b <;> cases want <;> simp only [cond_true, cond_false] at h
          · have := need_some h; exact ⟨fun _ => this.1, this.2⟩
          · exact ⟨fun e => (by cases e), h⟩
          · exact ⟨fun e => (by cases e), h⟩
          · have := need_some h; exact ⟨fun _ => this.1, this.2⟩
        obtain ⟨h3, h4⟩ := ih key.2
        refine ⟨fun d hd => ?_, h4⟩
        rcases List.mem_cons.1 hd with rfl | hd
        · rw [hg]; exact ⟨b, hv, key.1⟩
        · exact h3 d hd
      | _ => simp only [hv, asB] at h; cases h
/-- What one operation does: a value for its slot, memory. The guard's slot holds what it held. -/
inductive StepR (call : Nat → List AV → AH → O) (o : AOper) (fr : Fr) (h : AH) : Fr → AH → AV → Prop
  | plain (v : AV) (h' : AH) : o.guard = none → aopV call o.sh o.op fr h = some (v, h') → ChkAll h' fr o.chk → StepR call o fr h (putO fr o.dst v) h' v
  | on (t : Nat) (b : Bool) (v : AV) (h' : AH) : o.guard = some (t, b) → fr.at t = .bool b → aopV call o.sh o.op (fr.put t (.bool b)) h = some (v, h') → ChkAll h' (fr.put t (.bool b)) o.chk → StepR call o fr h (putO (fr.put t (.bool b)) o.dst v) h' v
  | off (t : Nat) (b b' : Bool) : o.guard = some (t, b) → fr.at t = .bool b' → b' ≠ b → StepR call o fr h (putO (fr.put t (.bool b')) o.dst .junk) h .junk
theorem stepO_some {o : AOper} {K : Fr → AH → O} {fr : Fr} {h : AH} {r : AV × AH} (hs : stepO call o K fr h = some r) : ∃ fr' h' v, StepR call o fr h fr' h' v ∧ K fr' h' = some r := by
  have G : ∀ fr, stepG call o K fr h = some r → ∃ v h', aopV call o.sh o.op fr h = some (v, h') ∧ ChkAll h' fr o.chk ∧ K (putO fr o.dst v) h' = some r := by
    intro fr hs
    unfold stepG at hs
    rw [aop_nat] at hs
    obtain ⟨⟨v, h'⟩, h1, h2⟩ := Option.bind_eq_some_iff.1 hs
    obtain ⟨h3, h4⟩ := rechk_some h2
    exact ⟨v, h', h1, h3, h4⟩
  unfold stepO at hs
  cases hg : o.guard with
  | none =>
    rw [hg] at hs
    obtain ⟨v, h', h1, h2, h3⟩ := G fr hs
    exact ⟨_, _, _, .plain v h' hg h1 h2, h3⟩
  | some g =>
    obtain ⟨t, want⟩ := g
    rw [hg] at hs
    dsimp only at hs
    cases hv : fr.at t with
    | bool b =>
      simp only [hv, asB] at hs
      by_cases hb : b = want
      · subst hb
        have hs' : stepG call o K (fr.put t (.bool b)) h = some r := by cases b <;> exact hs
        obtain ⟨v, h', h1, h2, h3⟩ := G _ hs'
        exact ⟨_, _, _, .on t b v h' hg hv h1 h2, h3⟩
      · have hs' : K (putO (fr.put t (.bool b)) o.dst .junk) h = some r := by
          cases b <;> cases want <;> first | exact hs | exact absurd rfl hb
        exact ⟨_, _, _, .off t want b hg hv hb, hs'⟩
    | _ => simp only [hv, asB] at hs; cases hs
/-- The run of a list of operations. -/
inductive OpsR (call : Nat → List AV → AH → O) : List AOper → Fr → AH → Fr → AH → Prop
  | nil (fr : Fr) (h : AH) : OpsR call [] fr h fr h
  | cons {o : AOper} {l : List AOper} {fr fr1 fr2 : Fr} {h h1 h2 : AH} {v : AV} : StepR call o fr h fr1 h1 v → OpsR call l fr1 h1 fr2 h2 → OpsR call (o :: l) fr h fr2 h2
theorem execOps_some {K : Fr → AH → O} {r : AV × AH} : ∀ {l : List AOper} {fr : Fr} {h : AH}, execOps call l K fr h = some r → ∃ fr' h', OpsR call l fr h fr' h' ∧ K fr' h' = some r := by
  intro l
  induction l with
  | nil => intro fr h hs; exact ⟨fr, h, .nil fr h, hs⟩
  | cons o l ih =>
    intro fr h hs
    obtain ⟨fr1, h1, v, s1, hs1⟩ := stepO_some hs
    obtain ⟨fr2, h2, s2, hs2⟩ := ih hs1
    exact ⟨fr2, h2, .cons s1 s2, hs2⟩
/-- Slots that are kept hold what they held. -/
def NormR (fr fr' : Fr) : Prop := fr'.length = fr.length ∧ ∀ i, fr'.at i = .junk ∨ fr'.at i = fr.at i
theorem Fr.at_nil {n : Nat} : Fr.at [] n = .junk := rfl
theorem Fr.at_zero {v : AV} {r : Fr} : Fr.at (v :: r) 0 = v := rfl
theorem Fr.at_succ {v : AV} {r : Fr} {n : Nat} : Fr.at (v :: r) (n + 1) = Fr.at r n := rfl
theorem Fr.put_nil {n : Nat} {v : AV} : Fr.put [] n v = [] := rfl
theorem Fr.put_zero {x v : AV} {r : Fr} : Fr.put (x :: r) 0 v = v :: r := rfl
theorem Fr.put_succ {x v : AV} {r : Fr} {n : Nat} : Fr.put (x :: r) (n + 1) v = x :: Fr.put r n v := rfl
theorem Fr.length_put : ∀ (fr : Fr) (n : Nat) (v : AV), (fr.put n v).length = fr.length
  | [], _, _ => rfl
  | _ :: _, 0, _ => rfl
  | _ :: r, n + 1, v => by rw [Fr.put_succ, List.length_cons, List.length_cons, Fr.length_put r n v]
theorem Fr.at_put : ∀ (fr : Fr) (n i : Nat) (v : AV), (fr.put n v).at i = if i = n ∧ n < fr.length then v else fr.at i
  | [], _, i, v => by rw [Fr.put_nil, if_neg (by simp)]
  | x :: r, 0, 0, v => by rw [Fr.put_zero, Fr.at_zero, if_pos ⟨rfl, by simp⟩]
  | x :: r, 0, i + 1, v => by
    show Fr.at r i = if i + 1 = 0 ∧ _ then v else Fr.at r i
    rw [if_neg (fun h => by cases h.1)]
  | x :: r, n + 1, 0, v => by
    show x = if 0 = n + 1 ∧ _ then v else x
    rw [if_neg (fun h => by cases h.1)]
  | x :: r, n + 1, i + 1, v => by
    show Fr.at (Fr.put r n v) i = if i + 1 = n + 1 ∧ _ then v else Fr.at r i
    rw [Fr.at_put r n i v]
    simp only [List.length_cons, Nat.add_lt_add_iff_right, Nat.add_right_cancel_iff]
theorem Fr.at_ge : ∀ (fr : Fr) (i : Nat), fr.length ≤ i → fr.at i = .junk
  | [], _, _ => rfl
  | _ :: r, 0, h => by simp at h
  | _ :: r, i + 1, h => by rw [Fr.at_succ]; exact Fr.at_ge r i (by simpa using h)
theorem junkF_length : ∀ (fr : Fr), (junkF fr).length = fr.length
  | [] => rfl
  | _ :: r => by show (junkF r).length + 1 = r.length + 1; rw [junkF_length r]
theorem junkF_at : ∀ (fr : Fr) (i : Nat), (junkF fr).at i = .junk
  | [], _ => rfl
  | _ :: _, 0 => rfl
  | _ :: r, i + 1 => junkF_at r i
theorem asSh_some {sh : ASh} {v : AV} {K : AV → O} {r : AV × AH} (h : asSh sh v K = some r) : K v = some r := by
  cases sh with
  | any => exact h
  | bool => cases v <;> first | exact h | cases h
  | int k =>
    cases v <;> try (cases h; done)
    rename_i k' n
    simp only [asSh, asK] at h
    cases hk : kEq k k' with
    | false => rw [hk] at h; cases h
    | true =>
      rw [hk] at h
      have : k = k' := by cases k <;> cases k' <;> first | rfl | cases hk
      subst this
      exact h
theorem normGo_some {fr : Fr} {K : Fr → O} {r : AV × AH} : ∀ (m : Msk) (base : Fr), base.length = fr.length → (∀ i, base.at i = .junk ∨ base.at i = fr.at i) → normGo fr m base K = some r → ∃ fr', NormR fr fr' ∧ K fr' = some r := by
  intro m
  induction m with
  | nil => intro base hl hb h; exact ⟨base, ⟨hl, hb⟩, h⟩
  | cons p m ih =>
    intro base hl hb h
    have h' : asSh p.2 (fr.at p.1) (fun v => normGo fr m (base.put p.1 v) K) = some r := h
    obtain ⟨fr', ⟨h1, h2⟩, h3⟩ := ih (base.put p.1 (fr.at p.1)) (by rw [Fr.length_put, hl]) (fun i => by
      rw [Fr.at_put]
      split
      · rename_i e; rw [e.1]; exact .inr rfl
      · exact hb i) (asSh_some h')
    exact ⟨fr', ⟨h1, h2⟩, h3⟩
theorem norm_some {m : Msk} {fr : Fr} {K : Fr → O} {r : AV × AH} (h : norm m fr K = some r) : ∃ fr', NormR fr fr' ∧ K fr' = some r :=
  normGo_some m (junkF fr) (junkF_length fr) (fun i => .inl (junkF_at fr i)) h
theorem normO_some {m : Option Msk} {fr : Fr} {K : Fr → O} {r : AV × AH} (h : normO m fr K = some r) : ∃ fr', NormR fr fr' ∧ K fr' = some r := by
  cases m with
  | none => exact ⟨fr, ⟨rfl, fun _ => .inr rfl⟩, h⟩
  | some m => obtain ⟨fr', ⟨h1, h2⟩, h3⟩ := norm_some h; exact ⟨fr', ⟨h1, h2⟩, h3⟩
-- The run of code.
mutual
inductive CodeR (call : Nat → List AV → AH → O) : AC → Fr → AH → Ex → Fr → AH → Prop
  | skip {fr : Fr} {h : AH} : CodeR call .skip fr h .normal fr h
  | ret {fr : Fr} {h : AH} : CodeR call .ret fr h .ret fr h
  | exit {id : Nat} {fr : Fr} {h : AH} : CodeR call (.exit id) fr h (.exit id) fr h
  | reg {d : Option (List Nat)} {ops : List AOper} {fr fr' : Fr} {h h' : AH} : OpsR call ops fr h fr' h' → CodeR call (.reg d ops) fr h .normal fr' h'
  | seq {m : Option Msk} {a b : AC} {fr fr1 fr1' fr2 : Fr} {h h1 h2 : AH} {e : Ex} : CodeR call a fr h .normal fr1 h1 → NormR fr1 fr1' → CodeR call b fr1' h1 e fr2 h2 → CodeR call (.seq m a b) fr h e fr2 h2
  | seqX {m : Option Msk} {a b : AC} {fr fr1 : Fr} {h h1 : AH} {e : Ex} : CodeR call a fr h e fr1 h1 → e ≠ .normal → CodeR call (.seq m a b) fr h e fr1 h1
  | condT {c : AO} {a b : AC} {fr fr1 : Fr} {h h1 : AH} {e : Ex} : ev fr c = .bool true → CodeR call a fr h e fr1 h1 → CodeR call (.cond c a b) fr h e fr1 h1
  | condF {c : AO} {a b : AC} {fr fr1 : Fr} {h h1 : AH} {e : Ex} : ev fr c = .bool false → CodeR call b fr h e fr1 h1 → CodeR call (.cond c a b) fr h e fr1 h1
  | blockN {id : Nat} {a : AC} {fr fr1 : Fr} {h h1 : AH} : CodeR call a fr h .normal fr1 h1 → CodeR call (.block id a) fr h .normal fr1 h1
  | blockE {id : Nat} {a : AC} {fr fr1 : Fr} {h h1 : AH} : CodeR call a fr h (.exit id) fr1 h1 → CodeR call (.block id a) fr h .normal fr1 h1
  | blockX {id j : Nat} {a : AC} {fr fr1 : Fr} {h h1 : AH} : CodeR call a fr h (.exit j) fr1 h1 → j ≠ id → CodeR call (.block id a) fr h (.exit j) fr1 h1
  | blockR {id : Nat} {a : AC} {fr fr1 : Fr} {h h1 : AH} : CodeR call a fr h .ret fr1 h1 → CodeR call (.block id a) fr h .ret fr1 h1
  | loop {m : Msk} {a : AC} {fr fr' fr1 : Fr} {h h1 : AH} {e : Ex} {n : Nat} : NormR fr fr' → LoopR call a n fr' h e fr1 h1 → CodeR call (.loop m a) fr h e fr1 h1
/-- 'n': rounds are left. -/
inductive LoopR (call : Nat → List AV → AH → O) : AC → Nat → Fr → AH → Ex → Fr → AH → Prop
  | go {a : AC} {n : Nat} {fr fr1 fr1' fr2 : Fr} {h h1 h2 : AH} {e : Ex} : CodeR call a fr h .normal fr1 h1 → NormR fr1 fr1' → LoopR call a n fr1' h1 e fr2 h2 → LoopR call a (n + 1) fr h e fr2 h2
  | out {a : AC} {n : Nat} {fr fr1 : Fr} {h h1 : AH} {e : Ex} : CodeR call a fr h e fr1 h1 → e ≠ .normal → LoopR call a (n + 1) fr h e fr1 h1
end
theorem loopE_some {a : AC} {k : Nat} {m : Msk} {r : AV × AH} (ih : ∀ {K : KX} {fr : Fr} {h : AH}, exec call k a K fr h = some r → ∃ e fr' h', CodeR call a fr h e fr' h' ∧ K e fr' h' = some r) :
    ∀ {n : Nat} {K : KX} {fr : Fr} {h : AH}, loopE (exec call k a) m n K fr h = some r → ∃ e fr' h', LoopR call a n fr h e fr' h' ∧ K e fr' h' = some r := by
  intro n
  induction n with
  | zero => intro K fr h hs; cases hs
  | succ n ihn =>
    intro K fr h hs
    obtain ⟨e, fr1, h1, c1, hs1⟩ := ih hs
    cases e with
    | normal =>
      obtain ⟨fr2, n1, hs2⟩ := norm_some hs1
      obtain ⟨e2, fr3, h3, l1, hs3⟩ := ihn hs2
      exact ⟨e2, fr3, h3, .go c1 n1 l1, hs3⟩
    | exit j => exact ⟨_, _, _, .out c1 (by intro e; cases e), hs1⟩
    | ret => exact ⟨_, _, _, .out c1 (by intro e; cases e), hs1⟩
theorem exec_some {k : Nat} {r : AV × AH} {c : AC} : ∀ {K : KX} {fr : Fr} {h : AH}, exec call k c K fr h = some r → ∃ e fr' h', CodeR call c fr h e fr' h' ∧ K e fr' h' = some r := by
  induction c with
  | skip => intro K fr h hs; exact ⟨_, _, _, .skip, hs⟩
  | ret => intro K fr h hs; exact ⟨_, _, _, .ret, hs⟩
  | exit id => intro K fr h hs; exact ⟨_, _, _, .exit, hs⟩
  | reg d ops =>
    intro K fr h hs
    obtain ⟨fr', h', o1, hs1⟩ := execOps_some (show execOps call ops (K .normal) fr h = some r from hs)
    exact ⟨_, _, _, .reg o1, hs1⟩
  | seq m a b iha ihb =>
    intro K fr h hs
    obtain ⟨e, fr1, h1, c1, hs1⟩ := iha (show exec call k a (seqK m (exec call k b K) K) fr h = some r from hs)
    cases e with
    | normal =>
      obtain ⟨fr2, n1, hs2⟩ := normO_some (show normO m fr1 (fun fr => exec call k b K fr h1) = some r from hs1)
      obtain ⟨e2, fr3, h3, c2, hs3⟩ := ihb hs2
      exact ⟨_, _, _, .seq c1 n1 c2, hs3⟩
    | exit j => exact ⟨_, _, _, .seqX c1 (by intro e; cases e), hs1⟩
    | ret => exact ⟨_, _, _, .seqX c1 (by intro e; cases e), hs1⟩
  | cond c a b iha ihb =>
    intro K fr h hs
    have hs : (asB (ev fr c) fun t => bif t then exec call k a K fr h else exec call k b K fr h) = some r := hs
    cases hv : ev fr c with
    | bool t =>
      rw [hv] at hs
      cases t with
      | true => obtain ⟨e, fr1, h1, c1, hs1⟩ := iha (show exec call k a K fr h = some r from hs); exact ⟨_, _, _, .condT hv c1, hs1⟩
      | false => obtain ⟨e, fr1, h1, c1, hs1⟩ := ihb (show exec call k b K fr h = some r from hs); exact ⟨_, _, _, .condF hv c1, hs1⟩
    | _ => rw [hv] at hs; cases hs
  | block id a iha =>
    intro K fr h hs
    obtain ⟨e, fr1, h1, c1, hs1⟩ := iha (show exec call k a (blockK id K) fr h = some r from hs)
    cases e with
    | normal => exact ⟨_, _, _, .blockN c1, hs1⟩
    | ret => exact ⟨_, _, _, .blockR c1, hs1⟩
    | exit j =>
      by_cases hj : j = id
      · subst hj
        have hs1 : (bif Nat.beq j j then K .normal fr1 h1 else K (.exit j) fr1 h1) = some r := hs1
        rw [Nat.beq_refl j] at hs1
        exact ⟨_, _, _, .blockE c1, hs1⟩
      · have hs1 : (bif Nat.beq j id then K .normal fr1 h1 else K (.exit j) fr1 h1) = some r := hs1
        have : Nat.beq j id = false := by
          cases hb : Nat.beq j id with
          | false => rfl
          | true => exact absurd (Nat.eq_of_beq_eq_true hb) hj
        rw [this] at hs1
        exact ⟨_, _, _, .blockX c1 hj, hs1⟩
  | loop m a iha =>
    intro K fr h hs
    obtain ⟨fr1, n1, hs1⟩ := norm_some (show norm m fr (fun fr => loopE (exec call k a) m k K fr h) = some r from hs)
    obtain ⟨e, fr2, h2, l1, hs2⟩ := loopE_some iha hs1
    exact ⟨_, _, _, .loop n1 l1, hs2⟩
end Go.AM
