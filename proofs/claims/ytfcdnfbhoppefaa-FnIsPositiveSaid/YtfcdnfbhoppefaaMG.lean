/- Each operation of the machine is Go's. -/
import Derived.Test.YtfcdnfbhoppefaaMF
import Derived.WalkSpells
namespace Go.AM
set_option linter.unusedVariables false
set_option linter.unusedSimpArgs false
open Go.RowKit
variable {σ : Nat → FuncId} {w0 : World} {ρ ρ' : Mp} {P : Program} {call : Nat → List AV → AH → O}
theorem asSh_v {sh : ASh} {x v : AV} {h h' : AH} (hr : (asSh sh x fun v => some (v, h)) = some (v, h')) : h' = h ∧ x = v := by
  have := asSh_some hr
  cases this
  exact ⟨rfl, rfl⟩
theorem run_equalIn_bool (d : Nat) {t : TypeId} (hu : P.underlying t = some .bool) {b1 b2 : Bool} (w : World) : (Op.equalIn (d + 1) t (.bool b1) (.bool b2)).run P w = .ok (b1 == b2) w := by
  simp [Op.equalIn, run_underlying hu]
theorem quiet_sound {sh : ASh} {op : AOp} {fr : Fr} {h h' : AH} {v : AV} {o : Oper} {a : Act} {w : World} (hq : quiet op = true) (hok : okOp P σ o.op op = true) (hf : FrR σ w0 ρ fr a.tmps) (hr : HR σ w0 ρ h w) (hv : aopV call sh op fr h = some (v, h')) :
    h' = h ∧ ∃ u, (execOp a.eval o).run P w = .ok (.value u) w ∧ VR σ w0 ρ v u := by
  unfold aopV at hv
  cases op with
  | move y =>
    cases hv
    cases ho : o.op <;> rw [ho] at hok <;> simp only [okOp] at hok <;> first
      | (cases hok; done)
      | exact ⟨rfl, _, by simp [execOp, ho], okO_VR hok hf⟩
  | pick c x y =>
    cases ho : o.op <;> rw [ho] at hok <;> simp only [okOp] at hok <;> try (cases hok; done)
    simp only [Bool.and_eq_true] at hok
    obtain ⟨⟨h1, h2⟩, h3⟩ := hok
    obtain ⟨b, hb, hv⟩ := asB_some hv
    have hc := okO_VR h1 hf
    rw [hb] at hc
    have hc := VR_bool hc
    cases b <;> cases hv
    · exact ⟨rfl, _, by simp [execOp, ho, hc, asBool], okO_VR h3 hf⟩
    · exact ⟨rfl, _, by simp [execOp, ho, hc, asBool], okO_VR h2 hf⟩
  | build z qs =>
    cases ho : o.op <;> (have hok2 := hok; rw [ho] at hok2; simp only [okOp] at hok2) <;> try (cases hok2; done)
    obtain ⟨cs, hcs, hv⟩ := Option.bind_eq_some_iff.1 (show (fillA z (partsOf fr qs)).bind (fun cs => some (AV.agg cs, h)) = some (v, h') from hv)
    cases hv
    obtain ⟨u, h1, h2⟩ := build_sound ho hok hf hcs
    exact ⟨rfl, u, h1, h2⟩
  | load n y =>
    cases ho : o.op <;> rw [ho] at hok <;> simp only [okOp] at hok <;> try (cases hok; done)
    simp only [Bool.and_eq_true] at hok
    obtain ⟨x, hx, hv⟩ := Option.bind_eq_some_iff.1 (show (aLd h n (ev fr y)).bind (fun v => asSh sh v fun v => some (v, h)) = some (v, h') from hv)
    obtain ⟨rfl, rfl⟩ := asSh_v hv
    obtain ⟨u, h1, h2⟩ := load_sound hr (okO_VR hok.2 hf) hok.1 hx
    exact ⟨rfl, u, by simp [execOp, ho, h1], h2⟩
  | nilck y =>
    cases ho : o.op <;> rw [ho] at hok <;> simp only [okOp] at hok <;> try (cases hok; done)
    rename_i x
    have hx := okO_VR hok hf
    have hv : (pNil (ev fr y) fun v => some (v, h)) = some (v, h') := hv
    have he : (execOp a.eval o).run P w = (match a.eval x with
      | .pointer none | .nilIface | .nilFunc => (runtimePanic .nilDeref : Sem Next)
      | .func (.method name) first captured =>
        match (first[0]? : Option Value) with
        | some .nilIface => runtimePanic .nilDeref
        | some (.iface t w) => do
          if (← nilAhead ((← program).types.size + Made.depth) t w name) != some false then
            unsupported (.noEntry "op/nilCheck.the method's receiver behind this interface value is a nil pointer, or cannot be seen to be none, and the arguments act or may panic (ledger 612)")
          pure (.value (.func (.method name) first captured))
        | _ => pure (.value (.func (.method name) first captured))
      | x => pure (.value x)).run P w := by simp only [execOp, ho]; rfl
    rw [he]
    generalize a.eval x = u at hx
    unfold pNil at hv
    split at hv
    · rename_i e
      rw [e] at hx
      cases hv
      cases hx with
      | ptr _ _ g z hb => exact ⟨rfl, _, rfl, .ptr _ _ g z hb⟩
    · rename_i e
      rw [e] at hx
      cases hv
      have hx' := hx
      cases hx with
      | rop => exact ⟨rfl, _, rfl, hx'⟩
    · rename_i e
      rw [e] at hx
      cases hv
      have hx' := hx
      cases hx with
      | fn => exact ⟨rfl, _, rfl, hx'⟩
    · cases hv
  | bin bo x y =>
    cases ho : o.op <;> rw [ho] at hok <;> simp only [okOp] at hok <;> try (cases hok; done)
    simp only [Bool.and_eq_true] at hok
    obtain ⟨⟨h1, h2⟩, h3⟩ := hok
    obtain ⟨k, m, hx, hv⟩ := asI_some hv
    obtain ⟨k', n, hy, hv⟩ := asI_some hv
    have hx' := okO_VR h2 hf
    rw [hx] at hx'
    have hy' := okO_VR h3 hf
    rw [hy] at hy'
    exact run_bin ho h1 (VR_int hx') (VR_int hy') hv
  | eqa ng x y => cases ho : o.op <;> rw [ho] at hok <;> simp only [okOp] at hok <;> cases hok
  | eqb ng x y =>
    cases ho : o.op <;> rw [ho] at hok <;> simp only [okOp] at hok <;> try (cases hok; done)
    rename_i bo t x' y' t'
    simp only [Bool.and_eq_true] at hok
    obtain ⟨⟨⟨h1, h2⟩, h3⟩, h4⟩ := hok
    have hu : P.underlying t = some .bool := by
      split at h4
      · assumption
      · cases h4
    obtain ⟨b1, hx, hv⟩ := asB_some hv
    obtain ⟨b2, hy, hv⟩ := asB_some hv
    have hx' := okO_VR h2 hf
    rw [hx] at hx'
    have hy' := okO_VR h3 hf
    rw [hy] at hy'
    have ex := VR_bool hx'
    have ey := VR_bool hy'
    have heq : ∀ w, (Op.equal t (.bool b1) (.bool b2)).run P w = .ok (b1 == b2) w := by
      intro w
      exact run_equalIn_bool 9999 hu w
    cases hv
    cases bo <;> simp only at h1 <;> try (cases h1; done)
    · have : ng = false := by simpa using h1
      subst this
      refine ⟨rfl, .bool (b1 == b2), by simp [execOp, ho, ex, ey, eqGuard_at_bool, binOp, heq], ?_⟩
      have : ((b1 == b2) != false) = (b1 == b2) := by cases b1 <;> cases b2 <;> rfl
      rw [this]; exact .bool _
    · subst h1
      refine ⟨rfl, .bool (!(b1 == b2)), by simp [execOp, ho, ex, ey, eqGuard_at_bool, binOp, heq], ?_⟩
      have : ((b1 == b2) != true) = !(b1 == b2) := by cases b1 <;> cases b2 <;> rfl
      rw [this]; exact .bool _
  | isnil ng x =>
    cases ho : o.op <;> rw [ho] at hok <;> simp only [okOp] at hok <;> try (cases hok; done)
    rename_i bo t x' y' t'
    simp only [Bool.and_eq_true] at hok
    obtain ⟨⟨⟨h1, h2⟩, h3⟩, h4⟩ := hok
    obtain ⟨e, he⟩ := Option.isSome_iff_exists.1 h3
    have hund := elemOfS_und he
    have hx := okO_VR h2 hf
    split at h4
    case h_2 => cases h4
    rename_i n' c'
    have hv : (pIsNil (ev fr x) fun t => some (.bool (t != ng), h)) = some (v, h') := hv
    have key : ∀ (A : Option Addr) (n c : Nat), a.eval x' = .slice A n c → ∃ b, (b = (A.isNone != ng)) ∧ (execOp a.eval o).run P w = .ok (.value (.bool b)) w := by
      intro A n c hA
      have hcon : a.eval (.const (.slice none n' c')) = .slice none n' c' := rfl
      cases bo <;> simp only at h1 <;> try (cases h1; done)
      · have : ng = false := by simpa using h1
        subst this
        refine ⟨A.isNone, by simp, ?_⟩
        simp [execOp, ho, hA, hcon, eqGuard_at_slice, Lib.run_eql_slice_nil w t e A n c n' c' hund]
      · subst h1
        refine ⟨!A.isNone, by simp, ?_⟩
        simp [execOp, ho, hA, hcon, eqGuard_at_slice, run_neq_slice_nil_any w t e A n c n' c' hund]
    unfold pIsNil at hv
    split at hv
    · rename_i ev_
      rw [ev_] at hx
      cases hv
      generalize hu : a.eval x' = u at hx
      cases hx
      obtain ⟨b, rfl, h5⟩ := key _ _ _ hu
      exact ⟨rfl, _, h5, .bool _⟩
    · rename_i ev_
      rw [ev_] at hx
      cases hv
      generalize hu : a.eval x' = u at hx
      cases hx
      obtain ⟨b, rfl, h5⟩ := key _ _ _ hu
      exact ⟨rfl, _, h5, .bool _⟩
    · cases hv
  | not x =>
    cases ho : o.op <;> rw [ho] at hok <;> simp only [okOp] at hok <;> try (cases hok; done)
    rename_i u t x'
    cases u <;> simp only at hok <;> try (cases hok; done)
    obtain ⟨b, hx, hv⟩ := asB_some hv
    have hx' := okO_VR hok hf
    rw [hx] at hx'
    have ex := VR_bool hx'
    cases hv
    exact ⟨rfl, .bool (!b), by simp [execOp, ho, ex, Op.unary], .bool _⟩
  | neg x =>
    cases ho : o.op <;> rw [ho] at hok <;> simp only [okOp] at hok <;> try (cases hok; done)
    rename_i u t x'
    cases u <;> simp only at hok <;> try (cases hok; done)
    obtain ⟨k, n, hx, hv⟩ := asI_some hv
    have hx' := okO_VR hok hf
    rw [hx] at hx'
    have ex := VR_int hx'
    cases hv
    exact ⟨rfl, .int k (k.wrap (0 - n)), by simp [execOp, ho, ex, Op.unary, Op.intArith], .int _ _⟩
  | conv k x =>
    cases ho : o.op <;> rw [ho] at hok <;> simp only [okOp] at hok <;> try (cases hok; done)
    simp only [Bool.and_eq_true] at hok
    obtain ⟨⟨h1, h2⟩, h3⟩ := hok
    obtain ⟨s, hs⟩ := Option.isSome_iff_exists.1 h1
    split at h2
    case h_2 => cases h2
    rename_i k' hk
    obtain rfl := kEq_eq h2
    obtain ⟨k1, n, hx, hv⟩ := asI_some hv
    have hx' := okO_VR h3 hf
    rw [hx] at hx'
    have ex := VR_int hx'
    cases hv
    exact ⟨rfl, .int k (k.wrap n), by simp [execOp, ho, ex, convert, run_underlying hs, run_underlying hk, Conv.intToInt], .int _ _⟩
  | mkfn f ys =>
    cases ho : o.op <;> rw [ho] at hok <;> simp only [okOp] at hok <;> try (cases hok; done)
    rename_i fn first xs
    cases fn <;> simp only at hok <;> try (cases hok; done)
    simp only [Bool.and_eq_true] at hok
    obtain ⟨⟨h1, h2⟩, h3⟩ := hok
    obtain rfl := Nat.eq_of_beq_eq_true h1
    have h2 : first = #[] := by simpa using h2
    subst h2
    cases hv
    have hl := okOs_VA hf h3
    refine ⟨rfl, .func (.func (σ f)) #[] (xs.map a.eval), by simp [execOp, ho, Instr.makeFunc], .fn _ _ _ (by have := hl.1; simpa using this) (fun j x u hx hu => hl.2 j x u hx ?_)⟩
    simpa using hu
  | slice s x lo hi =>
    cases ho : o.op <;> rw [ho] at hok <;> simp only [okOp] at hok <;> try (cases hok; done)
    rename_i t x' l' u' m'
    simp only [Bool.and_eq_true] at hok
    obtain ⟨⟨⟨⟨h1, h2⟩, h3⟩, h4⟩, h5⟩ := hok
    have h5 : m' = none := by cases m' <;> simp_all
    subst h5
    split at h1
    case h_2 => cases h1
    rename_i e he
    have hop : ∀ (y : Option AO) (y' : Option Operand), optOk σ y' y = true → (y = none ∧ y' = none) ∨ ∃ p q, y = some p ∧ y' = some q ∧ okO σ q p = true := by
      intro y y' h
      cases y <;> cases y' <;> simp [optOk] at h
      · exact .inl ⟨rfl, rfl⟩
      · exact .inr ⟨_, _, rfl, rfl, h⟩
    have hv : (optI fr lo fun lo => optI fr hi fun hi => pSlice s (ev fr x) lo hi fun v => some (v, h)) = some (v, h') := hv
    have hfin : ∀ (L U : Option Int), ((L = none ∧ l'.map a.eval = none) ∨ ∃ k n, L = some n ∧ l'.map a.eval = some (.int k n)) → ((U = none ∧ u'.map a.eval = none) ∨ ∃ k n, U = some n ∧ u'.map a.eval = some (.int k n)) → (pSlice s (ev fr x) L U fun v => some (v, h)) = some (v, h') → h' = h ∧ ∃ u, (execOp a.eval o).run P w = .ok (.value u) w ∧ VR σ w0 ρ v u := by
      intro L U hL hU hv
      obtain ⟨q, hq, hv⟩ := Option.bind_eq_some_iff.1 (show (aSlice s (ev fr x) L U).bind (fun v => some (v, h)) = some (v, h') from hv)
      cases hv
      obtain ⟨u, h6, h7⟩ := slice_sound (P := P) (w := w) he (isNat_eq h1) (okO_VR h2 hf) hL hU hq
      exact ⟨rfl, u, by simp [execOp, ho, h6], h7⟩
    have hI : ∀ (p : AO) (q : Operand) k n, okO σ q p = true → ev fr p = .int k n → a.eval q = .int k n := fun p q k n hpq e => by
      have := okO_VR hpq hf
      rw [e] at this
      exact VR_int this
    rcases optI_some hv with ⟨rfl, hv1⟩ | ⟨y, k, n, rfl, hy, hv1⟩ <;> rcases optI_some hv1 with ⟨rfl, hv2⟩ | ⟨y2, k2, n2, rfl, hy2, hv2⟩
    · rcases hop _ _ h3 with ⟨_, rfl⟩ | ⟨_, _, h, _⟩
      · rcases hop _ _ h4 with ⟨_, rfl⟩ | ⟨_, _, h, _⟩
        · exact hfin _ _ (.inl ⟨rfl, rfl⟩) (.inl ⟨rfl, rfl⟩) hv2
        · cases h
      · cases h
    · rcases hop _ _ h3 with ⟨_, rfl⟩ | ⟨_, _, h, _⟩
      · rcases hop _ _ h4 with ⟨h, _⟩ | ⟨p2, q2, e2, rfl, hk2⟩
        · cases h
        · cases e2
          exact hfin _ _ (.inl ⟨rfl, rfl⟩) (.inr ⟨k2, n2, rfl, by simp [hI _ _ _ _ hk2 hy2]⟩) hv2
      · cases h
    · rcases hop _ _ h3 with ⟨h, _⟩ | ⟨p1, q1, e1, rfl, hk1⟩
      · cases h
      · cases e1
        rcases hop _ _ h4 with ⟨_, rfl⟩ | ⟨_, _, h, _⟩
        · exact hfin _ _ (.inr ⟨k, n, rfl, by simp [hI _ _ _ _ hk1 hy]⟩) (.inl ⟨rfl, rfl⟩) hv2
        · cases h
    · rcases hop _ _ h3 with ⟨h, _⟩ | ⟨p1, q1, e1, rfl, hk1⟩
      · cases h
      · cases e1
        rcases hop _ _ h4 with ⟨h, _⟩ | ⟨p2, q2, e2, rfl, hk2⟩
        · cases h
        · cases e2
          exact hfin _ _ (.inr ⟨k, n, rfl, by simp [hI _ _ _ _ hk1 hy]⟩) (.inr ⟨k2, n2, rfl, by simp [hI _ _ _ _ hk2 hy2]⟩) hv2
  | fld n y =>
    cases ho : o.op <;> rw [ho] at hok <;> simp only [okOp] at hok <;> try (cases hok; done)
    rename_i t x i
    simp only [Bool.and_eq_true] at hok
    obtain ⟨h1, h2⟩ := hok
    split at h1
    case h_2 => cases h1
    rename_i fs hfs
    split at h1
    case h_2 => cases h1
    rename_i fd hfd
    simp only [Bool.and_eq_true] at h1
    obtain ⟨h1, h3⟩ := h1
    obtain rfl := Nat.eq_of_beq_eq_true h1
    split at h3
    case h_2 => cases h3
    rename_i m hm
    obtain ⟨q, hq, hv⟩ := Option.bind_eq_some_iff.1 (show (aFld fd.offset (ev fr y)).bind (fun v => some (v, h)) = some (v, h') from hv)
    cases hv
    obtain ⟨ad, h4, h5, h6⟩ := ptr_add (okO_VR h2 hf) hq
    have hs := run_sizeOf (P := P) hm w
    exact ⟨rfl, _, by simp [execOp, ho, h4, Instr.fieldAt, Instr.sureAddr, run_underlying hfs, hfd, fieldPlace, hs], h6⟩
  | field n m y =>
    cases ho : o.op <;> rw [ho] at hok <;> simp only [okOp] at hok <;> try (cases hok; done)
    rename_i t x i
    simp only [Bool.and_eq_true] at hok
    obtain ⟨h1, h2⟩ := hok
    split at h1
    case h_2 => cases h1
    rename_i fs hfs
    split at h1
    case h_2 => cases h1
    rename_i fd hfd
    simp only [Bool.and_eq_true] at h1
    obtain ⟨h1, h3⟩ := h1
    obtain rfl := Nat.eq_of_beq_eq_true h1
    obtain ⟨q, hq, hv⟩ := Option.bind_eq_some_iff.1 (show (aField fd.offset m (ev fr y)).bind (fun v => asSh sh v fun v => some (v, h)) = some (v, h') from hv)
    obtain ⟨rfl, rfl⟩ := asSh_v hv
    have hx := okO_VR h2 hf
    generalize hu : a.eval x = u at hx
    unfold aField at hq
    split at hq
    case h_2 => cases hq
    rename_i cs e
    rw [e] at hx
    cases hx with
    | agg _ vs h4 h5 h6 =>
      obtain ⟨uv, h7, h8⟩ := shape_part (P := P) (vs := vs) h3 ⟨by simpa using h4, fun j x u hx hu => ⟨h5 j x u hx (by simpa using hu), h6 j u (by simpa using hu)⟩⟩ hq w
      exact ⟨rfl, uv, by simp [execOp, ho, hu, Instr.field, run_underlying hfs, hfd, asAgg, h7], h8⟩
  | idx s x i =>
    cases ho : o.op <;> rw [ho] at hok <;> simp only [okOp] at hok <;> try (cases hok; done)
    simp only [Bool.and_eq_true] at hok
    obtain ⟨⟨h1, h2⟩, h3⟩ := hok
    split at h1
    case h_2 => cases h1
    rename_i e he
    obtain ⟨k, n, hi, hv⟩ := asI_some hv
    obtain ⟨q, hq, hv⟩ := Option.bind_eq_some_iff.1 (show (aIdx s (ev fr x) n).bind (fun v => some (v, h)) = some (v, h') from hv)
    cases hv
    have hi' := okO_VR h3 hf
    rw [hi] at hi'
    obtain ⟨uv, h4, h5⟩ := idx_sound (P := P) (w := w) (kk := k) he (isNat_eq h1) (okO_VR h2 hf) hq
    exact ⟨rfl, uv, by simp [execOp, ho, VR_int hi', h4], h5⟩
  | idxA l s x i =>
    cases ho : o.op <;> rw [ho] at hok <;> simp only [okOp] at hok <;> try (cases hok; done)
    simp only [Bool.and_eq_true] at hok
    obtain ⟨⟨h1, h2⟩, h3⟩ := hok
    split at h1
    case h_2 => cases h1
    rename_i n e he
    simp only [Bool.and_eq_true] at h1
    obtain rfl := Nat.eq_of_beq_eq_true h1.1
    obtain ⟨k, m, hi, hv⟩ := asI_some hv
    obtain ⟨q, hq, hv⟩ := Option.bind_eq_some_iff.1 (show (aIdxA n s (ev fr x) m).bind (fun v => some (v, h)) = some (v, h') from hv)
    cases hv
    have hi' := okO_VR h3 hf
    rw [hi] at hi'
    have hq' : 0 ≤ m ∧ m < n ∧ aFld (m.toNat * s) (ev fr x) = some v := by
      unfold aIdxA at hq
      split at hq
      · split at hq
        · rename_i e hm; exact ⟨hm.1, hm.2, by rw [e]; exact hq⟩
        · cases hq
      · split at hq
        · rename_i e hm; exact ⟨hm.1, hm.2, by rw [e]; exact hq⟩
        · cases hq
      · cases hq
    obtain ⟨ad, h4, h5, h6⟩ := ptr_add (okO_VR h2 hf) hq'.2.2
    have hs := run_sizeOf (P := P) (isNat_eq h1.2) w
    have hm : 0 ≤ m ∧ m < (n : Int) := ⟨hq'.1, hq'.2.1⟩
    exact ⟨rfl, _, by simp [execOp, ho, h4, VR_int hi', Instr.indexAt, asIntOf, run_underlying he, Instr.sureAddr, hm, hs], h6⟩
  | extract x i =>
    cases ho : o.op <;> rw [ho] at hok <;> simp only [okOp] at hok <;> try (cases hok; done)
    rename_i x' j
    simp only [Bool.and_eq_true] at hok
    obtain ⟨h1, h2⟩ := hok
    obtain rfl := Nat.eq_of_beq_eq_true h2
    have hv : (pExtract (ev fr x) i fun v => asSh sh v fun v => some (v, h)) = some (v, h') := hv
    unfold pExtract at hv
    split at hv
    case h_2 => cases hv
    rename_i vs e
    obtain ⟨q, hq, hv⟩ := Option.bind_eq_some_iff.1 hv
    obtain ⟨rfl, rfl⟩ := asSh_v hv
    have hx := okO_VR h1 hf
    rw [e] at hx
    generalize hu : a.eval x' = u at hx
    cases hx with
    | tup _ us h4 h5 =>
      have hlt : i < us.size := by rw [h4]; exact getD_of hq
      exact ⟨rfl, us[i], by simp [execOp, ho, hu, Instr.extract, hlt], h5 i q us[i] hq (by simp [hlt])⟩
  | len x =>
    cases ho : o.op <;> rw [ho] at hok <;> simp only [okOp] at hok <;> try (cases hok; done)
    rename_i c
    split at hok
    case h_2 => cases hok
    rename_i hc
    obtain rfl := callB_eq hc
    simp only [Bool.and_eq_true] at hok
    obtain ⟨e, he⟩ := Option.isSome_iff_exists.1 hok.2
    obtain ⟨n, hn, hv⟩ := Option.bind_eq_some_iff.1 (show (slen (ev fr x)).bind (fun n => some (AV.int .i64 n, h)) = some (v, h') from hv)
    cases hv
    have hx := okO_VR hok.1 hf
    rename_i xo to
    have key : ∃ A c, a.eval xo = .slice A n c := by
      generalize a.eval xo = u at hx
      generalize ev fr x = q at hx hn
      cases hx <;> simp [slen] at hn <;> subst hn <;> exact ⟨_, _, rfl⟩
    obtain ⟨A, c, hA⟩ := key
    refine ⟨rfl, .int .i64 n, ?_, .int _ _⟩
    simp [execOp, ho, resolve, invoke, builtin, hA, Builtin.len_, run_underlying (elemOfS_und he), goInt]
  | min x y =>
    cases ho : o.op <;> rw [ho] at hok <;> simp only [okOp] at hok <;> try (cases hok; done)
    rename_i c
    split at hok
    case h_2 => cases hok
    rename_i hc
    obtain rfl := callB_eq hc
    simp only [Bool.and_eq_true] at hok
    obtain ⟨k, m, hx, hv⟩ := asI_some hv
    obtain ⟨k2, n, hy, hv⟩ := asI_some hv
    cases hv
    have hx' := okO_VR hok.1 hf
    rw [hx] at hx'
    have hy' := okO_VR hok.2 hf
    rw [hy] at hy'
    refine ⟨rfl, .int k (if n < m then n else m), ?_, .int _ _⟩
    simp [execOp, ho, resolve, invoke, builtin, VR_int hx', VR_int hy', run_min_int2]
  | max x y =>
    cases ho : o.op <;> rw [ho] at hok <;> simp only [okOp] at hok <;> try (cases hok; done)
    rename_i c
    split at hok
    case h_2 => cases hok
    rename_i hc
    obtain rfl := callB_eq hc
    simp only [Bool.and_eq_true] at hok
    obtain ⟨k, m, hx, hv⟩ := asI_some hv
    obtain ⟨k2, n, hy, hv⟩ := asI_some hv
    cases hv
    have hx' := okO_VR hok.1 hf
    rw [hx] at hx'
    have hy' := okO_VR hok.2 hf
    rw [hy] at hy'
    refine ⟨rfl, .int k (if n > m then n else m), ?_, .int _ _⟩
    simp [execOp, ho, resolve, invoke, builtin, VR_int hx', VR_int hy', run_max_int2]
  | _ => cases hq
end Go.AM
