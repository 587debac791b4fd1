/- Each quiet operation of the machine is Go's: the cases. -/
import Derived.Test.YtfcdnfbhoppefaaME
import Derived.Great.BuildSlice
namespace Go.AM
set_option linter.unusedVariables false
set_option linter.unusedSimpArgs false
open Go.RowKit
variable {σ : Nat → FuncId} {w0 : World} {ρ ρ' : Mp} {P : Program} {call : Nat → List AV → AH → O}
/-- What fill does to cells. -/
theorem foldl_set (off : Nat) : ∀ (vs : List Value) (k : Nat) (cs : Array Value), off + k + vs.length ≤ cs.size →
    ((vs.zipIdx k).foldl (fun cs (p : Value × Nat) => cs.setIfInBounds (off + p.2) p.1) cs).toList = cs.toList.take (off + k) ++ vs ++ cs.toList.drop (off + k + vs.length)
  | [], k, cs, _ => by simp
  | v :: vs, k, cs, h => by
    rw [List.zipIdx_cons, List.foldl_cons, foldl_set off vs (k + 1) _ (by simp at h ⊢; omega)]
    simp only [List.length_cons] at h
    have hlt : off + k < cs.toList.length := by rw [Array.length_toList]; omega
    rw [Array.toList_setIfInBounds]
    rw [show off + (k + 1) = off + k + 1 by omega, show off + k + 1 + vs.length = off + k + (v :: vs).length by simp; omega]
    rw [List.take_succ_eq_append_getElem (by rw [List.length_set]; exact hlt)]
    rw [List.getElem_set_self, List.take_set_of_le (Nat.le_refl _)]
    rw [List.drop_set_of_lt (by simp)]
    simp
theorem fill_sound {σ : Nat → FuncId} {place : Nat → Option (Nat × Nat)} {fr : Fr} {a : Act} (hf : FrR σ w0 ρ fr a.tmps) : ∀ {ps : List (Nat × Operand)} {qs : List (Nat × Nat × AO)} {cs cs' : List AV} {vs : Array Value}, partsOk σ place ps qs = true → VL σ w0 ρ cs vs.toList → fillA cs (partsOf fr qs) = some cs' →
    ∃ vs' : Array Value, Instr.fill place vs (ps.map fun p => (p.1, a.eval p.2)) = some vs' ∧ VL σ w0 ρ cs' vs'.toList := by
  intro ps
  induction ps with
  | nil =>
    intro qs cs cs' vs hp hl hv
    cases qs with
    | nil => cases hv; exact ⟨vs, rfl, hl⟩
    | cons q qs => simp [partsOk] at hp
  | cons p ps ih =>
    intro qs cs cs' vs hp hl hv
    obtain ⟨i, x⟩ := p
    cases qs with
    | nil => simp [partsOk] at hp
    | cons q qs =>
      obtain ⟨o, n, y⟩ := q
      simp only [partsOk, Bool.and_eq_true] at hp
      obtain ⟨⟨hp1, hp2⟩, hp3⟩ := hp
      have hv : ((cellsOf (ev fr y)).bind fun us => if us.length = n ∧ o + n ≤ cs.length then fillA (splice cs o us) (partsOf fr qs) else none) = some cs' := hv
      obtain ⟨us, hus, hv2⟩ := Option.bind_eq_some_iff.1 hv
      split at hv2
      · rename_i hc
        have hu := cellsOf_VL (okO_VR hp2 hf) hus
        cases hpl : place i with
        | none => rw [hpl] at hp1; cases hp1
        | some q =>
          obtain ⟨o', n'⟩ := q
          rw [hpl] at hp1
          simp only [Bool.and_eq_true] at hp1
          obtain rfl := Nat.eq_of_beq_eq_true hp1.1
          obtain rfl := Nat.eq_of_beq_eq_true hp1.2
          have hsz : (a.eval x).cells.size = n := by rw [← Array.length_toList, hu.1]; exact hc.1
          have hvs : vs.size = cs.length := by rw [← Array.length_toList]; exact hl.1
          have hfold := foldl_set o (a.eval x).cells.toList 0 vs (by rw [Array.length_toList, hsz]; omega)
          have hsp := hl.splice hu o
          have e : ((a.eval x).cells.zipIdx.foldl (fun cs (c, j) => cs.setIfInBounds (o + j) c) vs).toList = vs.toList.take o ++ (a.eval x).cells.toList ++ vs.toList.drop (o + (a.eval x).cells.toList.length) := by
            rw [← Array.foldl_toList, Array.toList_zipIdx]
            exact hfold
          obtain ⟨vs', h1, h2⟩ := ih (vs := (a.eval x).cells.zipIdx.foldl (fun cs (c, j) => cs.setIfInBounds (o + j) c) vs) hp3 (by rw [e]; exact hsp) hv2
          refine ⟨vs', ?_, h2⟩
          rw [List.map_cons]
          unfold Instr.fill
          simp only [hpl]
          rw [if_neg]
          · exact h1
          · simp only [Bool.or_eq_true, decide_eq_true_eq, not_or]
            exact ⟨by simp [hsz], by simp; omega⟩
      · cases hv2
theorem mapM_places : ∀ (l : List Field), (∀ f ∈ l, (szOf P f.type).isSome = true) → ∃ pl : List (Nat × Nat), l.mapM (fun (f : Field) => (P.info? f.type).map fun i => (f.offset, i.size)) = some pl ∧ ∀ i : Nat, pl[i]? = (l[i]?).bind fun (f : Field) => (szOf P f.type).map fun n => (f.offset, n)
  | [], _ => ⟨[], rfl, fun i => by simp⟩
  | f :: l, h => by
    obtain ⟨pl, h1, h2⟩ := mapM_places l (fun g hg => h g (List.mem_cons_of_mem _ hg))
    have hf := h f (List.mem_cons_self ..)
    unfold szOf at hf
    cases hi : P.info? f.type with
    | none => rw [hi] at hf; cases hf
    | some i =>
      refine ⟨(f.offset, i.size) :: pl, by simp [List.mapM_cons, hi, h1], fun j => ?_⟩
      cases j with
      | zero => simp [szOf, hi]
      | succ j => simpa using h2 j
theorem build_sound {fr : Fr} {a : Act} {w : World} {o : Oper} {t : TypeId} {ps : Array (Nat × Operand)} {z cs : List AV} {qs : List (Nat × Nat × AO)} (ho : o.op = .build t ps) (hok : okOp P σ o.op (.build z qs) = true) (hf : FrR σ w0 ρ fr a.tmps) (hv : fillA z (partsOf fr qs) = some cs) :
    ∃ u, (execOp a.eval o).run P w = .ok (.value u) w ∧ VR σ w0 ρ (.agg cs) u := by
  rw [ho] at hok
  simp only [okOp, Bool.and_eq_true] at hok
  obtain ⟨hz, hp⟩ := hok
  have hparts : (ps.map fun (i, x) => (i, a.eval x)).toList = ps.toList.map fun p => (p.1, a.eval p.2) := by
    rw [Array.toList_map]
  unfold zeroOk at hz
  split at hz
  case h_2 => cases hz
  rename_i it hit
  split at hz
  case h_2 => cases hz
  rename_i zv hzv
  have hzl : VL σ w0 ρ z zv.cells.toList := okVs_VL hz
  have done : ∀ vs', P.built t (ps.map fun (i, x) => (i, a.eval x)).toList = some vs' → VL σ w0 ρ cs vs'.toList → ∃ u, (execOp a.eval o).run P w = .ok (.value u) w ∧ VR σ w0 ρ (.agg cs) u := by
    intro vs' hb hl
    exact ⟨.agg vs', by simp [execOp, ho, run_build (P := P) w t _ vs' hb], hl.agg⟩
  split at hp
  · rename_i fs hu
    simp only [Bool.and_eq_true] at hp
    obtain ⟨h1, h2⟩ := hp
    obtain ⟨vs', h3, h4⟩ := fill_sound hf h2 hzl hv
    obtain ⟨pl, h5, h6⟩ := mapM_places fs.toList (fun f hf => by have := Array.all_eq_true_iff_forall_mem.1 h1 f (by simpa using hf); exact this)
    refine done vs' ?_ h4
    unfold Program.built
    simp only [hit, hu, hzv, h5]
    rw [hparts]
    have : (fun x => pl.toArray[x]?) = places P fs := by
      funext i
      unfold places
      rw [List.getElem?_toArray, h6 i]
      simp only [Array.getElem?_toList]
      cases fs[i]? <;> rfl
    rw [this]
    exact h3
  · rename_i n e hu
    split at hp
    · rename_i n hn
      obtain ⟨i, h1, h2⟩ := szOf_info hn
      obtain ⟨vs', h3, h4⟩ := fill_sound hf hp hzl hv
      refine done vs' ?_ h4
      unfold Program.built
      simp only [hit, hu, hzv, h1, h2]
      rw [hparts]
      exact h3
    · cases hp
  · cases hp
theorem optI_some {fr : Fr} {x : Option AO} {K : Option Int → O} {r : AV × AH} (h : optI fr x K = some r) : (x = none ∧ K none = some r) ∨ ∃ y k n, x = some y ∧ ev fr y = .int k n ∧ K (some n) = some r := by
  cases x with
  | none => exact .inl ⟨rfl, h⟩
  | some y => obtain ⟨k, n, h1, h2⟩ := asI_some (show asI (ev fr y) (fun _ n => K (some n)) = some r from h); exact .inr ⟨y, k, n, rfl, h1, h2⟩
theorem run_bounds {n cap : Nat} {l u : Int} (lo hi : Option Value) (hl : (lo = none ∧ l = 0) ∨ ∃ k, lo = some (.int k l)) (hu : (hi = none ∧ u = n) ∨ ∃ k, hi = some (.int k u)) (h0 : 0 ≤ l) (h1 : l ≤ u) (h2 : u ≤ n) (hc : n ≤ cap) (w : World) :
    (Instr.sliceBounds true n cap lo hi none).run P w = .ok (l.toNat, u.toNat, cap) w := by
  obtain ⟨l', rfl⟩ : ∃ m : Nat, l = m := ⟨l.toNat, by omega⟩
  obtain ⟨u', rfl⟩ : ∃ m : Nat, u = m := ⟨u.toNat, by omega⟩
  have b1 : ∀ k, (Instr.sliceBound (.int k (u' : Int)) cap .sliceAcap).run P w = .ok u' w := by
    intro k
    have : u' ≤ cap := by omega
    simp [Instr.sliceBound, asIntOf, this]
  have b2 : ∀ k, (Instr.sliceBound (.int k (l' : Int)) u' .sliceB).run P w = .ok l' w := by
    intro k
    have : l' ≤ u' := by omega
    simp [Instr.sliceBound, asIntOf, this]
  rw [Int.toNat_natCast, Int.toNat_natCast]
  rcases hl with ⟨rfl, hl⟩ | ⟨k1, rfl⟩ <;> rcases hu with ⟨rfl, hu⟩ | ⟨k2, rfl⟩
  · have e1 : l' = 0 := by omega
    have e2 : u' = n := by omega
    simp [Instr.sliceBounds, e1, e2]
  · have e1 : l' = 0 := by omega
    simp [Instr.sliceBounds, b1, e1]
  · have e2 : u' = n := by omega
    have := b2 k1
    rw [e2] at this
    simp [Instr.sliceBounds, this, e2]
  · simp [Instr.sliceBounds, b1, b2]
theorem slice_sound {s : Nat} {x v : AV} {lo hi : Option Int} {u : Value} {t e : TypeId} {w : World} {lv hv : Option Value} (he : elemOfS P t = some e) (hs : szOf P e = some s) (hx : VR σ w0 ρ x u) (hlo : (lo = none ∧ lv = none) ∨ ∃ k n, lo = some n ∧ lv = some (.int k n)) (hhi : (hi = none ∧ hv = none) ∨ ∃ k n, hi = some n ∧ hv = some (.int k n))
    (hr : aSlice s x lo hi = some v) : ∃ uv, (Instr.sliceAt t u lv hv none).run P w = .ok uv w ∧ VR σ w0 ρ v uv := by
  unfold aSlice at hr
  obtain ⟨n, hn, hr⟩ := Option.bind_eq_some_iff.1 hr
  dsimp only at hr
  split at hr
  case isFalse => cases hr
  rename_i hb
  obtain ⟨h0, h1, h2⟩ := hb
  generalize hl : lo.getD 0 = l at h0 h1 hr
  generalize hu : hi.getD (n : Int) = uu at h1 h2 hr
  have hl' : (lv = none ∧ l = 0) ∨ ∃ k, lv = some (.int k l) := by
    rcases hlo with ⟨rfl, rfl⟩ | ⟨k, m, rfl, rfl⟩
    · exact .inl ⟨rfl, by simpa using hl.symm⟩
    · simp at hl; subst hl; exact .inr ⟨k, rfl⟩
  have hu' : (hv = none ∧ uu = n) ∨ ∃ k, hv = some (.int k uu) := by
    rcases hhi with ⟨rfl, rfl⟩ | ⟨k, m, rfl, rfl⟩
    · exact .inl ⟨rfl, by simpa using hu.symm⟩
    · simp at hu; subst hu; exact .inr ⟨k, rfl⟩
  have hund := elemOfS_und he
  have hsz := run_sizeOf (P := P) hs
  have go : ∀ (A : Option Addr) (cap : Nat), n ≤ cap → (Instr.sliceAt t (.slice A n cap) lv hv none).run P w = .ok (.slice (if cap = l.toNat then A else A.map (·.add (l.toNat * s))) (uu.toNat - l.toNat) (cap - l.toNat)) w := by
    intro A cap hc
    simp [Instr.sliceAt, Instr.slice, run_underlying hund, run_bounds (P := P) lv hv hl' hu' h0 h1 h2 hc w, hsz]
  have hlen : (uu - l).toNat = uu.toNat - l.toNat := by omega
  cases hx with
  | nils =>
    cases hn
    cases hr
    refine ⟨_, go none 0 (Nat.le_refl _), ?_⟩
    have e1 : l.toNat = 0 := by omega
    have e2 : uu.toNat = 0 := by omega
    simp [e1, e2]
    exact .nils
  | sl b off n' s' g z cap a h4 h5 h6 =>
    cases hn
    dsimp only at hr
    split at hr
    case isFalse => cases hr
    rename_i hs'
    subst hs'
    cases hr
    refine ⟨_, go (some a) cap h5, ?_⟩
    rw [hlen]
    by_cases hcl : cap = l.toNat
    · rw [if_pos hcl]
      refine .sl b _ _ _ g z _ a h4 (by omega) ?_
      rcases h6 with ⟨rfl, h7⟩ | ⟨h7, h8⟩
      · by_cases hz : l.toNat * s' = 0
        · refine .inl ⟨by rw [hz]; rfl, ?_⟩
          rw [hz, hcl, Nat.sub_self, Nat.zero_mul]
          rw [hcl, hz] at h7
          omega
        · exact .inr ⟨by omega, by omega⟩
      · exact .inr ⟨by omega, by omega⟩
    · rw [if_neg hcl]
      refine .sl b _ _ _ g z _ _ h4 (by omega) ?_
      rcases h6 with ⟨rfl, h7⟩ | ⟨h7, h8⟩
      · refine .inl ⟨by show (⟨g, off, none⟩ : Addr).add _ = _; rw [add_off], ?_⟩
        have : cap = l.toNat + (cap - l.toNat) := by omega
        rw [this, Nat.add_mul] at h7
        omega
      · exact absurd (show cap = l.toNat by omega) hcl
  | ro cs n' cap g o f h4 h5 h6 h7 =>
    cases hn
    dsimp only at hr
    cases hr
    refine ⟨_, go (some ⟨g, o, none⟩) cap h4, ?_⟩
    rw [hlen]
    by_cases hz : uu.toNat - l.toNat = 0
    · rw [hz]; exact .ro0 _ _ _
    · rw [if_neg (by omega), Option.map_some, add_off]
      have key : ∀ j c, ((cs.drop (l.toNat * s)).take ((uu - l).toNat * s))[j]? = some c → cs[l.toNat * s + j]? = some c := by
        intro j c hj
        rw [List.getElem?_take] at hj
        split at hj
        · rwa [List.getElem?_drop] at hj
        · cases hj
      rw [← hlen]
      refine .ro _ _ _ g (o + l.toNat * s) (fun j => f (l.toNat * s + j)) (by omega) (fun j c hj => ?_) (fun j c hj => h6 _ c (key j c hj)) (fun j c hj => h7 _ c (key j c hj))
      rw [Nat.add_assoc]
      exact h5 _ c (key j c hj)
  | ro0 cs A cap =>
    cases hn
    dsimp only at hr
    cases hr
    refine ⟨_, go A cap (Nat.zero_le _), ?_⟩
    have e1 : l.toNat = 0 := by omega
    have e2 : uu.toNat = 0 := by omega
    have e3 : (uu - l).toNat = 0 := by omega
    rw [e3, e1, e2]
    exact .ro0 _ _ _
  | _ => simp [slen] at hn
theorem idx_sound {s : Nat} {x v : AV} {k : Int} {kk : IntKind} {u : Value} {t e : TypeId} {w : World} (he : elemOfS P t = some e) (hs : szOf P e = some s) (hx : VR σ w0 ρ x u) (hr : aIdx s x k = some v) :
    ∃ uv, (Instr.indexAt t u (.int kk k)).run P w = .ok uv w ∧ VR σ w0 ρ v uv := by
  have hund := elemOfS_und he
  have hsz := run_sizeOf (P := P) hs
  have go : ∀ (a : Addr) (n cap : Nat), 0 ≤ k ∧ k < (n : Int) → (Instr.indexAt t (.slice (some a) n cap) (.int kk k)).run P w = .ok (.pointer (some (a.add (k.toNat * s)))) w := by
    intro a n cap hk
    simp [Instr.indexAt, asIntOf, run_underlying hund, hk, hsz]
  cases hx with
  | sl b off n s' g z cap a h4 h5 h6 =>
    unfold aIdx at hr
    dsimp only at hr
    split at hr
    case isFalse => cases hr
    rename_i hk
    obtain ⟨hk1, hk2, rfl⟩ := hk
    cases hr
    refine ⟨_, go a n cap ⟨hk1, hk2⟩, ?_⟩
    rcases h6 with ⟨rfl, _⟩ | ⟨h7, _⟩
    · rw [add_off]; exact .ptr b _ g z h4
    · omega
  | ro cs n cap g o f h4 h5 h6 h7 =>
    unfold aIdx at hr
    dsimp only at hr
    split at hr
    case isFalse => cases hr
    rename_i hk
    cases hr
    refine ⟨_, go _ n cap hk, ?_⟩
    rw [add_off]
    exact .rop cs _ g o f h5 h6 h7
  | ro0 cs A cap =>
    unfold aIdx at hr
    dsimp only at hr
    split at hr
    case isFalse => cases hr
    rename_i hk
    omega
  | _ => simp [aIdx] at hr
theorem ptr_add {x v : AV} {u : Value} {n : Nat} (hx : VR σ w0 ρ x u) (hr : aFld n x = some v) : ∃ ad, u = .pointer (some ad) ∧ ad.spot = none ∧ VR σ w0 ρ v (.pointer (some (ad.add n))) := by
  cases hx with
  | ptr b off g z h =>
    cases hr
    exact ⟨_, rfl, rfl, by rw [add_off]; exact .ptr b _ g z h⟩
  | rop cs off g o f h1 h2 h3 =>
    cases hr
    exact ⟨_, rfl, rfl, by rw [add_off, Nat.add_assoc]; exact .rop cs _ g o f h1 h2 h3⟩
  | _ => cases hr
end Go.AM
