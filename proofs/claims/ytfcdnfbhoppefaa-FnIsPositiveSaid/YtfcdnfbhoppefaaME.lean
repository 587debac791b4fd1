/- Each quiet operation of the machine is Go's. -/
import Derived.Test.YtfcdnfbhoppefaaMD
namespace Go.AM
set_option linter.unusedVariables false
set_option linter.unusedSimpArgs false
open Go.RowKit
variable {σ : Nat → FuncId} {w0 : World} {ρ ρ' : Mp} {P : Program} {call : Nat → List AV → AH → O}
def quiet : AOp → Bool
  | .move _ | .pick _ _ _ | .build _ _ | .load _ _ | .nilck _ | .bin _ _ _ | .eqa _ _ _ | .eqb _ _ _ | .isnil _ _ | .not _ | .neg _ | .conv _ _ | .mkfn _ _ | .slice _ _ _ _ | .fld _ _ | .field _ _ _ | .idx _ _ _ | .idxA _ _ _ _ | .extract _ _ | .len _ | .min _ _ | .max _ _ => true
  | _ => false
theorem asI_some {v : AV} {K : IntKind → Int → O} {r : AV × AH} (h : asI v K = some r) : ∃ k n, v = .int k n ∧ K k n = some r := by
  cases v <;> first | exact ⟨_, _, rfl, h⟩ | cases h
theorem asB_some {v : AV} {K : Bool → O} {r : AV × AH} (h : asB v K = some r) : ∃ b, v = .bool b ∧ K b = some r := by
  cases v <;> first | exact ⟨_, rfl, h⟩ | cases h
theorem VR_int {k : IntKind} {n : Int} {u : Value} (h : VR σ w0 ρ (.int k n) u) : u = .int k n := by cases h; rfl
theorem VR_bool {b : Bool} {u : Value} (h : VR σ w0 ρ (.bool b) u) : u = .bool b := by cases h; rfl
theorem cond_some {b : Bool} {x : O} {r : AV × AH} (h : (bif b then x else none) = some r) : b = true ∧ x = some r := by
  cases b
  · cases h
  · exact ⟨rfl, h⟩
theorem getD_of {α : Type} {l : List α} {j : Nat} {x : α} (h : l[j]? = some x) : j < l.length := (List.getElem?_eq_some_iff.1 h).1
theorem add_off (g o n : Nat) : (⟨g, o, none⟩ : Addr).add n = ⟨g, o + n, none⟩ := by unfold Addr.add; split <;> simp_all
theorem run_bin {o : Oper} {a : Act} {w : World} {op : BinOp} {t t' : TypeId} {x y : Operand} {k k' : IntKind} {m n : Int} {bo : ABin} {v : AV} {h h' : AH} (ho : o.op = .binOp op t x y t') (hb : binOk op bo = true) (hx : a.eval x = .int k m) (hy : a.eval y = .int k' n)
    (hv : (pBin bo k k' m n fun v => some (v, h)) = some (v, h')) : h' = h ∧ ∃ u, (execOp a.eval o).run P w = .ok (.value u) w ∧ VR σ w0 ρ v u := by
  have hk : ∀ (x : O), (bif kEq k k' then x else none) = some (v, h') → k = k' ∧ x = some (v, h') := fun x h => ⟨kEq_eq (cond_some h).1, (cond_some h).2⟩
  have fin : ∀ (u : AV) (uu : Value), VR σ w0 ρ u uu → (execOp a.eval o).run P w = .ok (.value uu) w → (some (u, h) : O) = some (v, h') → h' = h ∧ ∃ u, (execOp a.eval o).run P w = .ok (.value u) w ∧ VR σ w0 ρ v u := by
    intro u uu hu hr e
    cases e
    exact ⟨rfl, uu, hr, hu⟩
  cases bo <;> simp only [pBin, pShift] at hv <;> cases op <;> first
    | (cases hb; done)
    | (obtain ⟨rfl, hv2⟩ := hk _ hv
       refine fin _ _ (.int _ _) ?_ hv2
       simp [execOp, ho, hx, hy, eqGuard_at_int, binOp, Op.intArith]
       done)
    | (obtain ⟨rfl, hv2⟩ := hk _ hv
       refine fin _ _ (.bool _) ?_ hv2
       simp [execOp, ho, hx, hy, eqGuard_at_int, binOp, Op.intCmp]
       done)
    | (obtain ⟨rfl, hv2⟩ := hk _ hv
       refine fin _ _ (.int _ _) ?_ hv2
       simp [execOp, ho, hx, hy, eqGuard_at_int, binOp, Op.intBits, aBits]
       done)
    | (obtain ⟨rfl, hv2⟩ := hk _ hv
       split at hv2
       · cases hv2
       · rename_i hn
         refine fin _ _ (.int _ _) ?_ hv2
         simp [execOp, ho, hx, hy, eqGuard_at_int, binOp, Op.intDiv, hn]
         done)
    | (split at hv
       · cases hv
       · rename_i hn
         refine fin _ _ (.int _ _) ?_ hv
         simp [execOp, ho, hx, hy, eqGuard_at_int, binOp, Op.shift, hn]
         done)
theorem run_loadVar1 {t : TypeId} {ad : Addr} {w : World} {v : Value} (hs : shapeOk P t none = true) (hc : w.cell? ad = some v) : (loadVar t ad).run P w = .ok v w := by
  unfold shapeOk at hs
  split at hs
  · cases hs
  · cases hs
  · rename_i d h1 h2 hd
    have : (isAgg t).run P w = .ok false w := by
      simp only [isAgg, Sem.run_bind, run_underlying hd, Result.andThen_ok]
      rfl
    simp [loadVar, this, hc]
  · cases hs
theorem run_loadVarN {t : TypeId} {ad : Addr} {w : World} {n : Nat} {cs : List Value} (hs : shapeOk P t (some n) = true) (hl : cs.length = n) (hc : ∀ j v, cs[j]? = some v → w.cell? (ad.add j) = some v) : (loadVar t ad).run P w = .ok (.agg cs.toArray) w := by
  have hcells := run_loadCells_list (P := P) w ad cs hc
  rw [hl] at hcells
  unfold shapeOk at hs
  split at hs
  · rename_i hd
    have h1 := run_sizeOf (P := P) (isNat_eq hs) w
    simp [loadVar, isAgg, run_underlying hd, h1, hcells]
  · rename_i hd
    have h1 := run_sizeOf (P := P) (isNat_eq hs) w
    simp [loadVar, isAgg, run_underlying hd, h1, hcells]
  · cases hs
  · cases hs
/-- What lies behind a pointer. -/
theorem HR.cells {h : AH} {w : World} (r : HR σ w0 ρ h w) {p : AV} {u : Value} (hp : VR σ w0 ρ p u) {cs : List AV} (hc : aCells h p = some cs) :
    ∃ ad vs, u = .pointer (some ad) ∧ VL σ w0 ρ cs vs ∧ ∀ j v, vs[j]? = some v → w.cell? (ad.add j) = some v := by
  cases hp with
  | ptr b off g z hb =>
    simp only [aCells, Option.map_eq_some_iff] at hc
    obtain ⟨cs', h1, rfl⟩ := hc
    obtain ⟨c, e, h2, h3, h4, h5⟩ := r.blk b cs' g z h1 hb
    refine ⟨_, _, rfl, h5.drop off, fun j v hv => ?_⟩
    rw [List.getElem?_drop, List.getElem?_take] at hv
    split at hv
    · rw [add_off, cell_of_row w g _ c e (0, 0) h2]
      simpa using hv
    · cases hv
  | rop cs' off g o f h1 h2 h3 =>
    simp only [aCells, Option.some.injEq] at hc
    subst hc
    refine ⟨_, (List.range (cs'.length - off)).map (fun j => f (off + j)), rfl, ⟨by simp, fun j x v hx hv => ?_⟩, fun j v hv => ?_⟩
    · rw [List.getElem?_drop] at hx
      have hj := getD_of hx
      have : v = f (off + j) := by
        rw [List.getElem?_map, List.getElem?_range (by omega)] at hv
        simpa using hv.symm
      subst this
      exact ⟨h2 _ x hx, h3 _ x hx⟩
    · have hj : j < cs'.length - off := by have := getD_of hv; simpa using this
      have : v = f (off + j) := by
        rw [List.getElem?_map, List.getElem?_range hj] at hv
        simpa using hv.symm
      subst this
      have hcell := h1 (off + j) (cs'[off + j]'(by omega)) (List.getElem?_eq_getElem _)
      rw [add_off]
      rw [show o + off + j = o + (off + j) by omega]
      rw [r.bel.cell (World.block_lt_of_cell? w0 _ hcell)]
      exact hcell
  | _ => simp [aCells] at hc
theorem load_sound {h : AH} {w : World} (r : HR σ w0 ρ h w) {p : AV} {u : Value} (hp : VR σ w0 ρ p u) {t : TypeId} {n : Option Nat} (hs : shapeOk P t n = true) {v : AV} (hv : aLd h n p = some v) :
    ∃ uv, (Instr.loadAt t u).run P w = .ok uv w ∧ VR σ w0 ρ v uv := by
  unfold aLd at hv
  obtain ⟨cs, hc, ht⟩ := Option.bind_eq_some_iff.1 hv
  obtain ⟨ad, vs, rfl, hl, hcell⟩ := r.cells hp hc
  cases n with
  | none =>
    have hh : cs[0]? = some v := by rw [← List.head?_eq_getElem?]; exact ht
    have hlt := getD_of hh
    have hv0 : vs[0]? = some (vs[0]'(by rw [hl.1]; exact hlt)) := List.getElem?_eq_getElem _
    have hz := hcell 0 _ hv0
    rw [Addr.add_zero'] at hz
    exact ⟨_, by simp [Instr.loadAt, Instr.sureAddr, run_loadVar1 hs hz], (hl.2 0 _ _ hh hv0).1⟩
  | some n =>
    unfold take1 at ht
    dsimp only at ht
    split at ht
    · rename_i hle
      cases ht
      refine ⟨.agg (vs.take n).toArray, ?_, (hl.take n).agg⟩
      have := run_loadVarN (P := P) (ad := ad) (w := w) (cs := vs.take n) hs (by rw [List.length_take, hl.1]; omega) (fun j v hv => by
        rw [List.getElem?_take] at hv
        split at hv
        · exact hcell j v hv
        · cases hv)
      simp [Instr.loadAt, Instr.sureAddr, this]
    · cases ht
theorem shape_part {t : TypeId} {n : Option Nat} (hs : shapeOk P t n = true) {cs : List AV} {vs : Array Value} (hl : VL σ w0 ρ cs vs.toList) {off : Nat} {v : AV} (hv : take1 n (cs.drop off) = some v) (w : World) :
    ∃ uv, (part t vs off).run P w = .ok uv w ∧ VR σ w0 ρ v uv := by
  cases n with
  | none =>
    have hh : cs[off]? = some v := by
      have : (cs.drop off)[0]? = some v := by rw [← List.head?_eq_getElem?]; exact hv
      rwa [List.getElem?_drop, Nat.add_zero] at this
    have hlt := getD_of hh
    have hsz : off < vs.size := by have := hl.1; rw [Array.length_toList] at this; omega
    have hvs : vs[off]? = some vs[off] := Array.getElem?_eq_getElem hsz
    refine ⟨vs[off], ?_, (hl.2 off v vs[off] hh (by simp [hsz])).1⟩
    unfold shapeOk at hs
    split at hs
    · cases hs
    · cases hs
    · rename_i d h1 h2 hd
      have : (isAgg t).run P w = .ok false w := by
        simp only [isAgg, Sem.run_bind, run_underlying hd, Result.andThen_ok]
        rfl
      simp [part, this, hvs]
    · cases hs
  | some n =>
    unfold take1 at hv
    dsimp only at hv
    split at hv
    · rename_i hle
      cases hv
      refine ⟨.agg (vs.extract off (off + n)), ?_, ?_⟩
      · unfold shapeOk at hs
        split at hs
        · rename_i hd
          have h1 := run_sizeOf (P := P) (isNat_eq hs) w
          simp [part, isAgg, run_underlying hd, h1]
        · rename_i hd
          have h1 := run_sizeOf (P := P) (isNat_eq hs) w
          simp [part, isAgg, run_underlying hd, h1]
        · cases hs
        · cases hs
      · have := ((hl.drop off).take n).agg
        have e : ((vs.toList.drop off).take n).toArray = vs.extract off (off + n) := by
          apply Array.ext'
          simp [List.take_drop]
        rwa [e] at this
    · cases hv
end Go.AM
