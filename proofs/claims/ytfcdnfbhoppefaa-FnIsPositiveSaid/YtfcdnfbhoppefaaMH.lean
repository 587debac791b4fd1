/- Operations of the machine that write, make memory or call. -/
import Derived.Test.YtfcdnfbhoppefaaMG
namespace Go.AM
set_option linter.unusedVariables false
set_option linter.unusedSimpArgs false
open Go.RowKit
variable {σ : Nat → FuncId} {w0 : World} {ρ ρ' : Mp} {P : Program} {call : Nat → List AV → AH → O}
theorem rep_flat {α : Type} [Inhabited α] (l : List α) : ∀ n : Nat, (List.range (n * l.length)).map (fun i => l[i % l.length]!) = (List.replicate n l).flatten
  | 0 => by simp
  | n + 1 => by
    rw [Nat.succ_mul, List.range_add, List.map_append, rep_flat l n, List.replicate_succ', List.flatten_append]
    congr 1
    simp only [List.map_map, List.flatten_cons, List.flatten_nil, List.append_nil]
    apply List.ext_getElem
    · simp
    · intro i h1 h2
      have hi : i < l.length := h2
      simp only [List.getElem_map, List.getElem_range, Function.comp]
      rw [Nat.add_comm, Nat.mul_comm, Nat.add_mul_mod_self_left, Nat.mod_eq_of_lt hi]
      simp [hi]
theorem rep_cells (zc : Array Value) (n s : Nat) (hs : zc.size = s) : ((Array.range (n * s)).map (fun i => zc[i % zc.size]!)).toList = (List.replicate n zc.toList).flatten := by
  rw [← rep_flat zc.toList n]
  subst hs
  simp
  intro i _
  rw [Array.getElem!_eq_getD, Array.getD_eq_getD_getElem?]
def okFn (P : Program) (f : FuncId) : Bool := match P.funcs[f]? with
  | some fn => fn.body.isSome && !(fn.name == "runtime.NumGoroutine")
  | none => false
theorem okFn_run {f : FuncId} (h : okFn P f = true) (args : Array Value) (w : World) : (callFunc f args).run P w = .ok (.enter f args) w := by
  unfold okFn at h
  split at h
  · rename_i fn hf
    simp only [Bool.and_eq_true, Bool.not_eq_true'] at h
    obtain ⟨h1, h2⟩ := h
    have h2 : fn.name ≠ "runtime.NumGoroutine" := by simpa using h2
    obtain ⟨c, hc⟩ := Option.isSome_iff_exists.1 h1
    simp [callFunc, hf, h2, hc]
  · cases h
/-- Calls that the machine makes are Go's. -/
def CallS (P : Program) (σ : Nat → FuncId) (w0 : World) (call : Nat → List AV → AH → O) : Prop :=
  ∀ f xs h r, call f xs h = some r → okFn P (σ f) = true ∧ ∀ (ρ : Mp) (w : World) (vs : Array Value), HR σ w0 ρ h w → VA σ w0 ρ xs vs.toList →
    Calls P (σ f) vs w fun e w' => ∃ u ρ', e = .returned u ∧ ρ.le ρ' ∧ VR σ w0 ρ' r.1 u ∧ HR σ w0 ρ' r.2 w'
theorem call_sound (hc : CallS P σ w0 call) {f : Nat} {xs : List AV} {h h' : AH} {v : AV} {sh : ASh} {o : Oper} {a : Act} {w : World} {args : Array Value} {K : Act → World → Prop} {Q : Exit → Act → World → Prop} (hr : HR σ w0 ρ h w) (hl : VA σ w0 ρ xs args.toList)
    (hv : (match sh with
      | .any => pCall call f xs h fun v h' => some (v, h')
      | .int k => pCallI call k f xs h fun n h' => some (.int k n, h')
      | .bool => pCallB call f xs h fun b h' => some (.bool b, h')) = some (v, h'))
    (hrun : okFn P (σ f) = true → (execOp a.eval o).run P w = .ok (.enter (σ f) args) w)
    (hK : ∀ ρ' u w', ρ.le ρ' → VR σ w0 ρ' v u → HR σ w0 ρ' h' w' → K (a.put o.dst u) w') : Oper.wp P o a w K Q := by
  have key : call f xs h = some (v, h') := by
    cases sh with
    | any =>
      obtain ⟨p, hp, hv⟩ := Option.bind_eq_some_iff.1 (show (call f xs h).bind (fun p => some (p.1, p.2)) = some (v, h') from hv)
      cases hv; exact hp
    | int k =>
      obtain ⟨⟨x, y⟩, hp, hv⟩ := Option.bind_eq_some_iff.1 (show (call f xs h).bind (fun p => asK k p.1 fun n => some (.int k n, p.2)) = some (v, h') from hv)
      rw [hp]
      cases x <;> try (cases hv; done)
      rename_i k' n
      obtain ⟨h1, h2⟩ := cond_some (show (bif kEq k k' then some (AV.int k n, y) else none) = some (v, h') from hv)
      obtain rfl := kEq_eq h1
      exact h2
    | bool =>
      obtain ⟨⟨x, y⟩, hp, hv⟩ := Option.bind_eq_some_iff.1 (show (call f xs h).bind (fun p => asB p.1 fun b => some (.bool b, p.2)) = some (v, h') from hv)
      rw [hp]
      cases x <;> first | exact hv | cases hv
  obtain ⟨h1, h2⟩ := hc f xs h _ key
  unfold Oper.wp
  rw [hrun h1, Oper.upon_enter]
  refine (h2 ρ w args hr hl).mono fun e w' he => ?_
  obtain ⟨u, ρ', rfl, h3, h4, h5⟩ := he
  exact hK ρ' u w' h3 h4 h5
theorem value_wp {o : Oper} {a : Act} {w w' : World} {u : Value} {K : Act → World → Prop} {Q : Exit → Act → World → Prop} (h : (execOp a.eval o).run P w = .ok (.value u) w') (hK : K (a.put o.dst u) w') : Oper.wp P o a w K Q := by
  unfold Oper.wp; rw [h]; exact hK
theorem skip_wp {o : Oper} {a : Act} {w w' : World} {K : Act → World → Prop} {Q : Exit → Act → World → Prop} (h : (execOp a.eval o).run P w = .ok .skip w') (hK : K (a.put o.dst undef) w') : Oper.wp P o a w K Q := by
  unfold Oper.wp; rw [h]; exact hK
/-- All cells of a slice. -/
theorem HR.slice {h : AH} {w : World} (r : HR σ w0 ρ h w) {s n : Nat} {x : AV} {u : Value} {vs : List AV} (hx : VR σ w0 ρ x u) (hv : rdS h s x = some vs) (hn : slen x = some n) :
    (u = .slice none 0 0 ∧ x = .nils ∧ n = 0 ∧ vs = []) ∨ (x ≠ .nils ∧ vs.length = n * s ∧ ∃ A cap us, u = .slice A n cap ∧ n ≤ cap ∧ VL σ w0 ρ vs us ∧ ((n = 0) ∨ ∃ ad, A = some ad ∧ ∀ j v, us[j]? = some v → w.cell? (ad.add j) = some v)) := by
  cases hx with
  | nils => cases hv; cases hn; exact .inl ⟨rfl, rfl, rfl, rfl⟩
  | sl b off n' s' g z cap a h4 h5 h6 =>
    cases hn
    refine .inr ⟨(by intro e; cases e), ?_⟩
    simp only [rdS] at hv
    split at hv
    case isFalse => cases hv
    rename_i hs
    subst hs
    obtain ⟨cs, hcs, hv⟩ := Option.bind_eq_some_iff.1 hv
    split at hv
    case isFalse => cases hv
    rename_i hle
    cases hv
    obtain ⟨c, e, q1, q2, q3, q4⟩ := r.blk b cs g z hcs h4
    refine ⟨by rw [List.length_take, List.length_drop]; omega, _, cap, _, rfl, h5, (q4.drop off).take (n * s'), ?_⟩
    rcases h6 with ⟨rfl, h7⟩ | ⟨h7, h8⟩
    · refine .inr ⟨_, rfl, fun j v hj => ?_⟩
      rw [List.getElem?_take] at hj
      split at hj
      · rw [List.getElem?_drop, List.getElem?_take] at hj
        split at hj
        · rw [add_off, cell_of_row w g _ c e (0, 0) q1]
          simpa using hj
        · cases hj
      · cases hj
    · exact .inl (by omega)
  | ro cs n' cap g o f h4 h5 h6 h7 =>
    cases hn
    refine .inr ⟨(by intro e; cases e), ?_⟩
    simp only [rdS] at hv
    split at hv
    case isFalse => cases hv
    rename_i hl
    cases hv
    refine ⟨hl.symm, _, cap, (List.range vs.length).map f, rfl, h4, ⟨by simp, fun j x u hx hu => ?_⟩, .inr ⟨_, rfl, fun j v hj => ?_⟩⟩
    · have hj := getD_of hx
      have : u = f j := by
        rw [List.getElem?_map, List.getElem?_range hj] at hu
        simpa using hu.symm
      subst this
      exact ⟨h6 j x hx, h7 j x hx⟩
    · have hj' : j < vs.length := by have := getD_of hj; simpa using this
      have : v = f j := by
        rw [List.getElem?_map, List.getElem?_range hj'] at hj
        simpa using hj.symm
      subst this
      have hcell := h5 j vs[j] (List.getElem?_eq_getElem _)
      rw [add_off, r.bel.cell (World.block_lt_of_cell? w0 _ hcell)]
      exact hcell
  | ro0 cs A cap =>
    cases hn
    refine .inr ⟨(by intro e; cases e), ?_⟩
    simp only [rdS] at hv
    split at hv
    case isFalse => cases hv
    rename_i hl
    cases hv
    have : vs = [] := List.eq_nil_of_length_eq_zero (by omega)
    subst this
    exact ⟨by simp, A, cap, [], rfl, Nat.zero_le _, VL.nil, .inl rfl⟩
  | _ => cases hn
end Go.AM
