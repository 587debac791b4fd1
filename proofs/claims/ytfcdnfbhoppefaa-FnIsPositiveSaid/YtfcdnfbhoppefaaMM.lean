/- Regions that draw their order: whatever order comes, the end is the machine's. -/
import Derived.Test.YtfcdnfbhoppefaaML
namespace Go.AM
set_option linter.unusedVariables false
set_option linter.unusedSimpArgs false
open Go.RowKit
variable {σ : Nat → FuncId} {w0 : World} {ρ ρ' : Mp} {P : Program} {call : Nat → List AV → AH → O}
/-- How many of the first n are not done. -/
def left (D : Nat → Bool) : Nat → Nat
  | 0 => 0
  | n + 1 => left D n + (bif D n then 0 else 1)
def upd (D : Nat → Bool) (p : Nat) : Nat → Bool := fun q => if q = p then true else D q
theorem upd_ne {D : Nat → Bool} {p q : Nat} (h : q ≠ p) : upd D p q = D q := if_neg h
theorem upd_self {D : Nat → Bool} {p : Nat} : upd D p p = true := if_pos rfl
theorem left_upd (D : Nat → Bool) (p : Nat) (hp : D p = false) : ∀ n, p < n → left (upd D p) n + 1 = left D n := by
  have other : ∀ n, n ≤ p → left (upd D p) n = left D n := by
    intro n
    induction n with
    | zero => intro _; rfl
    | succ n ih => intro h; simp only [left]; rw [ih (by omega), upd_ne (by omega)]
  intro n
  induction n with
  | zero => intro h; omega
  | succ n ih =>
    intro h
    by_cases e : p = n
    · subst e
      simp only [left]
      rw [other p (Nat.le_refl _), upd_self, hp]
      rfl
    · have := ih (by omega)
      simp only [left]
      rw [upd_ne (by omega : n ≠ p)]
      omega
theorem left_zero (D : Nat → Bool) : ∀ n, left D n = 0 → ∀ p, p < n → D p = true := by
  intro n
  induction n with
  | zero => intro _ p hp; omega
  | succ n ih =>
    intro h p hp
    simp only [left] at h
    by_cases e : p = n
    · subst e
      cases hd : D p with
      | true => rfl
      | false => rw [hd] at h; simp at h
    · exact ih (by omega) p (by omega)
theorem left_none (n : Nat) : left (fun _ => false) n = n := by
  induction n with
  | zero => rfl
  | succ n ih => simp only [left, ih]; rfl
/-- The frame when some operations have been carried out. -/
structure FrL (l : List AOper) (vs : Nat → AV) (fr0 : Fr) (D : Nat → Bool) (fr : Fr) : Prop where
  len : fr.length = fr0.length
  yes : ∀ p t, p < l.length → (l.getD p default).dst = some t → t < fr0.length → D p = true → fr.at t = vs p
  no : ∀ t, (∀ p, p < l.length → (l.getD p default).dst = some t → D p = false) → fr.at t = fr0.at t
theorem FrL.step {l : List AOper} {vs : Nat → AV} {fr0 : Fr} {D : Nat → Bool} {fr fr' : Fr} (h : FrL l vs fr0 D fr) {p : Nat} (hp : p < l.length) (hd : ∀ q, q < l.length → q ≠ p → ∀ t, (l.getD q default).dst = some t → (l.getD p default).dst ≠ some t) (hl : fr'.length = fr.length) (ha : ∀ t, fr'.at t = if (l.getD p default).dst = some t ∧ t < fr.length then vs p else fr.at t) : FrL l vs fr0 (upd D p) fr' := by
  refine ⟨by rw [hl, h.len], fun q t hq hqt ht hD => ?_, fun t hn => ?_⟩
  · rw [ha t]
    by_cases e : q = p
    · subst e; rw [if_pos ⟨hqt, by rw [h.len]; exact ht⟩]
    · rw [if_neg (fun x => hd q hq e t hqt x.1)]
      refine h.yes q t hq hqt ht ?_
      unfold upd at hD
      rwa [if_neg e] at hD
  · rw [ha t, if_neg]
    · refine h.no t (fun q hq hqt => ?_)
      have := hn q hq hqt
      unfold upd at this
      by_cases e : q = p
      · rw [if_pos e] at this; cases this
      · rwa [if_neg e] at this
    · intro x
      have := hn p hp x.1
      simp [upd] at this
theorem region_drawn (hc : CallS P σ w0 call) {id : Nat} {ops : Array Oper} {A : List Nat} {Q : Exit → Act → World → Prop} {l : List AOper} {fr0 frn : Fr} {h0 hn : AH} {a0 : Act} {w : World} (hm : P.follows .mixedOrders = true) (hr : OpsR call l fr0 h0 frn hn) {N : Nat} (hN : N ≤ fr0.length) (hok : okDrawn P σ N ops A l = true) (hf0 : FrR σ w0 ρ fr0 a0.tmps) (hh0 : HR σ w0 ρ h0 w)
    (hQ : ∀ ρ' a' w', ρ.le ρ' → FrR σ w0 ρ' frn a'.tmps → a'.defers = a0.defers → HR σ w0 ρ' hn w' → Q .normal a' w') : (Code.region id ops true).wp P Q a0 w := by
  simp only [okDrawn, Bool.and_eq_true] at hok
  obtain ⟨⟨⟨⟨k0, k1⟩, k2⟩, k3⟩, k4⟩ := hok
  have hlen := Nat.eq_of_beq_eq_true k1
  obtain ⟨pair, own⟩ := pairsOk_get k4
  obtain ⟨frs, hs, vs, t1, t2, t3, t4, t5⟩ := hr.trace
  generalize hn_ : l.length = n at *
  -- facts on each operation
  have op_ : ∀ p, p < n → ∃ o, ops[(l.getD p default).ix]? = some o ∧ okOper P σ ops o (l.getD p default) = true ∧ A.getD (l.getD p default).ix 0 = ancU A o ∧ ∀ e ∈ o.after, Region.binds .any e = true → e.on < (l.getD p default).ix := by
    intro p hp
    have h1 := List.all_eq_true.1 k2 (l.getD p default) (by rw [List.getD_eq_getElem?_getD, List.getElem?_eq_getElem (by omega)]; exact List.getElem_mem _)
    split at h1
    · rename_i o ho
      simp only [Bool.and_eq_true] at h1
      refine ⟨o, ho, h1.1.1, Nat.eq_of_beq_eq_true h1.1.2, fun e he hb => ?_⟩
      have h2 := List.all_eq_true.1 h1.2 e (Array.mem_toList_iff.2 he)
      rw [hb] at h2
      have h3 : Nat.blt e.on (l.getD p default).ix = true := by
        rw [Bool.not_true, Bool.false_or] at h2
        exact h2
      exact Nat.le_of_ble_eq_true h3
    · cases h1
  have pos : ∀ i, i < ops.size → ∃ p, p < n ∧ (l.getD p default).ix = i := by
    intro i hi
    have h1 := List.all_eq_true.1 k3 i (List.mem_range.2 hi)
    obtain ⟨x, hx, h2⟩ := List.any_eq_true.1 h1
    obtain ⟨p, hp, e⟩ := List.mem_iff_getElem.1 hx
    refine ⟨p, by omega, ?_⟩
    rw [List.getD_eq_getElem?_getD, List.getElem?_eq_getElem hp]
    simp only [Option.getD_some]
    rw [e]; exact Nat.eq_of_beq_eq_true h2
  -- ancestors are kept by closed sets of indices
  have anc : ∀ (S : Nat → Prop), (∀ i o, S i → ops[i]? = some o → ∀ e ∈ o.after, Region.binds .any e = true → S e.on) → ∀ N i, i < N → i < ops.size → S i → ∀ j, (A.getD i 0).testBit j = true → S j := by
    intro S hS N
    induction N with
    | zero => intro i hi; omega
    | succ N ih =>
      intro i hi hsz hSi j hj
      obtain ⟨p, hp, rfl⟩ := pos i hsz
      obtain ⟨o, ho, _, hA, hlt⟩ := op_ p hp
      rw [hA] at hj
      rcases foldU A j o.after.toList 0 hj with h1 | ⟨e, he, hb, h1⟩
      · simp at h1
      · have he' : e ∈ o.after := Array.mem_toList_iff.1 he
        have hSe := hS _ o hSi ho e he' hb
        have hl := hlt e he' hb
        rcases h1 with rfl | h1
        · exact hSe
        · exact ih e.on (by omega) (by omega) hSe j h1
  have edge : ∀ p, p < n → ∀ o, ops[(l.getD p default).ix]? = some o → ∀ e ∈ o.after, Region.binds .any e = true → (A.getD (l.getD p default).ix 0).testBit e.on = true := by
    intro p hp o ho e he hb
    obtain ⟨o', ho', _, hA, _⟩ := op_ p hp
    rw [ho] at ho'
    cases ho'
    rw [hA]
    exact foldU_edge A o.after.toList 0 e (Array.mem_toList_iff.2 he) hb
  -- pairs
  have pr : ∀ p q, p < q → q < n → (A.getD (l.getD p default).ix 0).testBit (l.getD q default).ix = false ∧ ((A.getD (l.getD q default).ix 0).testBit (l.getD p default).ix = true ∨ (loud (l.getD p default) = false ∧ memB (l.getD p default).dst (looks (l.getD q default)) = false ∧ memB (l.getD q default).dst (looks (l.getD p default)) = false ∧ (isLoad (l.getD p default).op = true → loud (l.getD q default) = true → hasChk (l.getD p default) (l.getD q default).chk = true))) ∧ (∀ t, (l.getD p default).dst = some t → (l.getD q default).dst ≠ some t) ∧ (isLoad (l.getD p default).op = true → memB (l.getD q default).dst (looks (l.getD p default)) = false) ∧ (l.getD p default).ix ≠ (l.getD q default).ix := by
    intro p q hpq hq
    have h1 := pair p q hpq hq
    simp only [pairOk, Bool.and_eq_true, Bool.or_eq_true, Bool.not_eq_true'] at h1
    obtain ⟨⟨⟨⟨h2, h3⟩, h4⟩, h5⟩, h10⟩ := h1
    refine ⟨h2, ?_, fun t ht hq' => ?_, fun hld => ?_, fun e => by rw [e, Nat.beq_refl] at h10; cases h10⟩
    · rcases h3 with h3 | ⟨⟨⟨h6, h7⟩, h8⟩, h9⟩
      · exact .inl h3
      · refine .inr ⟨h6, h7, h8, fun hld hlo => ?_⟩
        rcases h9 with (h9 | h9) | h9
        · rw [hld] at h9; cases h9
        · rw [hlo] at h9; cases h9
        · exact h9
    · rw [ht, hq'] at h4
      simp at h4
    · rcases h5 with h5 | h5
      · rw [hld] at h5; cases h5
      · exact h5
  have dsts : ∀ p q, p < n → q < n → q ≠ p → ∀ t, (l.getD q default).dst = some t → (l.getD p default).dst ≠ some t := by
    intro p q hp hq hne t hqt hpt
    rcases Nat.lt_or_ge p q with h | h
    · exact (pr p q h hq).2.2.1 t hpt hqt
    · exact (pr q p (by omega) hp).2.2.1 t hqt hpt
  -- the machine's own frames
  have own_fr : ∀ p, p ≤ n → FrL l vs fr0 (fun q => decide (q < p)) (frs p) := by
    intro p
    induction p with
    | zero =>
      intro _
      rw [t1]
      exact ⟨rfl, fun q t _ _ _ h => by simp at h, fun t _ => rfl⟩
    | succ p ih =>
      intro hp
      obtain ⟨_, c2, c3, _⟩ := (t5 p (by omega)).toC
      have := (ih (by omega)).step (p := p) (by omega) (fun q hq hne t hqt => dsts p q (by omega) (by omega) hne t hqt) c2 c3
      have e : upd (fun q => decide (q < p)) p = fun q => decide (q < p + 1) := by
        funext q
        unfold upd
        by_cases hq : q = p
        · rw [if_pos hq]; simp [hq]
        · rw [if_neg hq]; simp; omega
      rw [← e]; exact this
  -- memory stands between loud operations
  have still : ∀ p q, p ≤ q → q ≤ n → (∀ r, p ≤ r → r < q → loud (l.getD r default) = false) → hs p = hs q := by
    intro p q hpq
    induction q with
    | zero => intro _ _; have : p = 0 := by omega
              rw [this]
    | succ q ih =>
      intro hq hlo
      by_cases e : p = q + 1
      · rw [e]
      · rw [ih (by omega) (by omega) (fun r h1 h2 => hlo r h1 (by omega))]
        exact ((t5 q (by omega)).toC.1.quiet (hlo q (by omega) (by omega))).symm
  have bound : ∀ p, p < n → ∀ d, (l.getD p default).dst = some d → d < fr0.length := by
    intro p hp d hd
    have h1 := List.all_eq_true.1 k0 (l.getD p default) (by rw [List.getD_eq_getElem?_getD, List.getElem?_eq_getElem (by omega)]; exact List.getElem_mem _)
    rw [hd] at h1
    exact Nat.le_trans (Nat.le_of_ble_eq_true h1) hN
  have inj : ∀ p q, p < n → q < n → p ≠ q → (l.getD p default).ix ≠ (l.getD q default).ix := by
    intro p q hp hq hne
    rcases Nat.lt_or_ge p q with h | h
    · exact (pr p q h hq).2.2.2.2
    · exact fun e => (pr q p (by omega) hp).2.2.2.2 e.symm
  have ixlt : ∀ p, p < n → (l.getD p default).ix < ops.size := by
    intro p hp
    obtain ⟨o, ho, _⟩ := op_ p hp
    exact (Array.getElem?_eq_some_iff.1 ho).1
  -- two frames of the same operations done hold the same
  have same : ∀ D fr, FrL l vs fr0 D fr → ∀ p, p < n → (∀ t ∈ looks (l.getD p default), ∀ p', p' < n → (l.getD p' default).dst = some t → (D p' = true ↔ p' < p)) → ∀ t ∈ looks (l.getD p default), fr.at t = (frs p).at t := by
    intro D fr hF p hp hw t ht
    have hO := own_fr p (by omega)
    by_cases ex : ∃ p', p' < n ∧ (l.getD p' default).dst = some t
    · obtain ⟨p', hp', hd⟩ := ex
      have hlt := bound p' hp' t hd
      have uniq : ∀ r, r < n → (l.getD r default).dst = some t → r = p' := fun r hr hrd => by
        by_cases e : r = p'
        · exact e
        · exact absurd hd (dsts p' r hp' hr e t hrd)
      by_cases hlt' : p' < p
      · rw [hF.yes p' t (by omega) hd hlt ((hw t ht p' hp' hd).2 hlt'), hO.yes p' t (by omega) hd hlt (by simpa using hlt')]
      · rw [hF.no t (fun r hr hrd => by
          rw [uniq r (by omega) hrd]
          cases hD : D p' with
          | false => rfl
          | true => exact absurd ((hw t ht p' hp' hd).1 hD) hlt'), hO.no t (fun r hr hrd => by rw [uniq r (by omega) hrd]; simpa using hlt')]
    · rw [hF.no t (fun r hr hrd => absurd ⟨r, by omega, hrd⟩ ex), hO.no t (fun r hr hrd => absurd ⟨r, by omega, hrd⟩ ex)]
  have done : ∀ (a : Act) (w : World) (D : Nat → Bool) (q : Nat) (fr : Fr) (ρ1 : Mp), (∀ p, p < n → D p = true) → q ≤ n → (∀ p, p < n → loud (l.getD p default) = true → (D p = true ↔ p < q)) → FrL l vs fr0 D fr → FrR σ w0 ρ1 fr a.tmps → HR σ w0 ρ1 (hs q) w → ρ.le ρ1 → a.defers = a0.defers → Q .normal a w := by
    intro a w D q fr ρ1 all hq hloud hF hf hh hle hdf
    have e1 := still q n hq (Nat.le_refl _) (fun r h1 h2 => by
      cases hlo : loud (l.getD r default) with
      | false => rfl
      | true => have := (hloud r h2 hlo).1 (all r h2); omega)
    rw [e1, t4] at hh
    have hO := own_fr n (Nat.le_refl _)
    rw [t3] at hO
    refine hQ ρ1 a w hle (hf.congr (by rw [hO.len, hF.len]) (fun t => ?_)) hdf hh
    by_cases ex : ∃ p', p' < n ∧ (l.getD p' default).dst = some t
    · obtain ⟨p', hp', hd⟩ := ex
      have hlt := bound p' hp' t hd
      rw [hF.yes p' t (by omega) hd hlt (all p' hp'), hO.yes p' t (by omega) hd hlt (by simpa using hp')]
    · rw [hF.no t (fun r hr hrd => absurd ⟨r, by omega, hrd⟩ ex), hO.no t (fun r hr hrd => absurd ⟨r, by omega, hrd⟩ ex)]
  -- what holds between any two steps
  have main : ∀ (fuel : Nat) (listed : Array Bool) (a : Act) (w : World) (D : Nat → Bool) (q : Nat) (fr : Fr) (ρ1 : Mp), listed.size = ops.size → (∀ p, p < n → listed.getD (l.getD p default).ix true = D p) → left D n ≤ fuel → (∀ p, p < n → D p = true → ∀ p', p' < n → (A.getD (l.getD p default).ix 0).testBit (l.getD p' default).ix = true → D p' = true) →
      q ≤ n → (∀ p, p < n → loud (l.getD p default) = true → (D p = true ↔ p < q)) → FrL l vs fr0 D fr → FrR σ w0 ρ1 fr a.tmps → HR σ w0 ρ1 (hs q) w → ρ.le ρ1 → a.defers = a0.defers → wpAny P .any ops Q fuel listed a w := by
    intro fuel
    induction fuel with
    | zero =>
      intro listed a w D q fr ρ1 hsz hD hleft hcl hq hloud hF hf hh hle hdf
      have all := left_zero D n (by omega)
      refine ⟨List.eq_nil_iff_forall_not_mem.2 (fun j hj => ?_), done a w D q fr ρ1 all hq hloud hF hf hh hle hdf⟩
      obtain ⟨h1, o, ho, _⟩ := mem_ready.1 hj
      obtain ⟨p, hp, rfl⟩ := pos j (Array.getElem?_eq_some_iff.1 ho).1
      rw [hD p hp, all p hp] at h1
      cases h1
    | succ fuel ih =>
      intro listed a w D q fr ρ1 hsz hD hleft hcl hq hloud hF hf hh hle hdf
      have lst : ∀ p, p < n → D p = true → listed.getD (l.getD p default).ix false = true := by
        intro p hp hDp
        have h1 := hD p hp
        have h2 := ixlt p hp
        rw [hDp] at h1
        rw [← hsz] at h2
        rw [Array.getD_eq_getD_getElem?, Array.getElem?_eq_getElem h2] at h1 ⊢
        exact h1
      have lst' : ∀ p, p < n → listed.getD (l.getD p default).ix false = true → D p = true := by
        intro p hp h1
        have h2 := ixlt p hp
        rw [← hsz] at h2
        rw [← hD p hp]
        rw [Array.getD_eq_getD_getElem?, Array.getElem?_eq_getElem h2] at h1 ⊢
        exact h1
      refine ⟨fun hrd => ?_, fun i hi => ?_⟩
      · refine done a w D q fr ρ1 (fun p => ?_) hq hloud hF hf hh hle hdf
        induction p using Nat.strongRecOn with
        | _ p ihp =>
          intro hp
          cases hDp : D p with
          | true => rfl
          | false =>
            exfalso
            obtain ⟨o, ho, _, _, hlt⟩ := op_ p hp
            have : (l.getD p default).ix ∈ Region.ready .any ops listed := mem_ready.2 ⟨by rw [hD p hp, hDp], o, ho, fun e he hb => by
              have h1 := hlt e he hb
              obtain ⟨p', hp', e'⟩ := pos e.on (by have := ixlt p hp; omega)
              have h2 := edge p hp o ho e he hb
              rw [← e'] at h2 ⊢
              have h3 : p' < p := by
                rcases Nat.lt_trichotomy p' p with h | h | h
                · exact h
                · subst h; omega
                · have := (pr p p' h hp').1; rw [h2] at this; cases this
              exact lst p' hp' (ihp p' h3 hp')⟩
            rw [hrd] at this
            cases this
      · obtain ⟨h1, o, ho, hed⟩ := mem_ready.1 hi
        obtain ⟨p, hp, rfl⟩ := pos i (Array.getElem?_eq_some_iff.1 ho).1
        have hDp : D p = false := by rw [← hD p hp]; exact h1
        obtain ⟨o', ho', hop, hA, hlt⟩ := op_ p hp
        have : o' = o := by rw [ho'] at ho; exact Option.some.inj ho
        subst this
        -- ancestors are done
        have up : ∀ p', p' < n → (A.getD (l.getD p default).ix 0).testBit (l.getD p' default).ix = true → D p' = true := by
          intro p' hp' hb
          rw [hA] at hb
          rcases foldU A _ o'.after.toList 0 hb with h2 | ⟨e, he, hbi, h2⟩
          · simp at h2
          · have he' : e ∈ o'.after := Array.mem_toList_iff.1 he
            have h3 := hed e he' hbi
            have h4 := hlt e he' hbi
            obtain ⟨p2, hp2, e2⟩ := pos e.on (by have := ixlt p hp; omega)
            rw [← e2] at h3 h2
            have h5 := lst' p2 hp2 h3
            rcases h2 with h2 | h2
            · by_cases e3 : p2 = p'
              · rw [← e3]; exact h5
              · exact absurd h2 (inj p2 p' hp2 hp' e3)
            · exact hcl p2 hp2 h5 p' hp' h2
        have down : ∀ p', p' < n → (A.getD (l.getD p' default).ix 0).testBit (l.getD p default).ix = true → D p' = false := by
          intro p' hp' hb
          cases hD' : D p' with
          | false => rfl
          | true => have := hcl p' hp' hD' p hp hb; rw [hDp] at this; cases this
        have agree := same D fr hF p hp (fun t ht p' hp' hd => by
          have hne : p' ≠ p := fun e => memB_false (own p (by omega)) t ht (by rw [← e]; exact hd)
          rcases Nat.lt_or_ge p' p with h | h
          · refine ⟨fun _ => h, fun _ => ?_⟩
            rcases (pr p' p h hp).2.1 with h2 | ⟨_, h2, _⟩
            · exact up p' hp' h2
            · rw [memB_true hd ht] at h2; cases h2
          · refine ⟨fun h2 => ?_, fun h2 => by omega⟩
            rcases (pr p p' (by omega) hp').2.1 with h3 | ⟨_, _, h3, _⟩
            · rw [down p' hp' h3] at h2; cases h2
            · rw [memB_true hd ht] at h3; cases h3)
        have s0 : StepC call (l.getD p default) fr (hs p) (hs (p + 1)) (vs p) := (t5 p hp).toC.1.congr (fun t ht => (agree t ht).symm)
        have low : ∀ r, r < p → loud (l.getD r default) = true → D r = true := by
          intro r hr hlo
          rcases (pr r p hr hp).2.1 with h2 | ⟨h2, _⟩
          · exact up r (by omega) h2
          · rw [hlo] at h2; cases h2
        have back : q ≤ p → hs q = hs p := fun hqp => still q p hqp (by omega) (fun r h2 h3 => by
          cases hlo : loud (l.getD r default) with
          | false => rfl
          | true => have := (hloud r (by omega) hlo).1 (low r h3 hlo); omega)
        have hlst' : ∀ r, r < n → (listed.setIfInBounds (l.getD p default).ix true).getD (l.getD r default).ix true = upd D p r := by
          intro r hr
          by_cases e : r = p
          · subst e
            rw [upd_self]
            have h2 := ixlt r hr
            rw [← hsz] at h2
            simp [Array.getD_eq_getD_getElem?, h2]
          · rw [upd_ne e, getD_set_ne true (inj p r hp hr (fun x => e x.symm))]
            exact hD r hr
        have hleft' : left (upd D p) n ≤ fuel := by have := left_upd D p hDp n hp; omega
        have hcl' : ∀ r, r < n → upd D p r = true → ∀ r', r' < n → (A.getD (l.getD r default).ix 0).testBit (l.getD r' default).ix = true → upd D p r' = true := by
          intro r hr hDr r' hr' hb
          have key : D r' = true := by
            by_cases e : r = p
            · subst e; exact up r' hr' hb
            · rw [upd_ne e] at hDr; exact hcl r hr hDr r' hr' hb
          by_cases e' : r' = p
          · rw [e']; exact upd_self
          · rw [upd_ne e']; exact key
        have frame' : ∀ (u : Value) (ρ2 : Mp), ρ1.le ρ2 → VR σ w0 ρ2 (vs p) u → FrL l vs fr0 (upd D p) (putO fr (l.getD p default).dst (vs p)) ∧ FrR σ w0 ρ2 (putO fr (l.getD p default).dst (vs p)) (a.put (l.getD p default).dst u).tmps := by
          intro u ρ2 h2 h3
          refine ⟨hF.step (by omega) (fun r hr hne t hrt => dsts p r hp (by omega) hne t hrt) ?_ ?_, (hf.mono h2).putO _ h3⟩
          · cases hd : (l.getD p default).dst with
            | none => rfl
            | some d => exact Fr.length_put _ _ _
          · intro t
            cases hd : (l.getD p default).dst with
            | none => rw [if_neg (by simp)]
            | some d =>
              show (fr.put d _).at t = _
              rw [Fr.at_put]
              by_cases ht : t = d ∧ d < fr.length
              · rw [if_pos ht, if_pos ⟨by rw [ht.1], by rw [ht.1]; exact ht.2⟩]
              · rw [if_neg ht, if_neg (fun e => ht ⟨by cases e.1; rfl, by cases e.1; exact e.2⟩)]
        have sz' : (listed.setIfInBounds (l.getD p default).ix true).size = ops.size := by rw [Array.size_setIfInBounds, hsz]
        cases hlo : loud (l.getD p default) with
        | true =>
          have hsame : hs q = hs p := by
            rcases Nat.le_total q p with h2 | h2
            · exact back h2
            · refine (still p q h2 hq (fun r h3 h4 => ?_)).symm
              cases hlr : loud (l.getD r default) with
              | false => rfl
              | true =>
                exfalso
                have hDr := (hloud r (by omega) hlr).2 h4
                by_cases e : r = p
                · rw [e, hDp] at hDr; cases hDr
                · rcases (pr p r (by omega) (by omega)).2.1 with h5 | ⟨h5, _⟩
                  · rw [down r (by omega) h5] at hDr; cases hDr
                  · rw [hlo] at h5; cases h5
          rw [hsame] at hh
          refine step_sound hc ho' hop s0 hf hh (fun ρ2 u w2 g1 g2 g3 => ?_)
          obtain ⟨f1, f2⟩ := frame' u ρ2 g1 g2
          refine ih _ _ w2 (upd D p) (p + 1) _ ρ2 sz' hlst' hleft' hcl' (by omega) (fun r hr hlr => ?_) f1 f2 g3 (Mp.le_trans hle g1) (by rw [put_defers, hdf])
          by_cases e : r = p
          · rw [e]; exact ⟨fun _ => by omega, fun _ => upd_self⟩
          · rw [upd_ne e]
            constructor
            · intro hDr
              rcases Nat.lt_or_ge r p with h2 | h2
              · omega
              · exfalso
                rcases (pr p r (by omega) hr).2.1 with h5 | ⟨h5, _⟩
                · rw [down r hr h5] at hDr; cases hDr
                · rw [hlo] at h5; cases h5
            · intro h2; exact low r (by omega) hlr
        | false =>
          have hq1 : hs (p + 1) = hs p := (t5 p hp).toC.1.quiet hlo
          rw [hq1] at s0
          have hquiet : AM.quiet (l.getD p default).op = true := by simpa [loud] using hlo
          have s1 : StepC call (l.getD p default) fr (hs q) (hs q) (vs p) := by
            cases hld : isLoad (l.getD p default).op with
            | false =>
              rcases s0.inv with ⟨g1, g2⟩ | ⟨t, b, g1, g2, g3⟩ | ⟨t, b, b', g1, g2, g3, g4, _⟩
              · exact .plain _ _ g1 (quiet_pure hquiet hld g2)
              · exact .on t b _ _ g1 g2 (quiet_pure hquiet hld g3)
              · rw [g4]; exact .off t b b' g1 g2 g3
            | true =>
              rcases Nat.le_total q p with h2 | h2
              · rw [back h2]; exact s0
              · -- the load's value stands
                have late : ∀ r, p < r → r ≤ n → ∀ t ∈ looks (l.getD p default), (frs r).at t = fr.at t := by
                  intro r hr hrn t ht
                  rw [agree t ht]
                  refine same (fun x => decide (x < r)) (frs r) (own_fr r hrn) p hp (fun t ht p' hp' hd => ?_) t ht
                  rw [decide_eq_true_eq]
                  refine ⟨fun _ => ?_, fun h => by omega⟩
                  rcases Nat.lt_trichotomy p' p with h | h | h
                  · exact h
                  · exact absurd (by rw [← h]; exact hd) (memB_false (own p (by omega)) t ht)
                  · exact absurd hd (memB_false ((pr p p' h hp').2.2.2.1 hld) t ht)
                cases hop2 : (l.getD p default).op with
                | load ln lp =>
                  have chain : ∀ sh0, (aopV call sh0 (.load ln lp) fr (hs p) = some (vs p, hs p)) → (∀ t b, (l.getD p default).guard = some (t, b) → fr.at t = .bool b) → ∀ r, p ≤ r → r ≤ q → aLd (hs r) ln (ev fr lp) = some (vs p) := by
                    intro sh0 hv hgd r
                    induction r with
                    | zero =>
                      intro h3 _
                      have e0 : p = 0 := by omega
                      obtain ⟨x, hx, hy⟩ := Option.bind_eq_some_iff.1 (show (aLd (hs p) ln (ev fr lp)).bind (fun v => asSh sh0 v fun v => some (v, hs p)) = some (vs p, hs p) from hv)
                      rw [← (asSh_v hy).2, ← e0]; exact hx
                    | succ r ihr =>
                      intro h3 h4
                      by_cases e0 : p = r + 1
                      · obtain ⟨x, hx, hy⟩ := Option.bind_eq_some_iff.1 (show (aLd (hs p) ln (ev fr lp)).bind (fun v => asSh sh0 v fun v => some (v, hs p)) = some (vs p, hs p) from hv)
                        rw [← (asSh_v hy).2, ← e0]; exact hx
                      · have hprev := ihr (by omega) (by omega)
                        by_cases e1 : r = p
                        · rw [e1, hq1]; rw [e1] at hprev; exact hprev
                        · cases hlr : loud (l.getD r default) with
                          | false => rw [(t5 r (by omega)).toC.1.quiet hlr]; exact hprev
                          | true =>
                            have hDr := (hloud r (by omega) hlr).2 (by omega)
                            rcases (pr p r (by omega) (by omega)).2.1 with h5 | ⟨_, _, _, h5⟩
                            · rw [down r (by omega) h5] at hDr; cases hDr
                            · obtain ⟨n', p', d, q1, q2, c, q3, q4, q5, q6, q7, q8⟩ := hasChk_get (h5 hld hlr)
                              rw [hop2] at q1
                              cases q1
                              rcases (t5 r (by omega)).toC.2.2.2 with q9 | q9
                              · have q10 := q9 c q3
                                have hdv : (frs r).at d = vs p := (own_fr r (by omega)).yes p d (by omega) q2 (bound p hp d q2) (by simp; omega)
                                have hev : ev (frs r) lp = ev fr lp := ev_congr (fun t ht => late r (by omega) (by omega) t (List.mem_append_left _ (by rw [hop2]; exact ht)))
                                rw [q4, q5, q6, q7, hdv, hev] at q10
                                cases hg : (l.getD p default).guard with
                                | none => rw [hg] at q10; exact q10
                                | some g =>
                                  obtain ⟨t, b⟩ := g
                                  rw [hg] at q10
                                  obtain ⟨b2, q11, q12⟩ := q10
                                  rw [late r (by omega) (by omega) t (List.mem_append_right _ (by rw [hg]; exact List.mem_singleton.2 rfl)), hgd t b hg] at q11
                                  cases q11
                                  exact q12 rfl
                              · rw [q9]; exact hprev
                  have fin : ∀ sh0, (aopV call sh0 (.load ln lp) fr (hs p) = some (vs p, hs p)) → aLd (hs q) ln (ev fr lp) = some (vs p) → aopV call sh0 (.load ln lp) fr (hs q) = some (vs p, hs q) := by
                    intro sh0 hv hx
                    obtain ⟨x, hx0, hy⟩ := Option.bind_eq_some_iff.1 (show (aLd (hs p) ln (ev fr lp)).bind (fun v => asSh sh0 v fun v => some (v, hs p)) = some (vs p, hs p) from hv)
                    have e0 := (asSh_v hy).2
                    show (aLd (hs q) ln (ev fr lp)).bind (fun v => asSh sh0 v fun v => some (v, hs q)) = some (vs p, hs q)
                    rw [hx, Option.bind_some]
                    rw [e0] at hy
                    have := asSh_nat' (sh := sh0) (v := vs p) (h := hs p) (K := fun v _ => some (v, hs q))
                    rw [hy] at this
                    exact this
                  rcases s0.inv with ⟨g1, g2⟩ | ⟨t, b, g1, g2, g3⟩ | ⟨t, b, b', g1, g2, g3, g4, _⟩
                  · rw [hop2] at g2
                    exact .plain _ _ g1 (by rw [hop2]; exact fin _ g2 (chain _ g2 (fun t b hg => by rw [g1] at hg; cases hg) q h2 (Nat.le_refl _)))
                  · rw [hop2] at g3
                    exact .on t b _ _ g1 g2 (by rw [hop2]; exact fin _ g3 (chain _ g3 (fun t' b' hg => by rw [g1] at hg; cases hg; exact g2) q h2 (Nat.le_refl _)))
                  · rw [g4]; exact .off t b b' g1 g2 g3
                | _ => rw [hop2] at hld; cases hld
          refine step_sound hc ho' hop s1 hf hh (fun ρ2 u w2 g1 g2 g3 => ?_)
          obtain ⟨f1, f2⟩ := frame' u ρ2 g1 g2
          refine ih _ _ w2 (upd D p) q _ ρ2 sz' hlst' hleft' hcl' hq (fun r hr hlr => ?_) f1 f2 g3 (Mp.le_trans hle g1) (by rw [put_defers, hdf])
          have hne : r ≠ p := fun e => by rw [e, hlo] at hlr; cases hlr
          rw [upd_ne hne]; exact hloud r hr hlr
  refine wp_region_any hm ?_
  refine main ops.size _ a0 w.drew (fun _ => false) 0 fr0 ρ (by simp) (fun p hp => ?_) (by rw [left_none]; omega) (fun p hp h => by cases h) (Nat.zero_le _) (fun p hp _ => by simp) ⟨rfl, fun p t _ _ _ h => (by cases h), fun t _ => rfl⟩ hf0 (by rw [t2]; exact hh0.drew) ρ.le_refl rfl
  have h2 := ixlt p hp
  rw [Array.getD_eq_getD_getElem?, Array.getElem?_replicate, if_pos h2]
  rfl
end Go.AM
