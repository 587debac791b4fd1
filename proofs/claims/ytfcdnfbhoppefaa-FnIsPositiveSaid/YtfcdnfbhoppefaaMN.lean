/- Code and functions: a run of the machine is a run of the program. -/
import Derived.Test.YtfcdnfbhoppefaaMM
namespace Go.AM
set_option linter.unusedVariables false
set_option linter.unusedSimpArgs false
open Go.RowKit
variable {σ : Nat → FuncId} {w0 : World} {ρ ρ' : Mp} {P : Program} {call : Nat → List AV → AH → O}
def okC (P : Program) (σ : Nat → FuncId) (N : Nat) : AC → Code → Bool
  | .skip, .skip => true
  | .ret, .ret => true
  | .exit i, .exit j => Nat.beq i j
  | .reg none l, .region _ ops false => okList P σ ops 0 l
  | .reg (some A) l, .region _ ops true => okDrawn P σ N ops A l
  | .seq _ a b, .seq c d => okC P σ N a c && okC P σ N b d
  | .cond x a b, .cond y c d => okO σ y x && okC P σ N a c && okC P σ N b d
  | .block i a, .block j c => Nat.beq i j && okC P σ N a c
  | .loop _ a, .loop c => okC P σ N a c
  | _, _ => false
def exOf : Ex → Exit
  | .normal => .normal
  | .exit i => .exit i
  | .ret => .ret
theorem OpsR.len : ∀ {l : List AOper} {fr fr' : Fr} {h h' : AH}, OpsR call l fr h fr' h' → fr'.length = fr.length := by
  intro l
  induction l with
  | nil => intro fr fr' h h' hr; cases hr; rfl
  | cons o l ih => intro fr fr' h h' hr; cases hr with | cons s1 s2 => rw [ih s2, s1.toC.2.1]
theorem LoopR.len {a : AC} (ih : ∀ {fr fr' : Fr} {h h' : AH} {e : Ex}, CodeR call a fr h e fr' h' → fr'.length = fr.length) : ∀ {n : Nat} {fr fr' : Fr} {h h' : AH} {e : Ex}, LoopR call a n fr h e fr' h' → fr'.length = fr.length := by
  intro n
  induction n with
  | zero => intro fr fr' h h' e hr; cases hr
  | succ n ihn =>
    intro fr fr' h h' e hr
    cases hr with
    | go c1 n1 l1 => rw [ihn l1, n1.1, ih c1]
    | out c1 _ => exact ih c1
theorem CodeR.len {c : AC} : ∀ {fr fr' : Fr} {h h' : AH} {e : Ex}, CodeR call c fr h e fr' h' → fr'.length = fr.length := by
  induction c with
  | skip => intro fr fr' h h' e hr; cases hr; rfl
  | ret => intro fr fr' h h' e hr; cases hr; rfl
  | exit id => intro fr fr' h h' e hr; cases hr; rfl
  | reg d ops => intro fr fr' h h' e hr; cases hr with | reg o => exact o.len
  | seq m a b iha ihb =>
    intro fr fr' h h' e hr
    cases hr with
    | seq c1 n1 c2 => rw [ihb c2, n1.1, iha c1]
    | seqX c1 _ => exact iha c1
  | cond c a b iha ihb =>
    intro fr fr' h h' e hr
    cases hr with
    | condT _ c1 => exact iha c1
    | condF _ c1 => exact ihb c1
  | block id a iha =>
    intro fr fr' h h' e hr
    cases hr with
    | blockN c1 => exact iha c1
    | blockE c1 => exact iha c1
    | blockX c1 _ => exact iha c1
    | blockR c1 => exact iha c1
  | loop m a iha =>
    intro fr fr' h h' e hr
    cases hr with
    | loop n1 l1 => rw [l1.len iha, n1.1]
theorem least {p : Nat → Prop} (h : ∃ n, p n) : ∃ n, p n ∧ ∀ m, m < n → ¬ p m := by
  obtain ⟨n, hn⟩ := h
  induction n using Nat.strongRecOn with
  | _ n ih =>
    by_cases hm : ∃ m, m < n ∧ p m
    · obtain ⟨m, h1, h2⟩ := hm; exact ih m h1 h2
    · exact ⟨n, hn, fun m h1 h2 => hm ⟨m, h1, h2⟩⟩
open Classical in
noncomputable def mu (p : Nat → Prop) : Nat := if h : ∃ n, p n then Classical.choose (least h) else 0
theorem mu_spec {p : Nat → Prop} (h : ∃ n, p n) : p (mu p) := by
  unfold mu; rw [dif_pos h]; exact (Classical.choose_spec (least h)).1
theorem mu_le {p : Nat → Prop} {n : Nat} (h : p n) : mu p ≤ n := by
  unfold mu; rw [dif_pos ⟨n, h⟩]
  rcases Nat.lt_or_ge n (Classical.choose (least ⟨n, h⟩)) with h1 | h1
  · exact absurd h ((Classical.choose_spec (least ⟨n, h⟩)).2 n h1)
  · exact h1
theorem code_sound (hc : CallS P σ w0 call) (hm : P.follows .mixedOrders = true) {N : Nat} {c : AC} : ∀ {code : Code} {ρ : Mp} {fr fr' : Fr} {h h' : AH} {e : Ex} {a : Act} {w : World} {Q : Exit → Act → World → Prop}, CodeR call c fr h e fr' h' → okC P σ N c code = true → N ≤ fr.length → FrR σ w0 ρ fr a.tmps → HR σ w0 ρ h w →
    (∀ ρ' a' w', ρ.le ρ' → FrR σ w0 ρ' fr' a'.tmps → a'.defers = a.defers → HR σ w0 ρ' h' w' → Q (exOf e) a' w') → code.wp P Q a w := by
  induction c with
  | skip =>
    intro code ρ fr fr' h h' e a w Q hr hok hN hf hh hQ
    cases code <;> simp only [okC] at hok <;> try (cases hok; done)
    cases hr; exact wp_skip (hQ ρ a w ρ.le_refl hf rfl hh)
  | ret =>
    intro code ρ fr fr' h h' e a w Q hr hok hN hf hh hQ
    cases code <;> simp only [okC] at hok <;> try (cases hok; done)
    cases hr; exact wp_ret (hQ ρ a w ρ.le_refl hf rfl hh)
  | exit i =>
    intro code ρ fr fr' h h' e a w Q hr hok hN hf hh hQ
    cases code <;> simp only [okC] at hok <;> try (cases hok; done)
    obtain rfl := Nat.eq_of_beq_eq_true hok
    cases hr; exact wp_exit (hQ ρ a w ρ.le_refl hf rfl hh)
  | reg d l =>
    intro code ρ fr fr' h h' e a w Q hr hok hN hf hh hQ
    cases hr with
    | reg o1 =>
      cases d with
      | none =>
        cases code <;> try (simp [okC] at hok; done)
        rename_i id ops dr
        cases dr
        · exact region_seq hc o1 (show okList P σ ops 0 l = true from by simpa [okC] using hok) hf hh hQ
        · simp [okC] at hok
      | some A =>
        cases code <;> try (simp [okC] at hok; done)
        rename_i id ops dr
        cases dr
        · simp [okC] at hok
        · exact region_drawn hc hm o1 hN (show okDrawn P σ N ops A l = true from by simpa [okC] using hok) hf hh hQ
  | seq m x y ihx ihy =>
    intro code ρ fr fr' h h' e a w Q hr hok hN hf hh hQ
    cases code <;> simp only [okC] at hok <;> try (cases hok; done)
    simp only [Bool.and_eq_true] at hok
    refine wp_seq ?_
    cases hr with
    | seq c1 n1 c2 =>
      refine ihx c1 hok.1 hN hf hh (fun ρ1 a1 w1 q1 q2 q3 q4 => ?_)
      exact ihy c2 hok.2 (by rw [n1.1, c1.len]; exact hN) (q2.norm n1) q4 (fun ρ2 a2 w2 r1 r2 r3 r4 => hQ ρ2 a2 w2 (Mp.le_trans q1 r1) r2 (by rw [r3, q3]) r4)
    | seqX c1 hne =>
      refine ihx c1 hok.1 hN hf hh (fun ρ1 a1 w1 q1 q2 q3 q4 => ?_)
      cases e with
      | normal => exact absurd rfl hne
      | exit j => exact hQ ρ1 a1 w1 q1 q2 q3 q4
      | ret => exact hQ ρ1 a1 w1 q1 q2 q3 q4
  | cond x y z ihy ihz =>
    intro code ρ fr fr' h h' e a w Q hr hok hN hf hh hQ
    cases code <;> simp only [okC] at hok <;> try (cases hok; done)
    simp only [Bool.and_eq_true] at hok
    obtain ⟨⟨h1, h2⟩, h3⟩ := hok
    have hx := okO_VR h1 hf
    cases hr with
    | condT ht c1 => rw [ht] at hx; exact wp_cond_true (VR_bool hx) (ihy c1 h2 hN hf hh hQ)
    | condF ht c1 => rw [ht] at hx; exact wp_cond_false (VR_bool hx) (ihz c1 h3 hN hf hh hQ)
  | block i x ih =>
    intro code ρ fr fr' h h' e a w Q hr hok hN hf hh hQ
    cases code <;> simp only [okC] at hok <;> try (cases hok; done)
    simp only [Bool.and_eq_true] at hok
    obtain rfl := Nat.eq_of_beq_eq_true hok.1
    refine wp_block ?_
    cases hr with
    | blockN c1 => exact ih c1 hok.2 hN hf hh (fun ρ1 a1 w1 q1 q2 q3 q4 => hQ ρ1 a1 w1 q1 q2 q3 q4)
    | blockE c1 => exact ih c1 hok.2 hN hf hh (fun ρ1 a1 w1 q1 q2 q3 q4 => by
        show (if i = i then Q .normal a1 w1 else Q (.exit i) a1 w1)
        rw [if_pos rfl]
        exact hQ ρ1 a1 w1 q1 q2 q3 q4)
    | blockX c1 hne =>
      rename_i j
      exact ih c1 hok.2 hN hf hh (fun ρ1 a1 w1 q1 q2 q3 q4 => by
        show (if j = i then Q .normal a1 w1 else Q (.exit j) a1 w1)
        rw [if_neg hne]
        exact hQ ρ1 a1 w1 q1 q2 q3 q4)
    | blockR c1 => exact ih c1 hok.2 hN hf hh (fun ρ1 a1 w1 q1 q2 q3 q4 => hQ ρ1 a1 w1 q1 q2 q3 q4)
  | loop m x ih =>
    intro code ρ fr fr' h h' e a w Q hr hok hN hf hh hQ
    cases code <;> simp only [okC] at hok <;> try (cases hok; done)
    cases hr with
    | loop n1 l1 =>
      rename_i frs n
      let R : Act → World → Nat → Prop := fun a1 w1 n => ∃ fr1 h1 ρ1, ρ.le ρ1 ∧ N ≤ fr1.length ∧ LoopR call x n fr1 h1 e fr' h' ∧ FrR σ w0 ρ1 fr1 a1.tmps ∧ HR σ w0 ρ1 h1 w1 ∧ a1.defers = a.defers
      refine wp_loop (fun a1 w1 => ∃ n, R a1 w1 n) (fun a1 w1 => mu (R a1 w1)) ⟨n, _, h, ρ, ρ.le_refl, by rw [n1.1]; exact hN, l1, hf.norm n1, hh, rfl⟩ (fun a1 w1 hI => ?_)
      obtain ⟨fr1, h1, ρ1, q1, q2, q3, q4, q5, q6⟩ := mu_spec hI
      generalize hmu : mu (R a1 w1) = k at q3
      cases q3 with
      | go c1 n2 l2 =>
        rename_i k' frx fry hx
        refine ih c1 hok q2 q4 q5 (fun ρ2 a2 w2 r1 r2 r3 r4 => ?_)
        have hR : R a2 w2 k' := ⟨_, _, ρ2, Mp.le_trans q1 r1, by rw [n2.1, c1.len]; exact q2, l2, r2.norm n2, r4, by rw [r3, q6]⟩
        exact ⟨⟨k', hR⟩, by have := mu_le hR; omega⟩
      | out c1 hne =>
        refine ih c1 hok q2 q4 q5 (fun ρ2 a2 w2 r1 r2 r3 r4 => ?_)
        have := hQ ρ2 a2 w2 (Mp.le_trans q1 r1) r2 (by rw [r3, q6]) r4
        cases e with
        | normal => exact absurd rfl hne
        | exit j => exact this
        | ret => exact this
/-! ### Functions -/
def okRes (P : Program) : List ResultVar → List ARes → Bool
  | [], [] => true
  | .tmp t :: rs, .tmp t' :: qs => Nat.beq t t' && okRes P rs qs
  | .cell a t :: rs, .cell a' n :: qs => Nat.beq a a' && shapeOk P t n && okRes P rs qs
  | _, _ => false
def resF (tmps : Array Value) : ResultVar → Sem Value
  | .tmp t => pure (tmps.getD t undef)
  | .cell a t => do loadVar t (← asAddr (tmps.getD a undef))
theorem resF_tmp (tmps : Array Value) (t : Nat) (w : World) : (resF tmps (.tmp t)).run P w = .ok (tmps.getD t undef) w := rfl
theorem resF_cell {tmps : Array Value} {x : Nat} {t : TypeId} {ad : Addr} {uv : Value} {w : World} (h : tmps.getD x undef = .pointer (some ad)) (h2 : (loadVar t ad).run P w = .ok uv w) : (resF tmps (.cell x t)).run P w = .ok uv w := by
  show (asAddr (tmps.getD x undef) >>= fun ad => loadVar t ad).run P w = _
  rw [h]
  simp [asAddr, h2]
theorem res_list {fr : Fr} {a : Act} {h : AH} {w : World} (hf : FrR σ w0 ρ fr a.tmps) (hh : HR σ w0 ρ h w) : ∀ {rs : List ResultVar} {qs : List ARes} {vs : List AV}, okRes P rs qs = true → resAll fr h qs = some vs →
    ∃ us, (rs.mapM (resF a.tmps)).run P w = .ok us w ∧ VA σ w0 ρ vs us := by
  intro rs
  induction rs with
  | nil =>
    intro qs vs hok hv
    cases qs with
    | nil => cases hv; exact ⟨[], by simp, rfl, fun j a v h => by simp at h⟩
    | cons q qs => simp [okRes] at hok
  | cons r rs ih =>
    intro qs vs hok hv
    cases qs with
    | nil => cases r <;> simp [okRes] at hok
    | cons q qs =>
      obtain ⟨v, hv1, hv⟩ := Option.bind_eq_some_iff.1 (show (resOne fr h q).bind (fun v => (resAll fr h qs).bind fun vs => some (v :: vs)) = some vs from hv)
      obtain ⟨vs', hv2, hv⟩ := Option.bind_eq_some_iff.1 hv
      cases hv
      have cons_ : ∀ u us, VR σ w0 ρ v u → VA σ w0 ρ vs' us → VA σ w0 ρ (v :: vs') (u :: us) := by
        intro u us h1 h2
        refine ⟨by rw [List.length_cons, List.length_cons, h2.1], fun j x y hx hy => ?_⟩
        cases j with
        | zero => simp at hx hy; subst hx; subst hy; exact h1
        | succ j => exact h2.2 j x y (by simpa using hx) (by simpa using hy)
      cases r with
      | tmp t =>
        cases q with
        | cell => simp [okRes] at hok
        | tmp t' =>
          simp only [okRes, Bool.and_eq_true] at hok
          obtain rfl := Nat.eq_of_beq_eq_true hok.1
          obtain ⟨us, h1, h2⟩ := ih hok.2 hv2
          cases hv1
          exact ⟨a.tmps.getD t undef :: us, by simp only [List.mapM_cons, Sem.run_bind, resF_tmp, Result.andThen_ok, h1, Sem.run_pure], cons_ _ _ (hf.2 t) h2⟩
      | cell x t =>
        cases q with
        | tmp => simp [okRes] at hok
        | cell x' n =>
          simp only [okRes, Bool.and_eq_true] at hok
          obtain ⟨⟨h3, h4⟩, h5⟩ := hok
          obtain rfl := Nat.eq_of_beq_eq_true h3
          obtain ⟨us, h1, h2⟩ := ih h5 hv2
          obtain ⟨uv, h6, h7⟩ := load_sound hh (hf.2 x) h4 (show aLd h n (fr.at x) = some v from hv1)
          have h8 : ∃ ad, a.tmps.getD x undef = .pointer (some ad) := by
            cases hp : a.tmps.getD x undef with
            | pointer o =>
              cases o with
              | some ad => exact ⟨ad, rfl⟩
              | none => rw [hp] at h6; simp [Instr.loadAt, Instr.sureAddr] at h6
            | _ => rw [hp] at h6; simp [Instr.loadAt, Instr.sureAddr] at h6
          obtain ⟨ad, h8⟩ := h8
          rw [h8] at h6
          have h9 : (loadVar t ad).run P w = .ok uv w := by simpa [Instr.loadAt, Instr.sureAddr] using h6
          exact ⟨uv :: us, by simp only [List.mapM_cons, Sem.run_bind, resF_cell h8 h9, Result.andThen_ok, h1, Sem.run_pure], cons_ _ _ h7 h2⟩
theorem resOf_all {rs : List ARes} {fr : Fr} {h h' : AH} {v : AV} (hr : resOf rs fr h = some (v, h')) : h' = h ∧ ∃ vs, resAll fr h rs = some vs ∧ (vs = [v] ∨ (vs.length ≠ 1 ∧ v = .tup vs)) := by
  have lenA : ∀ (rs : List ARes) vs, resAll fr h rs = some vs → vs.length = rs.length := by
    intro rs
    induction rs with
    | nil => intro vs h; cases h; rfl
    | cons r rs ih =>
      intro vs hv
      obtain ⟨v, _, hv⟩ := Option.bind_eq_some_iff.1 (show (resOne fr h r).bind (fun v => (resAll fr h rs).bind fun vs => some (v :: vs)) = some vs from hv)
      obtain ⟨vs', hv2, hv⟩ := Option.bind_eq_some_iff.1 hv
      cases hv
      rw [List.length_cons, List.length_cons, ih _ hv2]
  match rs, hr with
  | [], hr => cases hr; exact ⟨rfl, [], rfl, .inr ⟨by simp, rfl⟩⟩
  | [.tmp t], hr => cases hr; exact ⟨rfl, [_], rfl, .inl rfl⟩
  | [.cell t n], hr =>
    obtain ⟨x, hx, hy⟩ := Option.bind_eq_some_iff.1 (show (resOne fr h (.cell t n)).bind (fun v => some (v, h)) = some (v, h') from hr)
    cases hy
    exact ⟨rfl, [v], by simp [resAll, hx], .inl rfl⟩
  | r1 :: r2 :: rs, hr =>
    have hr : ((resAll fr h (r1 :: r2 :: rs)).bind fun vs => some (AV.tup vs, h)) = some (v, h') := by cases r1 <;> exact hr
    obtain ⟨vs, hvs, hy⟩ := Option.bind_eq_some_iff.1 hr
    cases hy
    have := lenA _ _ hvs
    exact ⟨rfl, vs, hvs, .inr ⟨by rw [this]; simp, rfl⟩⟩
def okF (P : Program) (f : FuncId) (σ : Nat → FuncId) (F : AF) : Bool := match P.funcs[f]? with
  | some fn => (match fn.body with
    | some c => okC P σ F.ntmps F.body c
    | none => false) && !(fn.name == "runtime.NumGoroutine") && Nat.beq fn.ntmps F.ntmps && okRes P fn.results.toList F.res
  | none => false
theorem results_sound {fn : Func} {rs : List ARes} {fr : Fr} {h h' : AH} {v : AV} {a : Act} {w : World} (hok : okRes P fn.results.toList rs = true) (hf : FrR σ w0 ρ fr a.tmps) (hh : HR σ w0 ρ h w) (hr : resOf rs fr h = some (v, h')) : h' = h ∧ ∃ u, (results fn a.tmps).run P w = .ok u w ∧ VR σ w0 ρ v u := by
  obtain ⟨rfl, vs, h1, h2⟩ := resOf_all hr
  obtain ⟨us, h3, h4⟩ := res_list (P := P) hf hh hok h1
  refine ⟨rfl, ?_⟩
  have h5 : (results fn a.tmps).run P w = .ok (if h : us.toArray.size = 1 then us.toArray[0] else .tuple us.toArray) w := by
    show (fn.results.mapM (resF a.tmps) >>= fun vs => pure (if h : vs.size = 1 then vs[0] else .tuple vs)).run P w = _
    rw [Array.mapM_eq_mapM_toList]
    simp only [Sem.run_bind, Sem.run_map, h3, Result.andThen_ok, Sem.run_pure]
  rcases h2 with rfl | ⟨h6, rfl⟩
  · obtain ⟨u, rfl⟩ : ∃ u, us = [u] := by
      have := h4.1
      match us, this with
      | [u], _ => exact ⟨u, rfl⟩
    refine ⟨u, by rw [h5]; rfl, h4.2 0 v u rfl rfl⟩
  · have h7 : ¬ us.toArray.size = 1 := by rw [List.size_toArray, h4.1]; exact h6
    refine ⟨.tuple us.toArray, by rw [h5, dif_neg h7], .tup _ _ (by rw [List.size_toArray, h4.1]) (fun j x y hx hy => h4.2 j x y hx (by simpa using hy))⟩
theorem frame_FrR {F : AF} {xs : List AV} {vs : Array Value} {n : Nat} (hn : n = F.ntmps) (hv : VA σ w0 ρ xs vs.toList) : FrR σ w0 ρ (frame F xs) (vs ++ Array.replicate (n - vs.size) undef) := by
  subst hn
  have hl : vs.size = xs.length := by rw [← Array.length_toList]; exact hv.1
  have atA : ∀ (xs : List AV) (k i : Nat), Fr.at (xs ++ List.replicate k .junk) i = (xs[i]?).getD .junk := by
    intro xs
    induction xs with
    | nil =>
      intro k
      induction k with
      | zero => intro i; rfl
      | succ k ih => intro i; cases i with
        | zero => rfl
        | succ i => exact ih i
    | cons x xs ih =>
      intro k i
      cases i with
      | zero => rfl
      | succ i => exact ih k i
  refine ⟨by unfold frame; rw [Array.size_append, Array.size_replicate, List.length_append, List.length_replicate, hl], fun i => ?_⟩
  unfold frame
  rw [atA]
  cases hx : xs[i]? with
  | none => exact .junk _
  | some x =>
    have hi := getD_of hx
    have hi' : i < vs.size := by rw [hl]; exact hi
    have : (vs ++ Array.replicate (F.ntmps - vs.size) undef).getD i undef = vs[i] := by
      rw [Array.getD_eq_getD_getElem?, Array.getElem?_append_left hi', Array.getElem?_eq_getElem hi']
      rfl
    rw [this]
    exact hv.2 i x vs[i] hx (by simp [hi'])
theorem run_sound {T : Nat → Option AF} (hm : P.follows .mixedOrders = true) (hT : ∀ f F, T f = some F → okF P (σ f) σ F = true) : ∀ k, CallS P σ w0 (run T k) := by
  intro k
  induction k with
  | zero => intro f xs h r hr; cases hr
  | succ k ih =>
    intro f xs h r hr
    unfold run at hr
    cases hF : T f with
    | none => rw [hF] at hr; cases hr
    | some F =>
      rw [hF] at hr
      have hok := hT f F hF
      unfold okF at hok
      split at hok
      case h_2 => cases hok
      rename_i fn hfn
      simp only [Bool.and_eq_true] at hok
      obtain ⟨⟨⟨h1, h2⟩, h3⟩, h4⟩ := hok
      split at h1
      case h_2 => cases h1
      rename_i c hb
      refine ⟨by unfold okFn; rw [hfn]; simp only [hb, Option.isSome_some, Bool.true_and]; exact h2, fun ρ w vs hh hv => ?_⟩
      have hn := Nat.eq_of_beq_eq_true h3
      obtain ⟨fr, n1, hr1⟩ := norm_some (show norm F.params (frame F xs) (fun fr => exec (run T k) k F.body (fin F.res) fr h) = some r from hr)
      obtain ⟨e, fr', h', c1, hr2⟩ := exec_some hr1
      have hf0 := frame_FrR (F := F) hn hv
      have hlen : F.ntmps ≤ fr.length := by
        rw [n1.1]; unfold frame; rw [List.length_append, List.length_replicate]; omega
      refine calls_of_wp hfn hb (code_sound (a := { tmps := vs ++ Array.replicate (fn.ntmps - vs.size) undef, defers := [] }) ih hm c1 h1 hlen (hf0.norm n1) hh (fun ρ' a' w' q1 q2 q3 q4 => ?_))
      have done : ∀ ex, (ex = Exit.normal ∨ ex = Exit.ret) → resOf F.res fr' h' = some r → bodyPost P fn (fun e w' => ∃ u ρ', e = .returned u ∧ ρ.le ρ' ∧ VR σ w0 ρ' r.1 u ∧ HR σ w0 ρ' r.2 w') ex a' w' := by
        intro ex hex hres
        obtain ⟨v, h2⟩ := r
        obtain ⟨rfl, u, h5, h6⟩ := results_sound (P := P) h4 q2 q4 hres
        rcases hex with rfl | rfl <;> exact ⟨q3, u, h5, u, ρ', rfl, q1, h6, q4⟩
      cases e with
      | normal => exact done _ (.inl rfl) hr2
      | ret => exact done _ (.inr rfl) hr2
      | exit j => cases hr2
end Go.AM
