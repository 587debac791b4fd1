/- For every input the law FnExactValidPoly returns true, and its argument reads afterwards as before; no condition. -/
import Derived.Test.YtfcdnfbhoppefaaRows
import Derived.Test.YtfcdnfbhoppefaaOpen
import Derived.Test.YtfcdnfbhoppefaaPureFnExactValidPoly
import Derived.WalkKit
import Derived.ProofKit
import Derived.OpenShut
import Derived.ShutString
import Derived.ChangeOld
import Derived.Below
import Derived.SizedLaws
namespace Go.Proofs.Ytfcdnfbhoppefaa.fnExactValidPoly
open Go.ChangeShapes Go.WideShapes Go.ChangeAt Go.RowKit Go.Proofs.Ytfcdnfbhoppefaa.Open Go.Proofs.YtfcdnfbhoppefaaW.PrintWords
theorem own : ownKnob Try.prog.godebug = none := by kernel_rfl
theorem laidOut : laidOutB Try.prog = true := by kernel_rfl
open PFnExactValidPoly in
theorem opens {H : Type} (enc : TypeId × Value → H) (W : World) (base : Nat) (spare : Nat → Bool) (held : Bool) : Opens enc Try.prog W base spare held 22 (Kd.slice 57 k57) (GoodL fun x => Fits .i64 x.f0 ∧ GoodL (Fits .i64) x.f1) :=
  opens_slice Try.underlying22 (by kernel_rfl) (opens_struct2 Try.underlying57 (fun x : S57 => (x.f0, x.f1)) (fun a b => ⟨a, b⟩) (fun _ _ => rfl) (by refine ⟨?_, rfl, rfl, ?_, ?_⟩ <;> kernel_rfl)
    (opens_int Try.underlying3) (opens_slice Try.underlying34 (by kernel_rfl) (opens_int Try.underlying3)))
set_option maxRecDepth 100000 in
theorem lifted (os : Os) (started : os.Started) (H : Type) (enc : TypeId × Value → H) :
    ReturnsInHanded {} Try.checked os 3 .any (Rows.fnExactValidPolySpec.pre6 enc Try.prog Try.f3 Rows.fnExactValidPolyRow.domain false) (Rows.fnExactValidPolySpec.post enc Try.prog Try.f3 false true false false) := by
  refine returnsInHanded_of_change_sized (C := Try.checked) own started (by kernel_rfl) Try.func3
    (ChangeSpec.witness6 (enc := enc) (C := Try.checked) false ⟨#[], #[.slice none 0 0], []⟩ 8 (by kernel_rfl) (by kernel_rfl) (by kernel_rfl) (by kernel_rfl)) ?_
  intro W base args ds gs before hval0 hW hcnd hsz0 _
  have hval : ∀ (j : Nat) t v, Try.f3.params[j]? = some t → args[j]? = some v → Value.okWide Try.prog W .any base t v := hval0
  have hW' := hW
  obtain ⟨p, q, hA0, hV, rfl, hfz, hnd⟩ := hW
  have hA : DataW.TrodAll enc Try.prog W 0 (fun _ => true) true Try.f3.params.toList args.toList ds p := hA0
  rw [Try.params3] at hA hval
  obtain ⟨v0, vs0, d0, ds0, p0, q0, hargs, rfl, rfl, h0, r0⟩ := trodAll_cons hA
  obtain ⟨rfl, rfl, rfl⟩ := trodAll_nil r0
  obtain rfl : args = #[v0] := by cases args; simp_all
  obtain ⟨rfl, rfl⟩ := trodVars_none hV
  obtain ⟨a0, len0, cap0, rfl⟩ := okWide_slice Try.underlying22 (hval 0 22 v0 rfl rfl)
  have k0 := h0
  have lt0 : ∀ x ∈ p0, x.block < W.heap.size := by obtain ⟨m, hm⟩ := k0; exact DataW.trod_lt m _ _ _ hm
  obtain ⟨l0, rfl, hc0, hr0, hm0, hg0⟩ := open_arg (a := a0) (len := len0) (cap := cap0) (opens enc W 0 (fun _ => true) true) h0
  clear hA0 hval0 hsz0
  obtain ⟨k, h⟩ := PureFnExactValidPoly.pure l0 hm0 (fun t ht => (hg0 t ht).2.1)
  refine (PFnExactValidPoly.laws_FnExactValidPoly.calls k _ _ l0 true W hr0 hc0 h).mono fun e W' ⟨he, bel⟩ => ?_
  subst he
  exact ⟨_, rfl, _, _, _, [], _, [], hW', trodAll_mk1 (shut_bool Try.underlying4 _), (trodAll_cons_mk (Below.trod laidOut (by kernel_rfl) (of_decide_eq_true (by kernel_rfl)) k0 bel lt0) trodAll_mk0), rfl, bel.frame _, fun h => by cases h⟩
theorem over : Rows.fnExactValidPolyRow.holds Try.pinned (OpenSpec.ofChange Rows.fnExactValidPolySpec) :=
  OpenClaim.holds_of_wide 3 Try.f3 rfl rfl rfl rfl rfl rfl rfl ⟨rfl, rfl, rfl, rfl, rfl⟩ rfl rfl rfl rfl rfl (by kernel_rfl) Try.func3 (by kernel_rfl)
    (of_decide_eq_true (by kernel_rfl)) (by unfold Func.isWrapper; first | (rw [if_pos (by decide +kernel)]; kernel_rfl) | (rw [if_neg (by decide +kernel)]; exact ⟨rfl, rfl⟩))
    (fun os started H enc _ => lifted os started H enc)
theorem proved : Rows.FnExactValidPolySaid := over
end Go.Proofs.Ytfcdnfbhoppefaa.fnExactValidPoly
namespace Go.Proofs.Ytfcdnfbhoppefaa
/-- The row, under a short name, for the claim. -/
theorem fnExactValidPoly_holds : Rows.FnExactValidPolySaid := fnExactValidPoly.proved
#print axioms fnExactValidPoly_holds
end Go.Proofs.Ytfcdnfbhoppefaa
