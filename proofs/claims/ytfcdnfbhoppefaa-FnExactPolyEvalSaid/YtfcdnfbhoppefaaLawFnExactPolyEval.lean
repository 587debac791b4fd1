/- For every input the law FnExactPolyEval returns true, and its arguments read afterwards as before; no condition. -/
import Derived.Test.YtfcdnfbhoppefaaRows
import Derived.Test.YtfcdnfbhoppefaaOpenFnExactPolyEval
import Derived.Test.YtfcdnfbhoppefaaPureFnExactPolyEval
import Derived.WalkKit
import Derived.ProofKit
import Derived.OpenShut
import Derived.ShutString
import Derived.ChangeOld
import Derived.Below
import Derived.SizedLaws
namespace Go.Proofs.Ytfcdnfbhoppefaa.fnExactPolyEval
open Go.ChangeShapes Go.WideShapes Go.ChangeAt Go.RowKit Go.Proofs.Ytfcdnfbhoppefaa.Open Go.Proofs.YtfcdnfbhoppefaaW.PrintWords Go.Proofs.Ytfcdnfbhoppefaa.PFnExactPolyEval
theorem own : ownKnob Try.prog.godebug = none := by kernel_rfl
theorem laidOut : laidOutB Try.prog = true := by kernel_rfl
set_option maxRecDepth 100000 in
theorem lifted (os : Os) (started : os.Started) (H : Type) (enc : TypeId × Value → H) :
    ReturnsInHanded {} Try.checked os 6 .any (Rows.fnExactPolyEvalSpec.pre6 enc Try.prog Try.f6 Rows.fnExactPolyEvalRow.domain false) (Rows.fnExactPolyEvalSpec.post enc Try.prog Try.f6 false true false false) := by
  refine returnsInHanded_of_change_sized (C := Try.checked) own started (by kernel_rfl) Try.func6
    (ChangeSpec.witness6 (enc := enc) (C := Try.checked) false ⟨#[], #[.slice none 0 0, .slice none 0 0], []⟩ 8 (by kernel_rfl) (by kernel_rfl) (by kernel_rfl) (by kernel_rfl)) ?_
  intro W base args ds gs before hval0 hW hcnd hsz0 _
  have hval : ∀ (j : Nat) t v, Try.f6.params[j]? = some t → args[j]? = some v → Value.okWide Try.prog W .any base t v := hval0
  have hW' := hW
  obtain ⟨p, q, hA0, hV, rfl, hfz, hnd⟩ := hW
  have hA : DataW.TrodAll enc Try.prog W 0 (fun _ => true) true Try.f6.params.toList args.toList ds p := hA0
  rw [Try.params6] at hA hval
  obtain ⟨v0, vs0, d0, ds0, p0, q0, hargs, rfl, rfl, h0, r0⟩ := trodAll_cons hA
  obtain ⟨v1, vs1, d1, ds1, p1, q1, rfl, rfl, rfl, h1, r1⟩ := trodAll_cons r0
  obtain ⟨rfl, rfl, rfl⟩ := trodAll_nil r1
  obtain rfl : args = #[v0, v1] := by cases args; simp_all
  obtain ⟨rfl, rfl⟩ := trodVars_none hV
  obtain ⟨b0, len0, cap0, rfl⟩ := okWide_slice Try.underlying22 (hval 0 22 v0 rfl rfl)
  have k0 := h0
  have lt0 : ∀ x ∈ p0, x.block < W.heap.size := by obtain ⟨m, hm⟩ := k0; exact DataW.trod_lt m _ _ _ hm
  obtain ⟨l0, rfl, hc0, hr0, hm0, hg0⟩ := open_arg (a := b0) (len := len0) (cap := cap0) (opens_slice (d := k57) Try.underlying22 (by kernel_rfl) (opens_struct2 Try.underlying57 (fun x : S57 => (x.f0, x.f1)) (fun a0 a1 => ⟨a0, a1⟩) (fun _ _ => rfl) (by refine ⟨?_, ?_, ?_, ?_, ?_⟩ <;> first | rfl | kernel_rfl) (opens_int Try.underlying3) (opens_slice (d := (Kd.int .i64)) Try.underlying34 (by kernel_rfl) (opens_int Try.underlying3)))) h0
  obtain ⟨b1, len1, cap1, rfl⟩ := okWide_slice Try.underlying39 (hval 1 39 v1 rfl rfl)
  have k1 := h1
  have lt1 : ∀ x ∈ p1, x.block < W.heap.size := by obtain ⟨m, hm⟩ := k1; exact DataW.trod_lt m _ _ _ hm
  obtain ⟨l1, rfl, hc1, hr1, hm1, hg1⟩ := open_arg (a := b1) (len := len1) (cap := cap1) (opens_slice (d := (Kd.slice 93 k93)) Try.underlying39 (by kernel_rfl) (opens_slice (d := k93) Try.underlying70 (by kernel_rfl) (opens_struct2 Try.underlying93 (fun x : S93 => (x.f0, x.f1)) (fun a0 a1 => ⟨a0, a1⟩) (fun _ _ => rfl) (by refine ⟨?_, ?_, ?_, ?_, ?_⟩ <;> first | rfl | kernel_rfl) (opens_slice (d := (Kd.int .i64)) Try.underlying34 (by kernel_rfl) (opens_int Try.underlying3)) (opens_int Try.underlying3)))) h1
  clear hA0 hval0 hsz0
  obtain ⟨k, h⟩ := QFnExactPolyEval.pure l0 l1 hm0 (fun t ht => (hg0 t ht).2.1) hm1 (fun z hz => ⟨(hg1 z hz).1, fun t ht => ((hg1 z hz).2 t ht).1.1⟩)
  refine (laws_FnExactPolyEval.calls k _ _ l0 _ _ l1 true W hr0 hc0 hr1 hc1 h).mono fun e W' ⟨he, bel0⟩ => ?_
  have bel := bel0
  subst he
  exact ⟨_, rfl, _, _, _, [], _, [], hW', trodAll_mk1 (shut_bool Try.underlying4 _), (trodAll_cons_mk (Below.trod laidOut (by kernel_rfl) (of_decide_eq_true (by kernel_rfl)) k0 bel lt0) (trodAll_cons_mk (Below.trod laidOut (by kernel_rfl) (of_decide_eq_true (by kernel_rfl)) k1 bel lt1) trodAll_mk0)), rfl, bel.frame _, fun h => by cases h⟩
theorem over : Rows.fnExactPolyEvalRow.holds Try.pinned (OpenSpec.ofChange Rows.fnExactPolyEvalSpec) :=
  OpenClaim.holds_of_wide 6 Try.f6 rfl rfl rfl rfl rfl rfl rfl ⟨rfl, rfl, rfl, rfl, rfl⟩ rfl rfl rfl rfl rfl (by kernel_rfl) Try.func6 (by kernel_rfl)
    (of_decide_eq_true (by kernel_rfl)) (by unfold Func.isWrapper; first | (rw [if_pos (by decide +kernel)]; kernel_rfl) | (rw [if_neg (by decide +kernel)]; exact ⟨rfl, rfl⟩))
    (fun os started H enc _ => lifted os started H enc)
theorem proved : Rows.FnExactPolyEvalSaid := over
end Go.Proofs.Ytfcdnfbhoppefaa.fnExactPolyEval
namespace Go.Proofs.Ytfcdnfbhoppefaa
/-- The row, under a short name, for the claim. -/
theorem fnExactPolyEval_holds : Rows.FnExactPolyEvalSaid := fnExactPolyEval.proved
#print axioms fnExactPolyEval_holds
end Go.Proofs.Ytfcdnfbhoppefaa
