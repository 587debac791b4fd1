/- For every input the law FnIsPositive returns true, and its arguments read afterwards as before; no condition. -/
import Derived.Test.YtfcdnfbhoppefaaRows
import Derived.Test.YtfcdnfbhoppefaaMO
import Derived.Test.YtfcdnfbhoppefaaMP
import Derived.Test.YtfcdnfbhoppefaaMS1
import Derived.Test.YtfcdnfbhoppefaaMS2
import Derived.Test.YtfcdnfbhoppefaaMS3
import Derived.Test.YtfcdnfbhoppefaaMS4
import Derived.Test.YtfcdnfbhoppefaaMS5
import Derived.Test.YtfcdnfbhoppefaaMS6
import Derived.Test.YtfcdnfbhoppefaaMS7
import Derived.Test.YtfcdnfbhoppefaaMS8
import Derived.Test.YtfcdnfbhoppefaaMS10
import Derived.WalkKit
import Derived.ProofKit
import Derived.OpenShut
import Derived.ShutString
import Derived.ChangeOld
import Derived.Below
import Derived.SizedLaws
namespace Go.Proofs.Ytfcdnfbhoppefaa.fnIsPositive
open Go.ChangeShapes Go.WideShapes Go.ChangeAt Go.RowKit Go.AM
theorem own : ownKnob Try.prog.godebug = none := by kernel_rfl
theorem laidOut : laidOutB Try.prog = true := by kernel_rfl
/-- The machine's functions, and their numbers in this program. -/
noncomputable def tab (n : Nat) : Option AF := if n = 186 then some impl_IsLinear.ir else if n = 35 then some spec_newReader.ir else if n = 37 then some spec_reader_pick.ir else if n = 210 then some spec_randomWidths.ir else if n = 56 then some spec_reader_one.ir else if n = 49 then some spec_inRange.ir else if n = 255 then some spec_validPredicate.ir else if n = 256 then some spec_validColumns.ir else if n = 257 then some spec_reducible.ir else if n = 240 then some spec_nodeWidth.ir else if n = 224 then some spec_planner_add.ir else if n = 241 then some spec_randomPredicate.ir else if n = 225 then some spec_planner_node.ir else if n = 226 then some spec_randomPlan.ir else if n = 75 then some spec_copyInts.ir else if n = 209 then some spec_anyPlan.ir else if n = 211 then some spec_positivePlan.ir else if n = 188 then some spec_DrawIsPositive.ir else if n = 189 then some impl_IsPositive.ir else if n = 190 then some spec_IsPositive.ir else if n = 269 then some laws_FnIsPositive.ir else none
def sg (n : Nat) : FuncId := if n = 186 then 18 else if n = 35 then 44 else if n = 37 then 45 else if n = 210 then 50 else if n = 56 then 69 else if n = 49 then 48 else if n = 255 then 120 else if n = 256 then 121 else if n = 257 then 122 else if n = 240 then 100 else if n = 224 then 75 else if n = 241 then 101 else if n = 225 then 76 else if n = 226 then 77 else if n = 75 then 78 else if n = 209 then 47 else if n = 211 then 49 else if n = 188 then 20 else if n = 189 then 21 else if n = 190 then 22 else if n = 269 then 5 else 0
set_option maxRecDepth 100000
theorem ok186 : okF Try.prog (sg 186) sg impl_IsLinear.ir = true := by kernel_rfl
theorem ok35 : okF Try.prog (sg 35) sg spec_newReader.ir = true := by kernel_rfl
theorem ok37 : okF Try.prog (sg 37) sg spec_reader_pick.ir = true := by kernel_rfl
theorem ok210 : okF Try.prog (sg 210) sg spec_randomWidths.ir = true := by kernel_rfl
theorem ok56 : okF Try.prog (sg 56) sg spec_reader_one.ir = true := by kernel_rfl
theorem ok49 : okF Try.prog (sg 49) sg spec_inRange.ir = true := by kernel_rfl
theorem ok255 : okF Try.prog (sg 255) sg spec_validPredicate.ir = true := by kernel_rfl
theorem ok256 : okF Try.prog (sg 256) sg spec_validColumns.ir = true := by kernel_rfl
theorem ok257 : okF Try.prog (sg 257) sg spec_reducible.ir = true := by kernel_rfl
theorem ok240 : okF Try.prog (sg 240) sg spec_nodeWidth.ir = true := by kernel_rfl
theorem ok224 : okF Try.prog (sg 224) sg spec_planner_add.ir = true := by kernel_rfl
theorem ok241 : okF Try.prog (sg 241) sg spec_randomPredicate.ir = true := by kernel_rfl
theorem ok225 : okF Try.prog (sg 225) sg spec_planner_node.ir = true := by kernel_rfl
theorem ok226 : okF Try.prog (sg 226) sg spec_randomPlan.ir = true := by kernel_rfl
theorem ok75 : okF Try.prog (sg 75) sg spec_copyInts.ir = true := by kernel_rfl
theorem ok209 : okF Try.prog (sg 209) sg spec_anyPlan.ir = true := by kernel_rfl
theorem ok211 : okF Try.prog (sg 211) sg spec_positivePlan.ir = true := by kernel_rfl
theorem ok188 : okF Try.prog (sg 188) sg spec_DrawIsPositive.ir = true := by kernel_rfl
theorem ok189 : okF Try.prog (sg 189) sg impl_IsPositive.ir = true := by kernel_rfl
theorem ok190 : okF Try.prog (sg 190) sg spec_IsPositive.ir = true := by kernel_rfl
theorem ok269 : okF Try.prog (sg 269) sg laws_FnIsPositive.ir = true := by kernel_rfl
theorem tab_ok : ∀ f F, tab f = some F → okF Try.prog (sg f) sg F = true := by
  intro f F h
  unfold tab at h
  by_cases h186 : f = 186
  · subst h186; rw [if_pos rfl] at h; cases h; exact ok186
  rw [if_neg h186] at h
  by_cases h35 : f = 35
  · subst h35; rw [if_pos rfl] at h; cases h; exact ok35
  rw [if_neg h35] at h
  by_cases h37 : f = 37
  · subst h37; rw [if_pos rfl] at h; cases h; exact ok37
  rw [if_neg h37] at h
  by_cases h210 : f = 210
  · subst h210; rw [if_pos rfl] at h; cases h; exact ok210
  rw [if_neg h210] at h
  by_cases h56 : f = 56
  · subst h56; rw [if_pos rfl] at h; cases h; exact ok56
  rw [if_neg h56] at h
  by_cases h49 : f = 49
  · subst h49; rw [if_pos rfl] at h; cases h; exact ok49
  rw [if_neg h49] at h
  by_cases h255 : f = 255
  · subst h255; rw [if_pos rfl] at h; cases h; exact ok255
  rw [if_neg h255] at h
  by_cases h256 : f = 256
  · subst h256; rw [if_pos rfl] at h; cases h; exact ok256
  rw [if_neg h256] at h
  by_cases h257 : f = 257
  · subst h257; rw [if_pos rfl] at h; cases h; exact ok257
  rw [if_neg h257] at h
  by_cases h240 : f = 240
  · subst h240; rw [if_pos rfl] at h; cases h; exact ok240
  rw [if_neg h240] at h
  by_cases h224 : f = 224
  · subst h224; rw [if_pos rfl] at h; cases h; exact ok224
  rw [if_neg h224] at h
  by_cases h241 : f = 241
  · subst h241; rw [if_pos rfl] at h; cases h; exact ok241
  rw [if_neg h241] at h
  by_cases h225 : f = 225
  · subst h225; rw [if_pos rfl] at h; cases h; exact ok225
  rw [if_neg h225] at h
  by_cases h226 : f = 226
  · subst h226; rw [if_pos rfl] at h; cases h; exact ok226
  rw [if_neg h226] at h
  by_cases h75 : f = 75
  · subst h75; rw [if_pos rfl] at h; cases h; exact ok75
  rw [if_neg h75] at h
  by_cases h209 : f = 209
  · subst h209; rw [if_pos rfl] at h; cases h; exact ok209
  rw [if_neg h209] at h
  by_cases h211 : f = 211
  · subst h211; rw [if_pos rfl] at h; cases h; exact ok211
  rw [if_neg h211] at h
  by_cases h188 : f = 188
  · subst h188; rw [if_pos rfl] at h; cases h; exact ok188
  rw [if_neg h188] at h
  by_cases h189 : f = 189
  · subst h189; rw [if_pos rfl] at h; cases h; exact ok189
  rw [if_neg h189] at h
  by_cases h190 : f = 190
  · subst h190; rw [if_pos rfl] at h; cases h; exact ok190
  rw [if_neg h190] at h
  by_cases h269 : f = 269
  · subst h269; rw [if_pos rfl] at h; cases h; exact ok269
  rw [if_neg h269] at h
  cases h
theorem has : HasPos tab := by constructor <;> first | rfl | (constructor <;> first | rfl | (constructor <;> rfl))
theorem lifted (os : Os) (started : os.Started) (H : Type) (enc : TypeId × Value → H) :
    ReturnsInHanded {} Try.checked os 5 .any (Rows.fnIsPositiveSpec.pre6 enc Try.prog Try.f5 Rows.fnIsPositiveRow.domain false) (Rows.fnIsPositiveSpec.post enc Try.prog Try.f5 false true false false) := by
  refine returnsInHanded_of_change_sized (C := Try.checked) own started (by kernel_rfl) Try.func5
    (ChangeSpec.witness6 (enc := enc) (C := Try.checked) false ⟨#[], #[.slice none 0 0], []⟩ 8 (by kernel_rfl) (by kernel_rfl) (by kernel_rfl) (by kernel_rfl)) ?_
  intro w base args ds gs before hval0 hW hcnd hsz0 _
  have hval : ∀ (j : Nat) t v, Try.f5.params[j]? = some t → args[j]? = some v → Value.okWide Try.prog w .any base t v := hval0
  have hW' := hW
  obtain ⟨p, q, hA0, hV, rfl, hfz, hnd⟩ := hW
  have hA : DataW.TrodAll enc Try.prog w 0 (fun _ => true) true Try.f5.params.toList args.toList ds p := hA0
  rw [Try.params5] at hA hval
  obtain ⟨v0, vs0, d0, ds0, p0, q0, hargs, rfl, rfl, h0, r0⟩ := trodAll_cons hA
  obtain ⟨rfl, rfl, rfl⟩ := trodAll_nil r0
  obtain rfl : args = #[v0] := by cases args; simp_all
  obtain ⟨rfl, rfl⟩ := trodVars_none hV
  obtain ⟨b0, len0, cap0, rfl⟩ := okWide_slice Try.underlying29 (hval 0 29 v0 rfl rfl)
  have k0 := h0
  have lt0 : ∀ x ∈ p0, x.block < w.heap.size := by obtain ⟨m, hm⟩ := k0; exact DataW.trod_lt m _ _ _ hm
  obtain ⟨l0, e0, hm0, hg0⟩ := Go.AM.open_arg (σ := sg) (ρ := Mp.none) (Go.AM.opens_slice (e := (fun n : Int => [Go.AM.AV.int .u8 n])) (s := 1) Try.underlying29 (by omega) (fun _ => rfl) (by kernel_rfl) (Go.AM.opens_int Try.underlying5)) h0
  clear hA0 hval0 hsz0
  have hw : W (run tab 2000000 269 [Go.AM.roL (fun n : Int => [Go.AM.AV.int .u8 n]) l0] AH.none) (fun v _ => v = .bool true) := by
    rw [roL_u8]; exact fnIsPositive_run has (by omega) (fun x hx => fits_u8 (hg0 x hx)) (fun b cs hb => by cases hb)
  obtain ⟨vr, hr, er, rfl⟩ := hw
  have va := VA_1 e0
  refine (law_calls (P := Try.prog) (σ := sg) (by kernel_rfl) tab_ok er va).mono fun e w' ⟨he, bel⟩ => ?_
  subst he
  exact ⟨_, rfl, _, _, _, [], _, [], hW', trodAll_mk1 (shut_bool Try.underlying4 _), (trodAll_cons_mk (Below.trod laidOut (by kernel_rfl) (of_decide_eq_true (by kernel_rfl)) k0 bel lt0) trodAll_mk0), rfl, bel.frame _, fun h => by cases h⟩
theorem over : Rows.fnIsPositiveRow.holds Try.pinned (OpenSpec.ofChange Rows.fnIsPositiveSpec) :=
  OpenClaim.holds_of_wide 5 Try.f5 rfl rfl rfl rfl rfl rfl rfl ⟨rfl, rfl, rfl, rfl, rfl⟩ rfl rfl rfl rfl rfl (by kernel_rfl) Try.func5 (by kernel_rfl)
    (of_decide_eq_true (by kernel_rfl)) (by unfold Func.isWrapper; first | (rw [if_pos (by decide +kernel)]; kernel_rfl) | (rw [if_neg (by decide +kernel)]; exact ⟨rfl, rfl⟩))
    (fun os started H enc _ => lifted os started H enc)
theorem proved : Rows.FnIsPositiveSaid := over
end Go.Proofs.Ytfcdnfbhoppefaa.fnIsPositive
namespace Go.Proofs.Ytfcdnfbhoppefaa
/-- The row, under a short name, for the claim. -/
theorem fnIsPositive_holds : Rows.FnIsPositiveSaid := fnIsPositive.proved
#print axioms fnIsPositive_holds
end Go.Proofs.Ytfcdnfbhoppefaa
