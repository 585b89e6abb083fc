/- For all bytes, the two builds read the same document, the argument reads as it did, and the answer owns its memory: the given statement Rows.FnExactReadDocSaid, with no condition. -/
import Derived.Test.YtndjodgcemgpfaaRows
import Derived.ProofKit
import Derived.OpenShut
import Derived.ShutString
import Derived.ChangeOld
import Derived.SizedLaws
import Derived.Carry
import Derived.Lib.SmallJoins
import Derived.Test.YtndjodgcemgpfaaKc7

section
namespace Go.Proofs.Ytndjodgcemgpfaa.fnExactReadDoc
open Go.ChangeShapes Go.WideShapes Go.ChangeAt Go.RowKit Go.Joins
open Go.ChangeMaps (open_string shut_string)
open Go.Proofs.YtndjodgcemgpfaaW.PrintWords Go.Proofs.YtndjodgcemgpfaaW.PrintLast Go.Proofs.YtndjodgcemgpfaaW.PrintMore Go.Proofs.Ytndjodgcemgpfaa.Q
set_option linter.unusedVariables false
set_option linter.unusedSimpArgs false
theorem own : ownKnob Try.prog.godebug = none := by kernel_rfl
theorem laidOut : laidOutB Try.prog = true := by kernel_rfl
set_option maxRecDepth 100000 in
theorem lifted (os : Os) (started : os.Started) (H : Type) (enc : TypeId × Value → H) :
    ReturnsInHanded {} Try.checked os 4 .any (Rows.fnExactReadDocSpec.pre6 enc Try.prog Try.f4 Rows.fnExactReadDocRow.domain false) (Rows.fnExactReadDocSpec.post enc Try.prog Try.f4 false true false false) := by
  refine returnsInHanded_of_change_sized (C := Try.checked) own started (by kernel_rfl) Try.func4
    (ChangeSpec.witness6 (enc := enc) (C := Try.checked) false ⟨#[], #[.slice none 0 0], []⟩ 8 (by kernel_rfl) (by kernel_rfl) (by kernel_rfl) (by kernel_rfl)) ?_
  intro W base args ds gs before hval0 hW hcnd hsz0 _
  have hval : ∀ (j : Nat) t v, Try.f4.params[j]? = some t → args[j]? = some v → Value.okWide Try.prog W .any base t v := hval0
  have hW' := hW
  obtain ⟨p, q, hA0, hV, rfl, hfz, hnd⟩ := hW
  have hA : DataW.TrodAll enc Try.prog W 0 (fun _ => true) true Try.f4.params.toList args.toList ds p := hA0
  rw [Try.params4] at hA hval
  obtain ⟨v0, vs0, d0, ds0, p0, q0, hargs, rfl, rfl, h0, r0⟩ := trodAll_cons hA
  obtain ⟨rfl, rfl, rfl⟩ := trodAll_nil r0
  obtain rfl : args = #[v0] := by cases args; simp_all
  obtain ⟨rfl, rfl⟩ := trodVars_none hV
  have k0 := h0
  have lt0 : ∀ x ∈ p0, x.block < W.heap.size := by obtain ⟨m, hm⟩ := k0; exact DataW.trod_lt m _ _ _ hm
  have hv0 := hval 0 26 v0 rfl rfl
  have k0_ := k0
  obtain ⟨fuel0, hf0⟩ := k0_
  have o0 : Opens Try.prog W 26 (Kd.slice 5 (Kd.int .u8)) _ := opens_slice Try.underlying26 (by kernel_rfl) (opens_int Try.underlying5 (by kernel_rfl))
  obtain ⟨vA, vL, vC, rfl⟩ := okWide_slice Try.underlying26 hv0
  obtain ⟨b, ⟨A1, c2, hc1, hl1, hC1⟩, hok⟩ := o0.opens _ _ _ _ _ _ _ _ hf0
  have hc1' : [Value.slice vA vL vC] = [Value.slice A1 b.length c2] := hc1
  injection hc1' with hc2 _
  injection hc2 with e1 e2 e3
  subst e1 e2 e3
  clear hA0 hval0 hsz0
  refine (laws_FnExactReadDoc.true_ vA vC b W hC1 hl1 hok).mono fun e W' ⟨he, bel⟩ => ?_
  subst he
  exact ⟨_, rfl, _, _, _, [], _, [], hW', trodAll_mk1 (shut_bool Try.underlying4 _), trodAll_mk1 (Below.trod laidOut (by kernel_rfl) (of_decide_eq_true (by kernel_rfl)) k0 bel lt0), rfl, bel.frame _, fun h => by cases h⟩
theorem over : Rows.fnExactReadDocRow.holds Try.pinned (OpenSpec.ofChange Rows.fnExactReadDocSpec) :=
  OpenClaim.holds_of_wide 4 Try.f4 rfl rfl rfl rfl rfl rfl rfl ⟨rfl, rfl, rfl, rfl, rfl⟩ rfl rfl rfl rfl rfl (by kernel_rfl) Try.func4 (by kernel_rfl)
    (of_decide_eq_true (by kernel_rfl)) (by unfold Func.isWrapper; first | (rw [if_pos (by decide +kernel)]; kernel_rfl) | (rw [if_neg (by decide +kernel)]; exact ⟨rfl, rfl⟩))
    (fun os started H enc _ => lifted os started H enc)
end Go.Proofs.Ytndjodgcemgpfaa.fnExactReadDoc
namespace Go.Proofs.Ytndjodgcemgpfaa
theorem fnExactReadDoc_holds : Rows.FnExactReadDocSaid := fnExactReadDoc.over
#print axioms fnExactReadDoc_holds
end Go.Proofs.Ytndjodgcemgpfaa
end
