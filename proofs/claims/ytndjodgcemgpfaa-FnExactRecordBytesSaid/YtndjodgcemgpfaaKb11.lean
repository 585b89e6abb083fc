/- For every record, the two builds' record bytes agree and the argument reads as it did: the given statement Rows.FnExactRecordBytesSaid, with no condition. -/
import Derived.Test.YtndjodgcemgpfaaRows
import Derived.ProofKit
import Derived.OpenShut
import Derived.ShutString
import Derived.ChangeOld
import Derived.SizedLaws
import Derived.Carry
import Derived.Lib.SmallJoins
import Derived.Test.YtndjodgcemgpfaaKb10

section
namespace Go.Proofs.Ytndjodgcemgpfaa.fnExactRecordBytes
open Go.ChangeShapes Go.WideShapes Go.ChangeAt Go.RowKit Go.Joins
open Go.ChangeMaps (open_string shut_string)
open Go.Proofs.YtndjodgcemgpfaaW.PrintWords Go.Proofs.YtndjodgcemgpfaaW.PrintLast Go.Proofs.YtndjodgcemgpfaaW.PrintMore Go.Proofs.Ytndjodgcemgpfaa.Q
set_option linter.unusedVariables false
set_option linter.unusedSimpArgs false
theorem own : ownKnob Try.prog.godebug = none := by kernel_rfl
theorem laidOut : laidOutB Try.prog = true := by kernel_rfl
set_option maxRecDepth 100000 in
theorem lifted (os : Os) (started : os.Started) (H : Type) (enc : TypeId × Value → H) :
    ReturnsInHanded {} Try.checked os 5 .any (Rows.fnExactRecordBytesSpec.pre6 enc Try.prog Try.f5 Rows.fnExactRecordBytesRow.domain false) (Rows.fnExactRecordBytesSpec.post enc Try.prog Try.f5 false true false false) := by
  refine returnsInHanded_of_change_sized (C := Try.checked) own started (by kernel_rfl) Try.func5
    (ChangeSpec.witness6 (enc := enc) (C := Try.checked) false ⟨#[], #[.agg #[.int .i64 0, .int .i64 0, .string ByteArray.empty, .string ByteArray.empty, .slice none 0 0]], []⟩ 8 (by kernel_rfl) (by kernel_rfl) (by kernel_rfl) (by kernel_rfl)) ?_
  intro W base args ds gs before hval0 hW hcnd hsz0 _
  have hval : ∀ (j : Nat) t v, Try.f5.params[j]? = some t → args[j]? = some v → Value.okWide Try.prog W .any base t v := hval0
  have hW' := hW
  obtain ⟨p, q, hA0, hV, rfl, hfz, hnd⟩ := hW
  have hA : DataW.TrodAll enc Try.prog W 0 (fun _ => true) true Try.f5.params.toList args.toList ds p := hA0
  rw [Try.params5] at hA hval
  obtain ⟨v0, vs0, d0, ds0, p0, q0, hargs, rfl, rfl, h0, r0⟩ := trodAll_cons hA
  obtain ⟨rfl, rfl, rfl⟩ := trodAll_nil r0
  obtain rfl : args = #[v0] := by cases args; simp_all
  obtain ⟨rfl, rfl⟩ := trodVars_none hV
  have k0 := h0
  have lt0 : ∀ x ∈ p0, x.block < W.heap.size := by obtain ⟨m, hm⟩ := k0; exact DataW.trod_lt m _ _ _ hm
  have hv0 := hval 0 43 v0 rfl rfl
  obtain ⟨cs0, rfl, hcs0⟩ := okWide_struct Try.underlying43 hv0
  have k0_ := k0
  obtain ⟨fuel0, hf0⟩ := k0_
  have o0 : Opens Try.prog W 43 (Kd.pair (Kd.int .i64) (Kd.pair (Kd.int .i64) (Kd.pair Kd.string (Kd.pair Kd.string (Kd.slice 134 k134))))) _ := opens_struct Try.underlying43 (by kernel_rfl) (opensFs_cons (opens_int Try.underlying3 (by kernel_rfl)) rfl (opensFs_cons (opens_int Try.underlying3 (by kernel_rfl)) rfl (opensFs_cons (opens_string Try.underlying9 (by kernel_rfl)) rfl (opensFs_one (opens_struct Try.underlying24 (by kernel_rfl) (opensFs_cons (opens_string Try.underlying9 (by kernel_rfl)) rfl (opensFs_one (opens_slice Try.underlying22 (by kernel_rfl) (opens_iso (fun x : S134 => (x.f0, x.f1, x.f2)) (fun x => ⟨x.1, x.2.1, x.2.2⟩) (fun _ => rfl) (opens_struct (fs := _) Try.underlying134 (by kernel_rfl) (opensFs_cons (opens_string Try.underlying9 (by kernel_rfl)) rfl (opensFs_cons (opens_slice_len Try.underlying82 (by kernel_rfl) (opens_string Try.underlying9 (by kernel_rfl))) rfl (opensFs_one (opens_slice_len Try.underlying52 (by kernel_rfl) (opens_int Try.underlying3 (by kernel_rfl))) rfl)))))) rfl))) rfl))))
  obtain ⟨⟨kd, sq, id, did, vs⟩, ⟨ck, cr1, hcs, hck, ⟨cq, cr2, hcr1, hcq, ⟨ci, cr3, hcr2, hci, ⟨c0, c1, hcr3, hc0, ⟨A1, c2, hc1, hl1, hC1⟩⟩⟩⟩⟩, hoka, hokb, hok0, hok1, hok2⟩ := o0.opens _ _ _ _ _ _ _ _ hf0
  have hck' : ck = [.int .i64 kd] := hck
  have hcq' : cq = [.int .i64 sq] := hcq
  have hci' : ci = [.string id] := hci
  have hc0' : c0 = [.string did] := hc0
  subst hck' hcq' hci' hc0' hc1 hcr1 hcr2 hcr3
  obtain rfl : cs0 = #[.int .i64 kd, .int .i64 sq, .string id, .string did, .slice A1 vs.length c2] := by apply Array.ext'; simpa [Value.cells] using hcs
  clear hA0 hval0 hsz0
  refine (laws_FnExactRecordBytes.true_ kd sq id did A1 c2 vs W hC1 hl1 hok0 hok1 (fun x hx => ⟨⟨(hok2 x hx).1, (hok2 x hx).2.1, (hok2 x hx).2.2.1⟩, (hok2 x hx).2.2.2⟩)).mono fun e W' ⟨he, bel⟩ => ?_
  subst he
  exact ⟨_, rfl, _, _, _, [], _, [], hW', trodAll_mk1 (shut_bool Try.underlying4 _), trodAll_mk1 (Below.trod laidOut (by kernel_rfl) (of_decide_eq_true (by kernel_rfl)) k0 bel lt0), rfl, bel.frame _, fun h => by cases h⟩
theorem over : Rows.fnExactRecordBytesRow.holds Try.pinned (OpenSpec.ofChange Rows.fnExactRecordBytesSpec) :=
  OpenClaim.holds_of_wide 5 Try.f5 rfl rfl rfl rfl rfl rfl rfl ⟨rfl, rfl, rfl, rfl, rfl⟩ rfl rfl rfl rfl rfl (by kernel_rfl) Try.func5 (by kernel_rfl)
    (of_decide_eq_true (by kernel_rfl)) (by unfold Func.isWrapper; first | (rw [if_pos (by decide +kernel)]; kernel_rfl) | (rw [if_neg (by decide +kernel)]; exact ⟨rfl, rfl⟩))
    (fun os started H enc _ => lifted os started H enc)
end Go.Proofs.Ytndjodgcemgpfaa.fnExactRecordBytes
namespace Go.Proofs.Ytndjodgcemgpfaa
theorem fnExactRecordBytes_holds : Rows.FnExactRecordBytesSaid := fnExactRecordBytes.over
#print axioms fnExactRecordBytes_holds
end Go.Proofs.Ytndjodgcemgpfaa
end
