/- The statement 'NetSent'. -/
import Derived.Test.YtlfmiplojpcklaaNetNetSent
import Derived.Test.YtlfmiplojpcklaaNetNetOk
import Derived.Test.YtlfmiplojpcklaaRows
import Derived.WalkKit
import Derived.ProofKit
import Derived.OpenShut
namespace Go.Proofs.Ytlfmiplojpcklaa.netSent
open Go.ChangeShapes Go.WideShapes Go.ChangeAt Go.RowKit Go.Ax Go.Proofs.Ytlfmiplojpcklaa.Net
set_option linter.unusedVariables false
theorem types : LawTypes Try.prog Try.f3 4 := by
  refine ⟨laid, fun t ht => ?_, by kernel_rfl, Try.underlying4⟩
  rw [Try.params3, List.mem_singleton] at ht
  subst ht
  exact ⟨by kernel_rfl, of_decide_eq_true (by kernel_rfl)⟩
theorem reps : RepsA Try.prog Try.f3.params.toList (RArg false (RSl 1 (RInt .i64)) RNil) := by
  rw [Try.params3]
  exact repsA_cons (by rw [Try.underlying22]) (reps_slice Try.underlying22 (by kernel_rfl) (by decide) (reps_int (by kernel_rfl)) mono_int (fun h acs a hr => by rw [hr.1]; rfl)) (mono_sl mono_int) (fun _ h acs a hr => by obtain ⟨v, rfl, _⟩ := hr; rfl) repsA_nil
theorem law (h : Heap) (xs : List AVal) (a : List Int × Unit) (hi : HInv h) (hr : RArg false (RSl 1 (RInt .i64)) RNil h xs a) : FnC X 3 xs h fun v _ => v = .bool true := by
  obtain ⟨l, _⟩ := a
  obtain ⟨v, r, acs, rfl, hv, ⟨v', rfl, hs, _⟩, rfl⟩ := hr
  have : [v'] = [v] := hv
  simp only [List.cons.injEq, and_true] at this
  subst this
  exact sent_is hi (slR_int hs).1
set_option maxRecDepth 100000 in
theorem lifted (os : Os) (started : os.Started) (H : Type) (enc : TypeId × Value → H) :
    ReturnsInHanded {} Try.checked os 3 .any (Rows.netSentSpec.pre6 enc Try.prog Try.f3 Rows.netSentRow.domain false) (Rows.netSentSpec.post enc Try.prog Try.f3 false true false false) := by
  refine returnsInHanded_of_change (C := Try.checked) own started (by kernel_rfl) Try.func3
    (ChangeSpec.witness6 (enc := enc) (C := Try.checked) false ⟨#[], #[.slice none 0 0], []⟩ 8 (by kernel_rfl) (by kernel_rfl) (by kernel_rfl) (by kernel_rfl)) ?_
  intro W base args ds gs before hval0 hW hcnd _
  refine law_contract mixed x_ok types x_musterlaw08_NetSent reps law rfl (fun ds hd => ?_) hval0 hW
  rw [Try.params3] at hd
  match ds, hd with
  | [d], _ => rfl
theorem over : Rows.netSentRow.holds Try.pinned (OpenSpec.ofChange Rows.netSentSpec) :=
  OpenClaim.holds_of_wide 3 Try.f3 rfl rfl rfl rfl rfl rfl rfl ⟨rfl, rfl, rfl, rfl, rfl⟩ rfl rfl rfl rfl rfl (by kernel_rfl) Try.func3 (by kernel_rfl)
    (of_decide_eq_true (by kernel_rfl)) (by unfold Func.isWrapper; first | (rw [if_pos (by decide +kernel)]; kernel_rfl) | (rw [if_neg (by decide +kernel)]; exact ⟨rfl, rfl⟩))
    (fun os started H enc _ => lifted os started H enc)
/-- The statement. -/
theorem proved : Rows.NetSentSaid :=
  over
#print axioms proved
end Go.Proofs.Ytlfmiplojpcklaa.netSent
