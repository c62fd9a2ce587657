/- What suffices, function by function. -/
import Derived.Test.YtlfmiplojpcklaaGreatAxInsK
namespace Go.Proofs.YtlfmiplojpcklaaGreat.Ins
open Go.Ax Go.Proofs
theorem x_slices_Insert_L_api_Cut_api_Cut : X slices_Insert_L_api_Cut_api_Cut = some (.body (eraseF ac_slices_Insert_L_api_Cut_api_Cut)) := by kernel_rfl
theorem vce_slices_Insert_L_api_Cut_api_Cut {Q : AVal → Heap → Prop} {a0 a1 a2 : AVal} {h : Heap} : FnW X ac_slices_Insert_L_api_Cut_api_Cut [a0, a1, a2] h Q = vc_slices_Insert_L_api_Cut_api_Cut X Q a0 a1 a2 h := by kernel_rfl
theorem fn_slices_Insert_L_api_Cut_api_Cut {Q : AVal → Heap → Prop} {a0 a1 a2 : AVal} {h : Heap} (H : vc_slices_Insert_L_api_Cut_api_Cut X Q a0 a1 a2 h) : FnC X slices_Insert_L_api_Cut_api_Cut [a0, a1, a2] h Q :=
  Fn_of_W (n := 3) x_slices_Insert_L_api_Cut_api_Cut rfl (by kernel_rfl) (by kernel_rfl) rfl (by decide) (Eq.mpr vce_slices_Insert_L_api_Cut_api_Cut H)
end Go.Proofs.YtlfmiplojpcklaaGreat.Ins
