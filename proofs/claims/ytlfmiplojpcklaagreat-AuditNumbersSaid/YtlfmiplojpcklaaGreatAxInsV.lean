/- Of each function the condition that has to be shown: written by a program of this work; held against the code in the ties. -/
import Derived.Test.YtlfmiplojpcklaaGreatAxInsC
namespace Go.Proofs.YtlfmiplojpcklaaGreat.Ins
open Go.Ax Go.Proofs
set_option linter.unusedVariables false
def vc_slices_Insert_L_api_Cut_api_Cut (X : Nat → Option XDef) (Q : AVal → Heap → Prop) (v0_s v1_i v2_v : AVal) (h : Heap) : Prop :=
 ok (oSl 2 v0_s (some v1_i) none none) fun v12 =>
 ok (oLen v2_v) fun v14 =>
 ok (binA .eql v14 (.int .i64 0)) fun v16 =>
 br v16 (
 Q v0_s h) (
 ok (oLen v0_s) fun v19 =>
 ok (binA .eql v1_i v19) fun v22 =>
 br v22 (
 ok2 (appendA h 2 16 v0_s v2_v) fun v25 h1 =>
 Q v25 h1) (
 ok (binA .add v19 v14) fun v28 =>
 ok (oCap v0_s) fun v30 =>
 ok (binA .gtr v28 v30) fun v31 =>
 br v31 (
 ok (oSl 2 v0_s none (some v1_i) none) fun v34 =>
 ok (binA .add v19 v14) fun v37 =>
 ok (binA .sub v37 v1_i) fun v39 =>
 ok2 (appendZA h 2 16 [(.int .i64 0), (.int .i64 0)] v34 v39) fun v40 h2 =>
 ok (oSl 2 v40 (some v1_i) none none) fun v43 =>
 ok2 (copyA h2 2 v43 v2_v) fun v45 h3 =>
 ok (binA .add v1_i v14) fun v49 =>
 ok (oSl 2 v40 (some v49) none none) fun v50 =>
 ok (oSl 2 v0_s (some v1_i) none none) fun v53 =>
 (True) ∧
 ok2 (copyA h3 2 v50 v53) fun v54 h4 =>
 (True) ∧
 (True) ∧
 Q v40 h4) (
 ok (binA .add v19 v14) fun v59 =>
 ok (oSl 2 v0_s none (some v59) none) fun v60 =>
 ok (binA .add v1_i v14) fun v65 =>
 ok (oSl 2 v60 (some v65) none none) fun v66 =>
 FnC X slices_overlaps_api_Cut [v2_v, v66] h fun v67 h5 =>
 ok (unA .not v67) fun v68 =>
 br v68 (
 ok (binA .add v1_i v14) fun v72 =>
 ok (oSl 2 v60 (some v72) none none) fun v73 =>
 ok (oSl 2 v60 (some v1_i) none none) fun v76 =>
 (True) ∧
 ok2 (copyA h5 2 v73 v76) fun v77 h6 =>
 (True) ∧
 (True) ∧
 ok (oSl 2 v60 (some v1_i) none none) fun v80 =>
 ok2 (copyA h6 2 v80 v2_v) fun v82 h7 =>
 Q v60 h7) (
 ok (oSl 2 v60 (some v19) none none) fun v86 =>
 ok2 (copyA h5 2 v86 v2_v) fun v88 h8 =>
 ok (oSl 2 v60 (some v1_i) none none) fun v91 =>
 FnC X slices_rotateRight_api_Cut [v91, v14] h8 fun v93 h9 =>
 Q v60 h9))))
end Go.Proofs.YtlfmiplojpcklaaGreat.Ins
