/- slices.Insert of cuts: what it answers, whatever room its row has. -/
import Derived.Test.YtlfmiplojpcklaaGreatInsRun
import Derived.Test.YtlfmiplojpcklaaGreatAxMove
import Derived.Test.YtlfmiplojpcklaaGreatAxInsTop
set_option linter.unusedSimpArgs false
set_option linter.unusedVariables false
namespace Go.Proofs.YtlfmiplojpcklaaGreat.Ins
open Go.Ax Go.Proofs
theorem ovl_known : KnownS Tryz.prog slices_overlaps_api_Cut ovlG := ovl_s (P := Tryz.prog) (t := 136) (tR := 4) (elem := 139) (sz := 2) Tryz.func129 (by kernel_rfl) (by kernel_rfl) (by kernel_rfl) (by kernel_rfl) (by kernel_rfl) (by kernel_rfl)
theorem X_ok : XOk Tryz.prog X := xg_ok ⟨ovl_known, none_s _ _⟩

/-- At the end: append. -/
theorem ins_app {h h' : Heap} {s v : AVal} {i bv iv cv ev : Nat} {xv : Bool} (hl : oLen s = some (.int .i64 (i : Int))) (hs : (oSl 2 s (some (.int .i64 (i : Int))) none none).isSome = true) (ha : appendA h 2 16 s (.slice bv iv 1 cv ev xv) = some (v, h')) :
    FnIs X slices_Insert_L_api_Cut_api_Cut [s, .int .i64 (i : Int), .slice bv iv 1 cv ev xv] h v h' := by
  refine FnIs.of (fn_slices_Insert_L_api_Cut_api_Cut ?_)
  unfold vc_slices_Insert_L_api_Cut_api_Cut
  obtain ⟨r, hr⟩ := Option.isSome_iff_exists.1 hs
  have e0 : ¬ ((1 : Nat) : Int) = 0 := by decide
  simp only [go_sem, hr, hl, s_eql, e0, decide_false, decide_true, ha]
  simp only [and_self]

theorem ins_known_ok : KnownS Tryz.prog slices_Insert_L_api_Cut_api_Cut (insG 2 16) := ins_known mixed X_ok ⟨fun h1 h2 h3 h4 h5 h6 h7 h8 h9 => ins_out h1 h2 h3 h4 h5 h6 h7 h8 h9, fun h1 h2 h3 h4 h5 h6 h7 h8 h9 h10 h11 h12 h13 h14 h15 h16 h17 => ins_in h1 h2 h3 h4 h5 h6 h7 h8 h9 h10 h11 h12 h13 h14 h15 h16 h17, fun h1 h2 h3 => ins_app h1 h2 h3⟩
end Go.Proofs.YtlfmiplojpcklaaGreat.Ins
