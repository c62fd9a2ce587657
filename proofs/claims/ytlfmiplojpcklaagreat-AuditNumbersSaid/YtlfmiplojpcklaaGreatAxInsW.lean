/- The code is the program's, function by function. -/
import Derived.Test.YtlfmiplojpcklaaGreatAxInsV
import Derived.Test.YtlfmiplojpcklaaGreatProg
import Derived.KernelRfl
namespace Go.Proofs.YtlfmiplojpcklaaGreat.Ins
open Go.Ax Go.Proofs
theorem ok_slices_Insert_L_api_Cut_api_Cut : compFunc Tryz.prog Tryz.f120 = some (eraseF ac_slices_Insert_L_api_Cut_api_Cut) := by kernel_rfl
theorem mixed : Tryz.prog.follows .mixedOrders = true := by kernel_rfl
structure Known where
  g_slices_overlaps_api_Cut : List AVal → Heap → Option (AVal × Heap)
  g_slices_rotateRight_api_Cut : List AVal → Heap → Option (AVal × Heap)
noncomputable def flat (g : Known) : List (Nat × XDef) := [(slices_Insert_L_api_Cut_api_Cut, .body (eraseF ac_slices_Insert_L_api_Cut_api_Cut)), (slices_overlaps_api_Cut, .known g.g_slices_overlaps_api_Cut), (slices_rotateRight_api_Cut, .known g.g_slices_rotateRight_api_Cut)]
noncomputable def XG (g : Known) (f : Nat) : Option XDef := lookN f (flat g)
theorem en_slices_Insert_L_api_Cut_api_Cut : EntryOk Tryz.prog slices_Insert_L_api_Cut_api_Cut (.body (eraseF ac_slices_Insert_L_api_Cut_api_Cut)) := body_ok (f := Tryz.f120) Tryz.func120 ok_slices_Insert_L_api_Cut_api_Cut
structure KnownsOk (g : Known) : Prop where
  k_slices_overlaps_api_Cut : KnownS Tryz.prog slices_overlaps_api_Cut g.g_slices_overlaps_api_Cut
  k_slices_rotateRight_api_Cut : KnownS Tryz.prog slices_rotateRight_api_Cut g.g_slices_rotateRight_api_Cut
theorem kn_slices_overlaps_api_Cut {g : Known} (hg : KnownsOk g) : EntryOk Tryz.prog slices_overlaps_api_Cut (.known g.g_slices_overlaps_api_Cut) := known_ok hg.k_slices_overlaps_api_Cut
theorem kn_slices_rotateRight_api_Cut {g : Known} (hg : KnownsOk g) : EntryOk Tryz.prog slices_rotateRight_api_Cut (.known g.g_slices_rotateRight_api_Cut) := known_ok hg.k_slices_rotateRight_api_Cut
theorem flat_ok {g : Known} (hg : KnownsOk g) : AllOk Tryz.prog (flat g) := by
  unfold flat
  refine AllOk.cons (en_slices_Insert_L_api_Cut_api_Cut) ?_
  refine AllOk.cons (kn_slices_overlaps_api_Cut hg) ?_
  refine AllOk.cons (kn_slices_rotateRight_api_Cut hg) ?_
  exact AllOk.nil
theorem xg_ok {g : Known} (hg : KnownsOk g) : XOk Tryz.prog (XG g) := lookN_ok (flat_ok hg)
end Go.Proofs.YtlfmiplojpcklaaGreat.Ins
