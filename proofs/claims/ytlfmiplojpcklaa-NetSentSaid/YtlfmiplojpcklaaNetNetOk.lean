/- The table holds of the program; the library's contracts laid. -/
import Derived.Test.YtlfmiplojpcklaaAxNetT
import Derived.Test.YtlfmiplojpcklaaShelf
import Derived.Test.YtlfmiplojpcklaaAxLaw
set_option linter.unusedVariables false
namespace Go.Proofs.Ytlfmiplojpcklaa.Net
open Go.Ax Go.Proofs Go.Shelf
theorem e84 : Enters1 Try.prog 84 := ⟨fun args w => enters_of Try.func84 (by kernel_rfl) rfl args w⟩
theorem e152 : Enters1 Try.prog 152 := ⟨fun args w => enters_of Try.func152 (by kernel_rfl) rfl args w⟩
theorem e153 : Enters1 Try.prog 153 := ⟨fun args w => enters_of Try.func153 (by kernel_rfl) rfl args w⟩
theorem srt_ok : KnownS Try.prog 84 (srtG [153]) := srt_known e84 fun g hg => by
  rw [List.mem_singleton] at hg
  subst hg
  exact keysHyp Shelf.keysP Shelf.sorted Shelf.sort rfl e152 e153
theorem x_ok : XOk Try.prog X := xg_ok ⟨srt_ok⟩
theorem own : ownKnob Try.prog.godebug = none := by kernel_rfl
theorem laid : laidOutB Try.prog = true := by kernel_rfl
end Go.Proofs.Ytlfmiplojpcklaa.Net
