/- The examples, run: audit.Check by its table. -/
import Derived.Test.YtlfmiplojpcklaaGreatAxTab0
import Derived.Test.YtlfmiplojpcklaaGreatAxTab1
import Derived.Test.YtlfmiplojpcklaaGreatAxTab2
import Derived.Test.YtlfmiplojpcklaaGreatAxTab3
namespace Go.Proofs.YtlfmiplojpcklaaGreat.Code
open Go.Ax
noncomputable def tab : List Go.Ax.Told := [e0, e1, e2, e3, e4, e5, e6, e7, e8, e9, e10, e11, e12, e13, e14, e15]
noncomputable def X2 (f : Nat) : Option XDef := match Nat.beq f 6 with | true => some (.known (told 2000 tab)) | false => XW lib f
theorem outer : (call X2 2000 3 [] Heap.empty).map (·.1) = some (.bool true) := by kernel_rfl
end Go.Proofs.YtlfmiplojpcklaaGreat.Code
