/- What slices.Insert answers is told by its contract. -/
import Derived.Test.YtlfmiplojpcklaaGreatAxTies
import Derived.Test.YtlfmiplojpcklaaGreatAxInsDef
namespace Go.Proofs.YtlfmiplojpcklaaGreat.Code
open Go.Ax
noncomputable def lib (n : Nat) : Option XDef := match Nat.beq n 120 with | true => some (.known (insG 2 16)) | false => none
end Go.Proofs.YtlfmiplojpcklaaGreat.Code
