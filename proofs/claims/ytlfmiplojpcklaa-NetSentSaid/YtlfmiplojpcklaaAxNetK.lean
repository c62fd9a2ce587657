/- known -/
import Derived.Test.YtlfmiplojpcklaaAxNetW
import Derived.Test.YtlfmiplojpcklaaAxSrt
namespace Go.Proofs.Ytlfmiplojpcklaa.Net
open Go.Ax Go.Proofs
noncomputable def X : Nat → Option XDef := XG ⟨srtG [153]⟩
end Go.Proofs.Ytlfmiplojpcklaa.Net
