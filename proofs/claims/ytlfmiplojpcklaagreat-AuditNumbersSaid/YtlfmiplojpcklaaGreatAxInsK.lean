/- known -/
import Derived.Test.YtlfmiplojpcklaaGreatAxInsW
import Derived.Test.YtlfmiplojpcklaaGreatAxInsDef
namespace Go.Proofs.YtlfmiplojpcklaaGreat.Ins
open Go.Ax Go.Proofs
noncomputable def X : Nat → Option XDef := XG ⟨ovlG, noneG⟩
end Go.Proofs.YtlfmiplojpcklaaGreat.Ins
