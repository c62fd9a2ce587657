/- Rewriting, new blocks by name. -/
import Derived.Test.YtlfmiplojpcklaaAxGrow
namespace Go.Ax
theorem g0 (a : AVal) (l : List AVal) : (a :: l)[0]? = some a := of_rfl rfl
theorem g1 (a b : AVal) (l : List AVal) : (a :: b :: l)[1]? = some b := of_rfl rfl
theorem g2 (a b c : AVal) (l : List AVal) : (a :: b :: c :: l)[2]? = some c := of_rfl rfl
theorem g3 (a b c d : AVal) (l : List AVal) : (a :: b :: c :: d :: l)[3]? = some d := of_rfl rfl
attribute [go_sem] true_and and_true Nat.zero_add Nat.add_zero g0 g1 g2 g3 Bool.not_true Bool.not_false
end Go.Ax
