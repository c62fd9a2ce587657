/- The code is the program's, function by function. -/
import Derived.Test.YtlfmiplojpcklaaGreatAxCodeB
import Derived.Test.YtlfmiplojpcklaaGreatAxCanon
import Derived.Test.YtlfmiplojpcklaaGreatProg
import Derived.KernelRfl
namespace Go.Proofs.YtlfmiplojpcklaaGreat.Code
open Go.Ax Go.Proofs
theorem ok3 : compFunc Tryz.prog Tryz.f3 = some c3 := by kernel_rfl
theorem ok4 : compFunc Tryz.prog Tryz.f4 = some c4 := by kernel_rfl
theorem ok5 : compFunc Tryz.prog Tryz.f5 = some c5 := by kernel_rfl
theorem ok6 : compFunc Tryz.prog Tryz.f6 = some c6 := by kernel_rfl
theorem ok7 : compFunc Tryz.prog Tryz.f7 = some c7 := by kernel_rfl
theorem ok8 : compFunc Tryz.prog Tryz.f8 = some c8 := by kernel_rfl
theorem ok9 : compFunc Tryz.prog Tryz.f9 = some c9 := by kernel_rfl
theorem ok10 : compFunc Tryz.prog Tryz.f10 = some c10 := by kernel_rfl
theorem ok11 : compFunc Tryz.prog Tryz.f11 = some c11 := by kernel_rfl
theorem ok12 : compFunc Tryz.prog Tryz.f12 = some c12 := by kernel_rfl
theorem ok13 : compFunc Tryz.prog Tryz.f13 = some c13 := by kernel_rfl
theorem ok14 : compFunc Tryz.prog Tryz.f14 = some c14 := by kernel_rfl
theorem ok15 : compFunc Tryz.prog Tryz.f15 = some c15 := by kernel_rfl
theorem ok16 : compFunc Tryz.prog Tryz.f16 = some c16 := by kernel_rfl
theorem ok17 : compFunc Tryz.prog Tryz.f17 = some c17 := by kernel_rfl
theorem ok18 : compFunc Tryz.prog Tryz.f18 = some c18 := by kernel_rfl
theorem ok19 : compFunc Tryz.prog Tryz.f19 = some c19 := by kernel_rfl
theorem ok20 : compFunc Tryz.prog Tryz.f20 = some c20 := by kernel_rfl
theorem ok21 : compFunc Tryz.prog Tryz.f21 = some c21 := by kernel_rfl
theorem ok22 : compFunc Tryz.prog Tryz.f22 = some c22 := by kernel_rfl
theorem ok23 : compFunc Tryz.prog Tryz.f23 = some c23 := by kernel_rfl
theorem ok24 : compFunc Tryz.prog Tryz.f24 = some c24 := by kernel_rfl
theorem ok25 : compFunc Tryz.prog Tryz.f25 = some c25 := by kernel_rfl
theorem ok26 : compFunc Tryz.prog Tryz.f26 = some c26 := by kernel_rfl
theorem ok27 : compFunc Tryz.prog Tryz.f27 = some c27 := by kernel_rfl
theorem ok28 : compFunc Tryz.prog Tryz.f28 = some c28 := by kernel_rfl
theorem ok29 : compFunc Tryz.prog Tryz.f29 = some c29 := by kernel_rfl
theorem ok30 : compFunc Tryz.prog Tryz.f30 = some c30 := by kernel_rfl
theorem ok31 : compFunc Tryz.prog Tryz.f31 = some c31 := by kernel_rfl
theorem ok32 : compFunc Tryz.prog Tryz.f32 = some c32 := by kernel_rfl
theorem ok33 : compFunc Tryz.prog Tryz.f33 = some c33 := by kernel_rfl
theorem ok34 : compFunc Tryz.prog Tryz.f34 = some c34 := by kernel_rfl
theorem ok35 : compFunc Tryz.prog Tryz.f35 = some c35 := by kernel_rfl
theorem ok36 : compFunc Tryz.prog Tryz.f36 = some c36 := by kernel_rfl
theorem ok37 : compFunc Tryz.prog Tryz.f37 = some c37 := by kernel_rfl
theorem ok38 : compFunc Tryz.prog Tryz.f38 = some c38 := by kernel_rfl
theorem ok39 : compFunc Tryz.prog Tryz.f39 = some c39 := by kernel_rfl
theorem ok40 : compFunc Tryz.prog Tryz.f40 = some c40 := by kernel_rfl
theorem ok41 : compFunc Tryz.prog Tryz.f41 = some c41 := by kernel_rfl
theorem ok42 : compFunc Tryz.prog Tryz.f42 = some c42 := by kernel_rfl
theorem ok43 : compFunc Tryz.prog Tryz.f43 = some c43 := by kernel_rfl
theorem ok44 : compFunc Tryz.prog Tryz.f44 = some c44 := by kernel_rfl
theorem ok45 : compFunc Tryz.prog Tryz.f45 = some c45 := by kernel_rfl
theorem ok46 : compFunc Tryz.prog Tryz.f46 = some c46 := by kernel_rfl
theorem ok47 : compFunc Tryz.prog Tryz.f47 = some c47 := by kernel_rfl
theorem ok48 : compFunc Tryz.prog Tryz.f48 = some c48 := by kernel_rfl
theorem ok49 : compFunc Tryz.prog Tryz.f49 = some c49 := by kernel_rfl
theorem ok50 : compFunc Tryz.prog Tryz.f50 = some c50 := by kernel_rfl
theorem ok51 : compFunc Tryz.prog Tryz.f51 = some c51 := by kernel_rfl
theorem ok52 : compFunc Tryz.prog Tryz.f52 = some c52 := by kernel_rfl
theorem ok53 : compFunc Tryz.prog Tryz.f53 = some c53 := by kernel_rfl
theorem ok54 : compFunc Tryz.prog Tryz.f54 = some c54 := by kernel_rfl
theorem ok55 : compFunc Tryz.prog Tryz.f55 = some c55 := by kernel_rfl
theorem ok56 : compFunc Tryz.prog Tryz.f56 = some c56 := by kernel_rfl
theorem ok57 : compFunc Tryz.prog Tryz.f57 = some c57 := by kernel_rfl
theorem ok58 : compFunc Tryz.prog Tryz.f58 = some c58 := by kernel_rfl
theorem ok59 : compFunc Tryz.prog Tryz.f59 = some c59 := by kernel_rfl
theorem ok60 : compFunc Tryz.prog Tryz.f60 = some c60 := by kernel_rfl
theorem ok61 : compFunc Tryz.prog Tryz.f61 = some c61 := by kernel_rfl
theorem ok62 : compFunc Tryz.prog Tryz.f62 = some c62 := by kernel_rfl
theorem ok63 : compFunc Tryz.prog Tryz.f63 = some c63 := by kernel_rfl
theorem ok64 : compFunc Tryz.prog Tryz.f64 = some c64 := by kernel_rfl
theorem ok65 : compFunc Tryz.prog Tryz.f65 = some c65 := by kernel_rfl
theorem ok66 : compFunc Tryz.prog Tryz.f66 = some c66 := by kernel_rfl
theorem ok67 : compFunc Tryz.prog Tryz.f67 = some c67 := by kernel_rfl
theorem ok68 : compFunc Tryz.prog Tryz.f68 = some c68 := by kernel_rfl
theorem ok69 : compFunc Tryz.prog Tryz.f69 = some c69 := by kernel_rfl
theorem ok70 : compFunc Tryz.prog Tryz.f70 = some c70 := by kernel_rfl
theorem ok71 : compFunc Tryz.prog Tryz.f71 = some c71 := by kernel_rfl
theorem ok72 : compFunc Tryz.prog Tryz.f72 = some c72 := by kernel_rfl
theorem ok73 : compFunc Tryz.prog Tryz.f73 = some c73 := by kernel_rfl
theorem ok74 : compFunc Tryz.prog Tryz.f74 = some c74 := by kernel_rfl
theorem ok75 : compFunc Tryz.prog Tryz.f75 = some c75 := by kernel_rfl
theorem ok76 : compFunc Tryz.prog Tryz.f76 = some c76 := by kernel_rfl
theorem ok77 : compFunc Tryz.prog Tryz.f77 = some c77 := by kernel_rfl
theorem ok78 : compFunc Tryz.prog Tryz.f78 = some c78 := by kernel_rfl
theorem ok79 : compFunc Tryz.prog Tryz.f79 = some c79 := by kernel_rfl
theorem ok80 : compFunc Tryz.prog Tryz.f80 = some c80 := by kernel_rfl
theorem ok81 : compFunc Tryz.prog Tryz.f81 = some c81 := by kernel_rfl
theorem ok82 : compFunc Tryz.prog Tryz.f82 = some c82 := by kernel_rfl
theorem ok83 : compFunc Tryz.prog Tryz.f83 = some c83 := by kernel_rfl
theorem ok84 : compFunc Tryz.prog Tryz.f84 = some c84 := by kernel_rfl
theorem ok85 : compFunc Tryz.prog Tryz.f85 = some c85 := by kernel_rfl
theorem ok86 : compFunc Tryz.prog Tryz.f86 = some c86 := by kernel_rfl
theorem ok87 : compFunc Tryz.prog Tryz.f87 = some c87 := by kernel_rfl
theorem ok88 : compFunc Tryz.prog Tryz.f88 = some c88 := by kernel_rfl
theorem ok89 : compFunc Tryz.prog Tryz.f89 = some c89 := by kernel_rfl
theorem ok90 : compFunc Tryz.prog Tryz.f90 = some c90 := by kernel_rfl
theorem ok91 : compFunc Tryz.prog Tryz.f91 = some c91 := by kernel_rfl
theorem ok92 : compFunc Tryz.prog Tryz.f92 = some c92 := by kernel_rfl
theorem ok93 : compFunc Tryz.prog Tryz.f93 = some c93 := by kernel_rfl
theorem ok94 : compFunc Tryz.prog Tryz.f94 = some c94 := by kernel_rfl
theorem ok95 : compFunc Tryz.prog Tryz.f95 = some c95 := by kernel_rfl
theorem ok96 : compFunc Tryz.prog Tryz.f96 = some c96 := by kernel_rfl
theorem ok97 : compFunc Tryz.prog Tryz.f97 = some c97 := by kernel_rfl
theorem ok98 : compFunc Tryz.prog Tryz.f98 = some c98 := by kernel_rfl
theorem ok99 : compFunc Tryz.prog Tryz.f99 = some c99 := by kernel_rfl
theorem ok100 : compFunc Tryz.prog Tryz.f100 = some c100 := by kernel_rfl
theorem ok101 : compFunc Tryz.prog Tryz.f101 = some c101 := by kernel_rfl
theorem ok102 : compFunc Tryz.prog Tryz.f102 = some c102 := by kernel_rfl
theorem ok103 : compFunc Tryz.prog Tryz.f103 = some c103 := by kernel_rfl
theorem ok104 : compFunc Tryz.prog Tryz.f104 = some c104 := by kernel_rfl
theorem ok105 : compFunc Tryz.prog Tryz.f105 = some c105 := by kernel_rfl
theorem ok106 : compFunc Tryz.prog Tryz.f106 = some c106 := by kernel_rfl
theorem ok107 : compFunc Tryz.prog Tryz.f107 = some c107 := by kernel_rfl
theorem ok108 : compFunc Tryz.prog Tryz.f108 = some c108 := by kernel_rfl
theorem ok109 : compFunc Tryz.prog Tryz.f109 = some c109 := by kernel_rfl
theorem ok110 : compFunc Tryz.prog Tryz.f110 = some c110 := by kernel_rfl
theorem ok111 : compFunc Tryz.prog Tryz.f111 = some c111 := by kernel_rfl
theorem ok112 : compFunc Tryz.prog Tryz.f112 = some c112 := by kernel_rfl
theorem ok113 : compFunc Tryz.prog Tryz.f113 = some c113 := by kernel_rfl
theorem ok114 : compFunc Tryz.prog Tryz.f114 = some c114 := by kernel_rfl
theorem ok115 : compFunc Tryz.prog Tryz.f115 = some c115 := by kernel_rfl
theorem ok116 : compFunc Tryz.prog Tryz.f116 = some c116 := by kernel_rfl
theorem ok117 : compFunc Tryz.prog Tryz.f117 = some c117 := by kernel_rfl
theorem ok118 : compFunc Tryz.prog Tryz.f118 = some c118 := by kernel_rfl
theorem ok119 : compFunc Tryz.prog Tryz.f119 = some c119 := by kernel_rfl
theorem ok120 : compFunc Tryz.prog Tryz.f120 = some c120 := by kernel_rfl
theorem ok121 : compFunc Tryz.prog Tryz.f121 = some c121 := by kernel_rfl
theorem ok122 : compFunc Tryz.prog Tryz.f122 = some c122 := by kernel_rfl
theorem ok123 : compFunc Tryz.prog Tryz.f123 = some c123 := by kernel_rfl
theorem ok124 : compFunc Tryz.prog Tryz.f124 = some c124 := by kernel_rfl
theorem ok125 : compFunc Tryz.prog Tryz.f125 = some c125 := by kernel_rfl
theorem ok126 : compFunc Tryz.prog Tryz.f126 = some c126 := by kernel_rfl
theorem ok127 : compFunc Tryz.prog Tryz.f127 = some c127 := by kernel_rfl
theorem ok128 : compFunc Tryz.prog Tryz.f128 = some c128 := by kernel_rfl
theorem ok130 : compFunc Tryz.prog Tryz.f130 = some c130 := by kernel_rfl
theorem ok131 : compFunc Tryz.prog Tryz.f131 = some c131 := by kernel_rfl
theorem ok132 : compFunc Tryz.prog Tryz.f132 = some c132 := by kernel_rfl
theorem ok133 : compFunc Tryz.prog Tryz.f133 = some c133 := by kernel_rfl
theorem ok134 : compFunc Tryz.prog Tryz.f134 = some c134 := by kernel_rfl
theorem mixed : Tryz.prog.follows .mixedOrders = true := by kernel_rfl
noncomputable def flat (g : Nat → Option XDef) : List (Option XDef) := [g 0, g 1, g 2, some (.body c3), some (.body c4), some (.body c5), some (.body c6), some (.body c7), some (.body c8), some (.body c9), some (.body c10), some (.body c11), some (.body c12), some (.body c13), some (.body c14), some (.body c15), some (.body c16), some (.body c17), some (.body c18), some (.body c19), some (.body c20), some (.body c21), some (.body c22), some (.body c23), some (.body c24), some (.body c25), some (.body c26), some (.body c27), some (.body c28), some (.body c29), some (.body c30), some (.body c31), some (.body c32), some (.body c33), some (.body c34), some (.body c35), some (.body c36), some (.body c37), some (.body c38), some (.body c39), some (.body c40), some (.body c41), some (.body c42), some (.body c43), some (.body c44), some (.body c45), some (.body c46), some (.body c47), some (.body c48), some (.body c49), some (.body c50), some (.body c51), some (.body c52), some (.body c53), some (.body c54), some (.body c55), some (.body c56), some (.body c57), some (.body c58), some (.body c59), some (.body c60), some (.body c61), some (.body c62), some (.body c63), some (.body c64), some (.body c65), some (.body c66), some (.body c67), some (.body c68), some (.body c69), some (.body c70), some (.body c71), some (.body c72), some (.body c73), some (.body c74), some (.body c75), some (.body c76), some (.body c77), some (.body c78), some (.body c79), some (.body c80), some (.body c81), some (.body c82), some (.body c83), some (.body c84), some (.body c85), some (.body c86), some (.body c87), some (.body c88), some (.body c89), some (.body c90), some (.body c91), some (.body c92), some (.body c93), some (.body c94), some (.body c95), some (.body c96), some (.body c97), some (.body c98), some (.body c99), some (.body c100), some (.body c101), some (.body c102), some (.body c103), some (.body c104), some (.body c105), some (.body c106), some (.body c107), some (.body c108), some (.body c109), some (.body c110), some (.body c111), some (.body c112), some (.body c113), some (.body c114), some (.body c115), some (.body c116), some (.body c117), some (.body c118), some (.body c119), g 120, some (.body c121), some (.body c122), some (.body c123), some (.body c124), some (.body c125), some (.body c126), some (.body c127), some (.body c128), g 129, some (.body c130), some (.body c131), some (.body c132), some (.body c133), some (.body c134)]
noncomputable def XW (g : Nat → Option XDef) (f : Nat) : Option XDef := match nth (flat g) f with | some d => d | none => none
def EntryOk (n : Nat) (d : Option XDef) : Prop := ∀ x, d = some x → match x with | .body fn => ∃ f, Tryz.prog.funcs[n]? = some f ∧ compFunc Tryz.prog f = some fn | .known k => KnownOk Tryz.prog n k
theorem body_ok {n : Nat} {f : Func} {c : XFunc} (h1 : Tryz.prog.funcs[n]? = some f) (h2 : compFunc Tryz.prog f = some c) : EntryOk n (some (.body c)) := by
  intro x hx
  simp only [Option.some.injEq] at hx
  subst hx
  exact ⟨f, h1, h2⟩
def AllOk : Nat → List (Option XDef) → Prop
  | _, [] => True
  | n, d :: r => EntryOk n d ∧ AllOk (n + 1) r
theorem allOk_at : ∀ (l : List (Option XDef)) (n i : Nat) (d : Option XDef), AllOk n l → l[i]? = some d → EntryOk (n + i) d := by
  intro l
  induction l with
  | nil => intro n i d _ h; simp at h
  | cons a r ih =>
    intro n i d h hd
    cases i with
    | zero => simp only [List.getElem?_cons_zero, Option.some.injEq] at hd; subst hd; exact h.1
    | succ i =>
      have := ih (n + 1) i d h.2 (by simpa using hd)
      rwa [show n + 1 + i = n + (i + 1) by omega] at this
theorem flat_ok {g : Nat → Option XDef} (hg : ∀ n, EntryOk n (g n)) : AllOk 0 (flat g) :=
  ⟨hg 0, hg 1, hg 2, body_ok Tryz.func3 ok3, body_ok Tryz.func4 ok4, body_ok Tryz.func5 ok5, body_ok Tryz.func6 ok6, body_ok Tryz.func7 ok7, body_ok Tryz.func8 ok8, body_ok Tryz.func9 ok9, body_ok Tryz.func10 ok10, body_ok Tryz.func11 ok11, body_ok Tryz.func12 ok12, body_ok Tryz.func13 ok13, body_ok Tryz.func14 ok14, body_ok Tryz.func15 ok15, body_ok Tryz.func16 ok16, body_ok Tryz.func17 ok17, body_ok Tryz.func18 ok18, body_ok Tryz.func19 ok19, body_ok Tryz.func20 ok20, body_ok Tryz.func21 ok21, body_ok Tryz.func22 ok22, body_ok Tryz.func23 ok23, body_ok Tryz.func24 ok24, body_ok Tryz.func25 ok25, body_ok Tryz.func26 ok26, body_ok Tryz.func27 ok27, body_ok Tryz.func28 ok28, body_ok Tryz.func29 ok29, body_ok Tryz.func30 ok30, body_ok Tryz.func31 ok31, body_ok Tryz.func32 ok32, body_ok Tryz.func33 ok33, body_ok Tryz.func34 ok34, body_ok Tryz.func35 ok35, body_ok Tryz.func36 ok36, body_ok Tryz.func37 ok37, body_ok Tryz.func38 ok38, body_ok Tryz.func39 ok39, body_ok Tryz.func40 ok40, body_ok Tryz.func41 ok41, body_ok Tryz.func42 ok42, body_ok Tryz.func43 ok43, body_ok Tryz.func44 ok44, body_ok Tryz.func45 ok45, body_ok Tryz.func46 ok46, body_ok Tryz.func47 ok47, body_ok Tryz.func48 ok48, body_ok Tryz.func49 ok49, body_ok Tryz.func50 ok50, body_ok Tryz.func51 ok51, body_ok Tryz.func52 ok52, body_ok Tryz.func53 ok53, body_ok Tryz.func54 ok54, body_ok Tryz.func55 ok55, body_ok Tryz.func56 ok56, body_ok Tryz.func57 ok57, body_ok Tryz.func58 ok58, body_ok Tryz.func59 ok59, body_ok Tryz.func60 ok60, body_ok Tryz.func61 ok61, body_ok Tryz.func62 ok62, body_ok Tryz.func63 ok63, body_ok Tryz.func64 ok64, body_ok Tryz.func65 ok65, body_ok Tryz.func66 ok66, body_ok Tryz.func67 ok67, body_ok Tryz.func68 ok68, body_ok Tryz.func69 ok69, body_ok Tryz.func70 ok70, body_ok Tryz.func71 ok71, body_ok Tryz.func72 ok72, body_ok Tryz.func73 ok73, body_ok Tryz.func74 ok74, body_ok Tryz.func75 ok75, body_ok Tryz.func76 ok76, body_ok Tryz.func77 ok77, body_ok Tryz.func78 ok78, body_ok Tryz.func79 ok79, body_ok Tryz.func80 ok80, body_ok Tryz.func81 ok81, body_ok Tryz.func82 ok82, body_ok Tryz.func83 ok83, body_ok Tryz.func84 ok84, body_ok Tryz.func85 ok85, body_ok Tryz.func86 ok86, body_ok Tryz.func87 ok87, body_ok Tryz.func88 ok88, body_ok Tryz.func89 ok89, body_ok Tryz.func90 ok90, body_ok Tryz.func91 ok91, body_ok Tryz.func92 ok92, body_ok Tryz.func93 ok93, body_ok Tryz.func94 ok94, body_ok Tryz.func95 ok95, body_ok Tryz.func96 ok96, body_ok Tryz.func97 ok97, body_ok Tryz.func98 ok98, body_ok Tryz.func99 ok99, body_ok Tryz.func100 ok100, body_ok Tryz.func101 ok101, body_ok Tryz.func102 ok102, body_ok Tryz.func103 ok103, body_ok Tryz.func104 ok104, body_ok Tryz.func105 ok105, body_ok Tryz.func106 ok106, body_ok Tryz.func107 ok107, body_ok Tryz.func108 ok108, body_ok Tryz.func109 ok109, body_ok Tryz.func110 ok110, body_ok Tryz.func111 ok111, body_ok Tryz.func112 ok112, body_ok Tryz.func113 ok113, body_ok Tryz.func114 ok114, body_ok Tryz.func115 ok115, body_ok Tryz.func116 ok116, body_ok Tryz.func117 ok117, body_ok Tryz.func118 ok118, body_ok Tryz.func119 ok119, hg 120, body_ok Tryz.func121 ok121, body_ok Tryz.func122 ok122, body_ok Tryz.func123 ok123, body_ok Tryz.func124 ok124, body_ok Tryz.func125 ok125, body_ok Tryz.func126 ok126, body_ok Tryz.func127 ok127, body_ok Tryz.func128 ok128, hg 129, body_ok Tryz.func130 ok130, body_ok Tryz.func131 ok131, body_ok Tryz.func132 ok132, body_ok Tryz.func133 ok133, body_ok Tryz.func134 ok134, trivial⟩
theorem xw_ok {g : Nat → Option XDef} (hg : ∀ n, EntryOk n (g n)) : XOk Tryz.prog (XW g) := by
  intro f d h
  unfold XW at h
  split at h
  · rename_i d2 e
    rw [nth_eq] at e
    have := allOk_at _ _ _ _ (flat_ok hg) e
    rw [Nat.zero_add] at this
    exact this d h
  · cases h
end Go.Proofs.YtlfmiplojpcklaaGreat.Code
