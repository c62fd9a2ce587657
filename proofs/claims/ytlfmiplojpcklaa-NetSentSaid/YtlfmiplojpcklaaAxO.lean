/- Operations by their values. -/
import Derived.Test.YtlfmiplojpcklaaAxU
import Derived.Test.YtlfmiplojpcklaaAxMain
set_option linter.unusedSimpArgs false
set_option linter.unusedVariables false
namespace Go.Ax
section
variable (h : Heap)
noncomputable def oPick (c a b : AVal) : Option AVal := p_pick .leaf (.val c) (.val a) (.val b)
noncomputable def oNil (x : AVal) : Option AVal := p_nilCheck .leaf (.val x)
noncomputable def oEqC (ks : List Nat) (ne : Bool) (x y : AVal) : Option AVal := p_eqCells .leaf ks ne (.val x) (.val y)
noncomputable def oEqN (kd : Nat) (ne : Bool) (x y : AVal) : Option AVal := p_eqNil .leaf kd ne (.val x) (.val y)
noncomputable def oConv (k : IntKind) (x : AVal) : Option AVal := p_conv .leaf k (.val x)
noncomputable def oStr (x : AVal) : Option AVal := p_str .leaf (.val x)
noncomputable def oField (off : Nat) (n : Option Nat) (x : AVal) : Option AVal := p_field .leaf off n (.val x)
noncomputable def oExt (i : Nat) (x : AVal) : Option AVal := p_extract .leaf i (.val x)
noncomputable def oFA (off : Nat) (x : AVal) : Option AVal := p_fieldAddr .leaf off (.val x)
noncomputable def oIA (esz : Nat) (x i : AVal) : Option AVal := p_indexAddr .leaf esz (.val x) (.val i)
noncomputable def oIAA (len esz : Nat) (x i : AVal) : Option AVal := p_indexAddrArr .leaf len esz (.val x) (.val i)
noncomputable def vO (x : Option AVal) : Option Arg := match x with | some v => some (.val v) | none => none
noncomputable def oSl (esz : Nat) (x : AVal) (lo hi mx : Option AVal) : Option AVal := p_slice .leaf esz (.val x) (vO lo) (vO hi) (vO mx)
noncomputable def oSlS (x : AVal) (lo hi : Option AVal) : Option AVal := p_sliceStr .leaf (.val x) (vO lo) (vO hi)
noncomputable def vP (ps : List (Nat × Nat × AVal)) : List (Nat × Nat × Arg) := mapL (fun p => (p.1, p.2.1, .val p.2.2)) ps
noncomputable def vL (l : List AVal) : List Arg := mapL .val l
noncomputable def oBuild (z : List AVal) (ps : List (Nat × Nat × AVal)) : Option AVal := p_build .leaf z (vP ps)
noncomputable def oIxS (x i : AVal) : Option AVal := p_indexStr .leaf (.val x) (.val i)
noncomputable def oIxA (len esz : Nat) (n : Option Nat) (x i : AVal) : Option AVal := p_indexArr .leaf len esz n (.val x) (.val i)
noncomputable def oLen (x : AVal) : Option AVal := p_len .leaf (.val x)
noncomputable def oLenS (x : AVal) : Option AVal := p_lenStr .leaf (.val x)
noncomputable def oCap (x : AVal) : Option AVal := p_cap .leaf (.val x)
noncomputable def oMax (l : List AVal) : Option AVal := p_maxs .leaf (vL l)
noncomputable def oMin (l : List AVal) : Option AVal := p_mins .leaf (vL l)
noncomputable def oLoad (n : Option Nat) (a : AVal) : Option AVal := r_load .leaf h n (.val a)
noncomputable def oLook (str : Bool) (z : AVal) (ok : Bool) (m k : AVal) : Option AVal := r_lookup .leaf h str z ok (.val m) (.val k)
noncomputable def oLenM (m : AVal) : Option AVal := r_lenMap .leaf h (.val m)
noncomputable def oBytes (x : AVal) : Option AVal := r_bytes .leaf h (.val x)
noncomputable def oAlloc (z : List AVal) : Option (AVal × Heap) := mk2 h (m_alloc .leaf h.n z)
noncomputable def oBox (x : AVal) : Option (AVal × Heap) := mk2 h (m_box .leaf h.n (.val x))
noncomputable def oBSl (len esz : Nat) (z : List AVal) (ps : List (Nat × Nat × AVal)) : Option (AVal × Heap) := mk2 h (m_buildSlice .leaf h.n len esz z (vP ps))
noncomputable def oMMap : Option (AVal × Heap) := mk2 h (m_makeMap .leaf h.n)
noncomputable def oMSl (esz : Nat) (z : List AVal) (l c : AVal) : Option (AVal × Heap) := mk2 h (m_makeSlice .leaf h.n esz z (.val l) (.val c))
noncomputable def oIter (x : AVal) : Option (AVal × Heap) := mk2 h (m_iter .leaf h.n (.val x))
noncomputable def oStore (n : Nat) (a v : AVal) : Option (AVal × Heap) := a_store .leaf h n (.val a) (.val v)
noncomputable def oMUpd (str : Bool) (m k v : AVal) : Option (AVal × Heap) := a_mapUpdate .leaf h str (.val m) (.val k) (.val v)
noncomputable def oMDel (str : Bool) (m k : AVal) : Option (AVal × Heap) := a_delete .leaf h str (.val m) (.val k)
noncomputable def oNext (x : AVal) : Option (AVal × Heap) := a_next .leaf h (.val x)
noncomputable def oSB (x : AVal) : Option (AVal × Heap) := a_strBytes .leaf h (.val x)
noncomputable def oMark (x : AVal) : Option (AVal × Heap) := a_mark .leaf h (.val x)
end
end Go.Ax
namespace Go.Ax
/-! ### A table of functions -/
noncomputable def lookN (f : Nat) (l : List (Nat × XDef)) : Option XDef := List.rec (motive := fun _ => Option XDef) none (fun x _ ih => match Nat.beq x.1 f with | true => some x.2 | false => ih) l
/-- A contract of one's own, shut: what stands in a context is not unfolded. -/
structure KnownS (P : Program) (n : Nat) (k : List AVal → Heap → Option (AVal × Heap)) : Prop where
  it : KnownOk P n k
inductive EntryOk (P : Program) (n : Nat) : XDef → Prop where
  | body {fn : XFunc} (h : ∃ f, P.funcs[n]? = some f ∧ compFunc P f = some fn) : EntryOk P n (.body fn)
  | known {k : List AVal → Heap → Option (AVal × Heap)} (h : KnownS P n k) : EntryOk P n (.known k)
theorem body_ok {P : Program} {n : Nat} {f : Func} {c : XFunc} (h1 : P.funcs[n]? = some f) (h2 : compFunc P f = some c) : EntryOk P n (.body c) := .body ⟨f, h1, h2⟩
theorem known_ok {P : Program} {n : Nat} {k : List AVal → Heap → Option (AVal × Heap)} (h : KnownS P n k) : EntryOk P n (.known k) := .known h
def AllOk (P : Program) : List (Nat × XDef) → Prop
  | [] => True
  | (n, d) :: r => EntryOk P n d ∧ AllOk P r
theorem AllOk.nil {P : Program} : AllOk P [] := trivial
theorem AllOk.cons {P : Program} {n : Nat} {d : XDef} {r : List (Nat × XDef)} (h : EntryOk P n d) (hr : AllOk P r) : AllOk P ((n, d) :: r) := ⟨h, hr⟩
theorem lookN_ok {P : Program} {l : List (Nat × XDef)} (h : AllOk P l) : XOk P (fun f => lookN f l) := by
  induction l with
  | nil => intro f d hd; cases hd
  | cons x l ih =>
    obtain ⟨n, y⟩ := x
    intro f d hd
    have e1 : lookN f ((n, y) :: l) = (match Nat.beq n f with | true => some y | false => lookN f l) := rfl
    cases hb : Nat.beq n f with
    | true =>
      have := Nat.eq_of_beq_eq_true hb
      subst this
      have hd : some y = some d := by rw [← hd]; simp only; rw [e1, hb]
      simp only [Option.some.injEq] at hd; subst hd
      cases y with
      | body fn => obtain ⟨h⟩ := h.1; exact h
      | known k => obtain ⟨⟩ | ⟨h⟩ := h.1; exact h.it
    | false =>
      have hd : lookN f l = some d := by rw [← hd]; simp only; rw [e1, hb]
      exact ih h.2 f d hd
end Go.Ax
