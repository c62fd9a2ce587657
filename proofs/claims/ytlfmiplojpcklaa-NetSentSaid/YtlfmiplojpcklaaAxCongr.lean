/- An operation looks at its operands alone. -/
import Derived.Test.YtlfmiplojpcklaaAxComp
set_option linter.unusedSimpArgs false
set_option linter.unusedVariables false
namespace Go.Ax

def Agree (t u : Tmps) (l : List Arg) : Prop := ∀ x ∈ l, x.eval t = x.eval u
theorem Agree.head {t u : Tmps} {x : Arg} {l : List Arg} (h : Agree t u (x :: l)) : x.eval t = x.eval u := h x (by simp)
theorem Agree.tail {t u : Tmps} {x : Arg} {l : List Arg} (h : Agree t u (x :: l)) : Agree t u l := fun y hy => h y (by simp [hy])
theorem Agree.left {t u : Tmps} {l m : List Arg} (h : Agree t u (l ++ m)) : Agree t u l := fun y hy => h y (by simp [hy])
theorem Agree.right {t u : Tmps} {l m : List Arg} (h : Agree t u (l ++ m)) : Agree t u m := fun y hy => h y (by simp [hy])
theorem Agree.opt {t u : Tmps} {o : Option Arg} (h : Agree t u (optL o)) : o.map (·.eval t) = o.map (·.eval u) := by
  cases o with
  | none => rfl
  | some x => simp only [Option.map_some, h x (by simp [optL])]
theorem Agree.list {t u : Tmps} {l : List Arg} (h : Agree t u l) : mapL (·.eval t) l = mapL (·.eval u) l := by
  rw [mapL_eq, mapL_eq]
  exact List.map_congr_left h
theorem Agree.parts {t u : Tmps} {l : List (Nat × Nat × Arg)} (h : Agree t u (l.map (·.2.2))) : mapL (fun p : Nat × Nat × Arg => (p.1, p.2.1, p.2.2.eval t)) l = mapL (fun p : Nat × Nat × Arg => (p.1, p.2.1, p.2.2.eval u)) l := by
  rw [mapL_eq, mapL_eq]
  refine List.map_congr_left fun p hp => ?_
  rw [h p.2.2 (List.mem_map.2 ⟨p, hp, rfl⟩)]

theorem runPure_congr {t u : Tmps} (p : XPure) (h : Agree t u (pureArgs p)) : runPure t p = runPure u p := by
  cases p
  case move x => simp only [runPure, p_move, h.head]
  case pick c a b => simp only [runPure, p_pick, h.head, h.tail.head, h.tail.tail.head]
  case nilCheck x => simp only [runPure, p_nilCheck, h.head]
  case bin op x y => simp only [runPure, p_bin, h.head, h.tail.head]
  case eqCells ks ne x y => simp only [runPure, p_eqCells, h.head, h.tail.head]
  case eqNil kd ne x y => simp only [runPure, p_eqNil, h.head, h.tail.head]
  case un op x => simp only [runPure, p_un, h.head]
  case conv k x => simp only [runPure, p_conv, h.head]
  case str x => simp only [runPure, p_str, h.head]
  case field off n x => simp only [runPure, p_field, h.head]
  case extract i x => simp only [runPure, p_extract, h.head]
  case fieldAddr off x => simp only [runPure, p_fieldAddr, h.head]
  case indexAddr esz x i => simp only [runPure, p_indexAddr, h.head, h.tail.head]
  case indexAddrArr len esz x i => simp only [runPure, p_indexAddrArr, h.head, h.tail.head]
  case slice esz x lo hi mx => simp only [runPure, p_slice, h.head, h.tail.left.opt, h.tail.right.left.opt, h.tail.right.right.opt]
  case sliceStr x lo hi => simp only [runPure, p_sliceStr, h.head, h.tail.left.opt, h.tail.right.opt]
  case mkIface ty x => simp only [runPure, p_mkIface, h.head]
  case mkFunc fn a b => simp only [runPure, p_mkFunc, h.left.list, h.right.list]
  case build zero ps => simp only [runPure, p_build, h.parts]
  case indexStr x i => simp only [runPure, p_indexStr, h.head, h.tail.head]
  case indexArr len esz n x i => simp only [runPure, p_indexArr, h.head, h.tail.head]
  case len x => simp only [runPure, p_len, h.head]
  case lenStr x => simp only [runPure, p_lenStr, h.head]
  case lenArr n => rfl
  case cap x => simp only [runPure, p_cap, h.head]
  case maxs xs => simp only [runPure, p_maxs, (show Agree t u xs from h).list]
  case mins xs => simp only [runPure, p_mins, (show Agree t u xs from h).list]
theorem runRead_congr {t u : Tmps} {hp : Heap} (r : XRead) (h : Agree t u (readArgs r)) : runRead t hp r = runRead u hp r := by
  cases r
  case load n a => simp only [runRead, r_load, h.head]
  case lookup s z ok m k => simp only [runRead, r_lookup, h.head, h.tail.head]
  case lenMap m => simp only [runRead, r_lenMap, h.head]
  case bytes x => simp only [runRead, r_bytes, h.head]
theorem runMake_congr {t u : Tmps} {b : Nat} (m : XMake) (h : Agree t u (makeArgs m)) : runMake t b m = runMake u b m := by
  cases m
  case alloc z => rfl
  case box x => simp only [runMake, m_box, h.head]
  case buildSlice len esz z ps => simp only [runMake, m_buildSlice, h.parts]
  case makeMap => rfl
  case makeSlice esz z l c => simp only [runMake, m_makeSlice, h.head, h.tail.head]
  case iter x => simp only [runMake, m_iter, h.head]
theorem runAct_congr {call : Nat → List AVal → Heap → Option (AVal × Heap)} {t u : Tmps} {hp : Heap} (a : XAct) (h : Agree t u (actArgs a)) : runAct call t hp a = runAct call u hp a := by
  cases a
  case store n a v => simp only [runAct, a_store, h.head, h.tail.head]
  case append esz bytes s x => simp only [runAct, a_append, h.head, h.tail.head]
  case appendZ esz bytes z s x => simp only [runAct, a_appendZ, h.head, h.tail.head]
  case copy esz d s => simp only [runAct, a_copy, h.head, h.tail.head]
  case clear z x => simp only [runAct, a_clear, h.head]
  case mapUpdate s m k v => simp only [runAct, a_mapUpdate, h.head, h.tail.head, h.tail.tail.head]
  case delete s m k => simp only [runAct, a_delete, h.head, h.tail.head]
  case next x => simp only [runAct, a_next, h.head]
  case strBytes x => simp only [runAct, a_strBytes, h.head]
  case mark x => simp only [runAct, a_mark, h.head]
  case call f l => simp only [runAct, a_call, h.head, h.tail.list]

theorem samePath_eq : ∀ (p q : Path), samePath p q = true ↔ p = q := by
  intro p
  induction p with
  | here => intro q; cases q <;> simp [samePath]
  | go d p ih => intro q; cases q <;> simp [samePath, ih]
theorem agree_of_looks {t u : Tmps} {o : XOper} (h : ∀ q, looks q o = true → getP q t = getP q u) : Agree t u (opArgs o.op) ∧ wanted t o.guard = wanted u o.guard := by
  refine ⟨fun x hx => ?_, ?_⟩
  · cases x with
    | val v => rfl
    | tmp p =>
      refine h p ?_
      unfold looks
      rw [Bool.or_eq_true]
      exact .inl (List.any_eq_true.2 ⟨_, hx, (samePath_eq p p).2 rfl⟩)
  · cases hg : o.guard with
    | none => rfl
    | some g =>
      obtain ⟨p, w⟩ := g
      have := h p (by unfold looks; rw [hg]; simp [(samePath_eq p p).2 rfl])
      simp only [wanted, getT, this]
theorem hasN_eq (i : Nat) : ∀ l, hasN i l = true ↔ i ∈ l := by
  intro l
  induction l with
  | nil => simp [hasN]
  | cons a r ih =>
    simp only [hasN]
    cases h : Nat.beq a i with
    | true => have := Nat.eq_of_beq_eq_true h; simp [this]
    | false =>
      have : a ≠ i := fun e => by rw [e, Nat.beq_refl] at h; cases h
      simp only [List.mem_cons, ih]
      constructor
      · exact .inr
      · rintro (h | h)
        · exact absurd h.symm this
        · exact h
end Go.Ax
