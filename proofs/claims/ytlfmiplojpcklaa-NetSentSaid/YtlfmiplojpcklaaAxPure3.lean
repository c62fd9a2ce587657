/- Whatever compiles to an operation that looks at its operands alone gives what the abstract one gives. -/
import Derived.Test.YtlfmiplojpcklaaAxPure2
set_option linter.unusedSimpArgs false
set_option linter.unusedVariables false
namespace Go.Ax
variable {P : Program} {φ : Emb} {t : Tmps} {a : Act}

theorem builtin_pure (ht : TRel φ t a.tmps) {b : Builtin} {ats : Array TypeId} {args : Array Operand} {p : XPure} {v : AVal} (hc : compBuiltin P b ats args = some (.pure p)) (hr : runPure t p = some v) :
    PureOk P φ a (.call { callee := .builtin b, args := args, argTypes := ats }) v := by
  unfold compBuiltin at hc
  split at hc
  · rename_i x hargs
    obtain rfl := one_arg hargs
    split at hc
    · rename_i u hu hx
      simp only [Option.some.injEq, XOp.pure.injEq] at hc; subst hc
      exact lenStr_ok ht hu hx hr
    · rename_i u e hu hx
      simp only [Option.some.injEq, XOp.pure.injEq] at hc; subst hc
      exact len_ok ht hu hx hr
    · rename_i u n e hu hx
      simp only [Option.some.injEq, XOp.pure.injEq] at hc; subst hc
      exact lenArr_ok hu hr
    · simp at hc
    · cases hc
  · rename_i x hargs
    obtain rfl := one_arg hargs
    split at hc
    · rename_i u e hu hx
      simp only [Option.some.injEq, XOp.pure.injEq] at hc; subst hc
      exact cap_ok ht hu hx hr
    · cases hc
  · split at hc <;> simp at hc
  · split at hc <;> simp at hc
  · split at hc <;> simp at hc
  · split at hc <;> simp at hc
  · obtain ⟨l, hl, he⟩ := Option.map_eq_some_iff.1 hc
    simp only [XOp.pure.injEq] at he; subst he
    exact maxs_ok ht hl hr
  · obtain ⟨l, hl, he⟩ := Option.map_eq_some_iff.1 hc
    simp only [XOp.pure.injEq] at he; subst he
    exact mins_ok ht hl hr
  · cases hc

theorem pure_sound (ht : TRel φ t a.tmps) {op : Op} {p : XPure} {v : AVal} (hc : compOp P op = some (.pure p)) (hr : runPure t p = some v) : PureOk P φ a op v := by
  cases op with
  | move x =>
    obtain ⟨y, hy, he⟩ := Option.map_eq_some_iff.1 hc
    simp only [XOp.pure.injEq] at he; subst he
    exact (move_sound ht hy hr).1
  | assign x =>
    obtain ⟨y, hy, he⟩ := Option.map_eq_some_iff.1 hc
    simp only [XOp.pure.injEq] at he; subst he
    exact (move_sound ht hy hr).2
  | pick c x y =>
    simp only [compOp] at hc
    split at hc
    · rename_i hc' hx hy
      simp only [Option.some.injEq, XOp.pure.injEq] at hc; subst hc
      exact pick_sound ht hc' hx hy hr
    · cases hc
  | alloc e =>
    simp only [compOp] at hc
    obtain ⟨z, hz, he⟩ := Option.bind_eq_some_iff.1 hc
    split at he <;> simp at he
  | box e x =>
    obtain ⟨y, hy, he⟩ := Option.map_eq_some_iff.1 hc
    simp at he
  | build ty ps =>
    simp only [compOp] at hc
    split at hc
    · rename_i fs z hu hz
      split at hc
      · rename_i hs
        obtain ⟨l, hl, he⟩ := Option.map_eq_some_iff.1 hc
        simp only [XOp.pure.injEq] at he; subst he
        exact build_struct_ok ht hu hz hs hl hr
      · cases hc
    · rename_i k e z hu hz
      split at hc
      · rename_i n hn
        obtain ⟨l, hl, he⟩ := Option.map_eq_some_iff.1 hc
        simp only [XOp.pure.injEq] at he; subst he
        exact build_array_ok ht hu hz hn hl hr
      · cases hc
    · cases hc
  | buildSlice ty len ps =>
    simp only [compOp] at hc
    split at hc
    · split at hc
      · split at hc
        · obtain ⟨l, hl, he⟩ := Option.map_eq_some_iff.1 hc
          simp at he
        · cases hc
      · cases hc
    · cases hc
  | insert => simp only [compOp] at hc; split at hc <;> first | (simp at hc; done) | cases hc
  | load ty x => simp only [compOp] at hc; split at hc <;> simp at hc
  | store ty x y => simp only [compOp] at hc; split at hc <;> simp at hc
  | nilCheck x =>
    obtain ⟨y, hy, he⟩ := Option.map_eq_some_iff.1 hc
    simp only [XOp.pure.injEq] at he; subst he
    exact nilCheck_sound ht hy hr
  | binOp op ty x y ty2 =>
    simp only [compOp] at hc
    split at hc
    · rename_i hx hy
      split at hc
      · split at hc <;> first
          | (simp only [Option.some.injEq, XOp.pure.injEq] at hc; subst hc; first
              | exact bin_sound ht hx hy hr
              | (rename_i hu; have hk := eqNil_ok (ne := false) (ty2 := ty2) ht hx hy hu (by simp only [kindOk]) hr; exact hk))
          | (rename_i hu; obtain ⟨ks, hks, he⟩ := Option.map_eq_some_iff.1 hc; simp only [XOp.pure.injEq] at he; subst he; exact eqCells_ok (ne := false) ht hx hy hks hr)
          | cases hc
      · split at hc <;> first
          | (simp only [Option.some.injEq, XOp.pure.injEq] at hc; subst hc; first
              | exact bin_sound ht hx hy hr
              | (rename_i hu; have hk := eqNil_ok (ne := true) (ty2 := ty2) ht hx hy hu (by simp only [kindOk]) hr; exact hk))
          | (rename_i hu; obtain ⟨ks, hks, he⟩ := Option.map_eq_some_iff.1 hc; simp only [XOp.pure.injEq] at he; subst he; exact eqCells_ok (ne := true) ht hx hy hks hr)
          | cases hc
      · simp only [Option.some.injEq, XOp.pure.injEq] at hc; subst hc
        exact bin_sound ht hx hy hr
    · cases hc
  | unOp op ty x =>
    obtain ⟨y, hy, he⟩ := Option.map_eq_some_iff.1 hc
    simp only [XOp.pure.injEq] at he; subst he
    exact un_ok ht hy hr
  | convert src dst x =>
    simp only [compOp] at hc
    split at hc
    · rename_i hs hd hx
      simp only [Option.some.injEq, XOp.pure.injEq] at hc; subst hc
      exact conv_ok ht hx hs hd hr
    · rename_i hs hd hx
      simp only [Option.some.injEq, XOp.pure.injEq] at hc; subst hc
      exact str_ok ht hx hs hd hr
    · split at hc <;> simp at hc
    · split at hc <;> simp at hc
    · split at hc <;> simp at hc
    · cases hc
  | sliceToArrayPointer => simp [compOp] at hc
  | makeInterface ty x =>
    simp only [compOp] at hc
    split at hc
    · cases hc
    · rename_i d y hd hu hx
      simp only [Option.some.injEq, XOp.pure.injEq] at hc; subst hc
      exact mkIface_ok ht hx hu (fun ms e => hd ms e) hr
    · cases hc
  | makeFunc fn f c =>
    simp only [compOp] at hc
    split at hc
    · rename_i hf hc'
      simp only [Option.some.injEq, XOp.pure.injEq] at hc; subst hc
      exact mkFunc_ok ht hf hc' hr
    · cases hc
  | makeMap ty r => cases r <;> simp [compOp] at hc
  | makeChan => simp [compOp] at hc
  | makeSlice ty l c =>
    simp only [compOp] at hc
    split at hc
    · split at hc
      · split at hc <;> simp at hc
      · cases hc
    · cases hc
  | slice ty x lo hi mx =>
    simp only [compOp] at hc
    split at hc
    · rename_i hx hl hh hm
      split at hc
      · rename_i hu
        split at hc
        · cases hc
        · rename_i hmx
          simp only [Option.some.injEq, XOp.pure.injEq] at hc; subst hc
          have : mx = none := by
            have := compOpt_some hm
            cases mx with
            | none => rfl
            | some z => simp at this; rw [this] at hmx; simp at hmx
          subst this
          exact sliceStr_ok ht hx hl hh hu hr
      · rename_i hu
        obtain ⟨n, hn, he⟩ := Option.map_eq_some_iff.1 hc
        simp only [XOp.pure.injEq] at he; subst he
        exact slice_ok ht hx hl hh hm hu hn hr
      · cases hc
    · cases hc
  | fieldAddr ty x f =>
    simp only [compOp] at hc
    split at hc
    · rename_i hu hx
      split at hc
      · rename_i fd hf
        split at hc
        · rename_i n hn
          split at hc
          · cases hc
          · rename_i h0
            simp only [Option.some.injEq, XOp.pure.injEq] at hc; subst hc
            exact fieldAddr_ok ht hx hu hf hn h0 hr
        · cases hc
      · cases hc
    · cases hc
  | field ty x f =>
    simp only [compOp] at hc
    split at hc
    · rename_i hu hx
      split at hc
      · rename_i fd hf
        obtain ⟨n, hn, he⟩ := Option.map_eq_some_iff.1 hc
        simp only [XOp.pure.injEq] at he; subst he
        exact field_ok ht hx hu hf hn hr
      · cases hc
    · cases hc
  | indexAddr ty x i =>
    simp only [compOp] at hc
    split at hc
    · rename_i hu hx hi
      obtain ⟨n, hn, he⟩ := Option.map_eq_some_iff.1 hc
      simp only [XOp.pure.injEq] at he; subst he
      exact indexAddr_ok ht hx hi hu hn hr
    · rename_i hu hx hi
      obtain ⟨n, hn, he⟩ := Option.map_eq_some_iff.1 hc
      simp only [XOp.pure.injEq] at he; subst he
      exact indexAddrArr_ok ht hx hi hu hn hr
    · cases hc
  | index ty x i =>
    simp only [compOp] at hc
    split at hc
    · rename_i hu hx hi
      simp only [Option.some.injEq, XOp.pure.injEq] at hc; subst hc
      exact indexStr_ok ht hx hi hu hr
    · rename_i hu hx hi
      split at hc
      · rename_i hn hq
        simp only [Option.some.injEq, XOp.pure.injEq] at hc; subst hc
        exact indexArr_ok ht hx hi hu hn hq hr
      · cases hc
    · cases hc
  | lookup ty x i ok =>
    simp only [compOp] at hc
    split at hc
    · split at hc
      · obtain ⟨z, hz, he⟩ := Option.map_eq_some_iff.1 hc
        simp at he
      · cases hc
    · cases hc
  | mapUpdate => simp only [compOp] at hc; split at hc <;> first | (simp at hc; done) | cases hc
  | mapEntry => simp [compOp] at hc
  | entryStore => simp [compOp] at hc
  | range => simp only [compOp] at hc; split at hc <;> simp at hc
  | next x s => cases s <;> simp [compOp] at hc
  | entry => simp [compOp] at hc
  | typeAssert => simp [compOp] at hc
  | extract x i =>
    obtain ⟨y, hy, he⟩ := Option.map_eq_some_iff.1 hc
    simp only [XOp.pure.injEq] at he; subst he
    exact extract_ok ht hy hr
  | call c =>
    obtain ⟨callee, args, ats⟩ := c
    simp only [compOp] at hc
    cases callee with
    | value f => simp only at hc; split at hc <;> simp at hc
    | invoke => simp at hc
    | builtin b => exact builtin_pure ht hc hr
  | ready => simp [compOp] at hc
  | waits => simp [compOp] at hc
  | go => simp [compOp] at hc
  | defer => simp [compOp] at hc
  | panic => simp [compOp] at hc
  | send => simp [compOp] at hc
  | recv => simp [compOp] at hc
  | select => simp [compOp] at hc
end Go.Ax
