/- One operation; operations in the order of the text. -/
import Derived.Test.YtlfmiplojpcklaaAxAct5
import Derived.Test.YtlfmiplojpcklaaAxCongr
set_option linter.unusedSimpArgs false
set_option linter.unusedVariables false
namespace Go.Ax
open Go (run_underlying)

/-- What the abstract calls answer, the true ones answer. -/
def CallOk (P : Program) (call : Nat → List AVal → Heap → Option (AVal × Heap)) : Prop :=
  ∀ g args h v h', call g args h = some (v, h') → ∀ φ (args' : Array Value) w, VRels φ args args'.toList → Rel φ h w → ∀ (o : Oper) (a : Act) (K : Act → World → Prop) (Q : Exit → Act → World → Prop),
    (∀ v' φ' w', VRel φ' v v' → Rel φ' h' w' → Fr φ h w φ' h' w' → K (a.put o.dst v') w') → o.upon P a K Q ((callFunc g args').run P w)
section
variable {P : Program} {φ : Emb} {t : Tmps} {a : Act} {h h' : Heap} {w : World} {call : Nat → List AVal → Heap → Option (AVal × Heap)}

theorem call_ok (hcall : CallOk P call) (ht : TRel φ t a.tmps) (hR : Rel φ h w) {f : Operand} {args : Array Operand} {ats : Array TypeId} {f' : Arg} {l : List Arg} {v : AVal} (hf : compArg f = some f') (hl : compArgs args = some l) (hr : a_call call t h f' l = some (v, h')) :
    OpOk P φ a h w (.call { callee := .value f, args := args, argTypes := ats }) v h' := by
  have rf := compArg_rel ht hf
  have rl := compArgs_rel ht hl
  unfold a_call at hr
  split at hr
  · rename_i g first captured e1
    rw [e1] at rf
    obtain ⟨first', captured', hX, r1, r2⟩ := rf.func_inv
    intro K Q dst ty pos after gd hK
    unfold Oper.wp
    have e : execOp a.eval { dst, op := .call { callee := .value f, args := args, argTypes := ats }, type := ty, pos, after, guard := gd } = callFunc g (first' ++ args.map a.eval ++ captured') := by
      simp only [execOp, resolve, hX, Deferred.ofValue]
      rfl
    rw [e]
    refine hcall g _ h v h' hr φ _ w ?_ hR { dst, op := .call { callee := .value f, args := args, argTypes := ats }, type := ty, pos, after, guard := gd } a K Q hK
    rw [appL_eq, appL_eq, mapL_eq, Array.toList_append, Array.toList_append, List.append_assoc]
    exact r1.append (rl.append r2)
  · cases hr

theorem act_all (hcall : CallOk P call) (ht : TRel φ t a.tmps) (hR : Rel φ h w) {op : Op} {x : XAct} {v : AVal} (hc : compOp P op = some (.act x)) (hr : runAct call t h x = some (v, h')) : OpOk P φ a h w op v h' := by
  by_cases hn : ∃ f l, x = .call f l
  · obtain ⟨f, l, rfl⟩ := hn
    cases op
    case call c =>
      obtain ⟨callee, args, ats⟩ := c
      simp only [compOp] at hc
      cases callee
      case builtin b =>
        simp only [compBuiltin] at hc
        split at hc
        all_goals (first | (simp at hc; done) | (split at hc <;> first | (simp at hc; done) | (split at hc <;> first | (simp at hc; done) | (split at hc <;> simp at hc))))
      case value f =>
        simp only at hc
        split at hc
        · rename_i h1 h2
          simp only [Option.some.injEq, XOp.act.injEq, XAct.call.injEq] at hc
          obtain ⟨rfl, rfl⟩ := hc
          exact call_ok hcall ht hR h1 h2 hr
        · cases hc
      case invoke => simp at hc
    case alloc e =>
      simp only [compOp] at hc
      obtain ⟨z, hz, he⟩ := Option.bind_eq_some_iff.1 hc
      split at he <;> simp at he
    case makeMap ty rs => cases rs <;> simp [compOp] at hc
    case next x s => cases s <;> simp [compOp] at hc
    all_goals (first | (simp [compOp] at hc; done) | (simp only [compOp] at hc; split at hc <;> first | (simp at hc; done) | (split at hc <;> first | (simp at hc; done) | (split at hc <;> simp at hc))))
  · exact act_sound ht hR hc (fun f l e => hn ⟨f, l, e⟩) hr

/-- An operation of whatever kind. -/
theorem doOp_sound (hcall : CallOk P call) {s s' : St} (ht : TRel φ s.t a.tmps) (hR : Rel φ s.h w) {op : Op} {x : XOp} {d : Option Path} (hc : compOp P op = some x) (hr : doOp call d s x = some s') : ∃ v h', s' = ⟨putT s.t d v, h'⟩ ∧ OpOk P φ a s.h w op v h' := by
  cases x with
  | pure p =>
    simp only [doOp] at hr
    cases hv : runPure s.t p with
    | none => rw [hv] at hr; cases hr
    | some v =>
      rw [hv] at hr
      simp only [putV, Option.some.injEq] at hr
      exact ⟨v, s.h, hr.symm, OpOk.of_pure (pure_sound ht hc hv) hR⟩
  | read r =>
    simp only [doOp] at hr
    cases hv : runRead s.t s.h r with
    | none => rw [hv] at hr; cases hr
    | some v =>
      rw [hv] at hr
      simp only [putV, Option.some.injEq] at hr
      exact ⟨v, s.h, hr.symm, read_sound ht hR hc hv⟩
  | make m =>
    simp only [doOp] at hr
    cases hv : runMake s.t s.h.n m with
    | none => rw [hv] at hr; cases hr
    | some vb =>
      obtain ⟨v, b⟩ := vb
      rw [hv] at hr
      simp only [putB, Option.some.injEq] at hr
      exact ⟨v, _, hr.symm, (make_sound ht hc hv).opOk hR⟩
  | act y =>
    simp only [doOp] at hr
    cases hv : runAct call s.t s.h y with
    | none => rw [hv] at hr; cases hr
    | some vh =>
      obtain ⟨v, h2⟩ := vh
      rw [hv] at hr
      simp only [putH, Option.some.injEq] at hr
      exact ⟨v, h2, hr.symm, act_all hcall ht hR hc hv⟩

theorem compOper_some {ops : Array Oper} {o : Oper} {x : XOper} (h : compOper P ops o = some x) : compOp P o.op = some x.op ∧ x.dst = o.dst.map toP ∧
    ((o.guard = none ∧ x.guard = none) ∨ ∃ j wt d, o.guard = some (j, wt) ∧ (ops[j]?).bind (·.dst) = some d ∧ x.guard = some (toP d, wt)) := by
  unfold compOper at h
  split at h
  · rename_i y h1 h2
    simp only [Option.some.injEq] at h; subst h
    exact ⟨h1, rfl, .inl ⟨h2, rfl⟩⟩
  · rename_i y j wt h1 h2
    split at h
    · rename_i d hd
      simp only [Option.some.injEq] at h; subst h
      exact ⟨h1, rfl, .inr ⟨j, wt, d, h2, hd, rfl⟩⟩
    · cases h
  · cases h

theorem wanted_rel {ops : Array Oper} {o : Oper} {x : XOper} {b : Bool} (h : compOper P ops o = some x) (ht : TRel φ t a.tmps) (hw : wanted t x.guard = some b) : Region.wanted o (yielded ops a.tmps) = b := by
  obtain ⟨_, _, hg⟩ := compOper_some h
  rcases hg with ⟨h1, h2⟩ | ⟨j, wt, d, h1, h2, h3⟩
  · rw [h2] at hw
    simp only [wanted, Option.some.injEq] at hw; subst hw
    simp [Region.wanted, h1]
  · rw [h3] at hw
    have hr := ht.rel d
    have hget : a.tmps.getD d undef = (a.tmps[d]?).getD undef := by simp [Array.getD_eq_getD_getElem?]
    rw [hget] at hr
    simp only [wanted, getT] at hw
    simp only [Region.wanted, h1, yielded, h2, Option.bind_some]
    split at hw
    · rename_i b' e
      rw [e] at hr
      simp only [Option.some.injEq] at hw; subst hw
      have := hr.bool_inv
      cases hq : a.tmps[d]? with
      | none => rw [hq] at this; cases this
      | some v =>
        rw [hq] at this
        simp only [Option.getD_some] at this
        subst this
        cases b' <;> cases wt <;> rfl
    · cases hw
    · rename_i e
      rw [e] at hr
      simp only [Option.some.injEq] at hw; subst hw
      obtain ⟨l', hl, _⟩ := hr.tup_inv
      cases hq : a.tmps[d]? with
      | none => rfl
      | some v => rw [hq] at hl; simp only [Option.getD_some] at hl; subst hl; rfl
    · rename_i e
      rw [e] at hr
      simp only [Option.some.injEq] at hw; subst hw
      have hl := hr.int_inv
      cases hq : a.tmps[d]? with
      | none => rfl
      | some v => rw [hq] at hl; simp only [Option.getD_some] at hl; subst hl; rfl
    · rename_i e
      rw [e] at hr
      simp only [Option.some.injEq] at hw; subst hw
      have hl := hr.str_inv
      cases hq : a.tmps[d]? with
      | none => rfl
      | some v => rw [hq] at hl; simp only [Option.getD_some] at hl; subst hl; rfl
    · cases hw

theorem put_defers (a : Act) (d : Option Tmp) (v : Value) : (a.put d v).defers = a.defers := by cases d <;> rfl

/-- Operations, one behind the other. -/
theorem stepOps_sound (hcall : CallOk P call) {ops : Array Oper} {Q : Exit → Act → World → Prop} : ∀ (L : List Oper) (i : Nat) (l : List XOper) (φ : Emb) (s s' : St) (a : Act) (w : World), ops.toList.drop i = L → L.mapM (compOper P ops) = some l → stepOps call l s = some s' → TRel φ s.t a.tmps → Rel φ s.h w →
    (∀ φ' a' w', TRel φ' s'.t a'.tmps → Rel φ' s'.h w' → Fr φ s.h w φ' s'.h w' → a'.defers = a.defers → Q .normal a' w') → wpOps P ops Q (List.range' i L.length) a w := by
  intro L
  induction L with
  | nil =>
    intro i l φ s s' a w _ hl hr ht hR hQ
    simp at hl; subst hl
    have hr : some s = some s' := hr
    simp only [Option.some.injEq] at hr; subst hr
    exact hQ φ a w ht hR (Fr.refl _ _ _) rfl
  | cons o L ih =>
    intro i l φ s s' a w hd hl hr ht hR hQ
    simp only [List.mapM_cons, Option.bind_eq_bind, Option.bind_eq_some_iff, Option.pure_def, Option.some.injEq] at hl
    obtain ⟨x, hx, l2, hl2, rfl⟩ := hl
    have hoi : ops[i]? = some o := by
      have := congrArg (·[0]?) hd
      simpa using this
    have hd2 : ops.toList.drop (i + 1) = L := by
      have := congrArg (List.drop 1) hd
      simpa [List.drop_drop, Nat.add_comm] using this
    obtain ⟨hop, hdst, _⟩ := compOper_some hx
    have hr : (match stepOper call x s with | some s1 => stepOps call l2 s1 | none => none) = some s' := hr
    rw [List.length_cons, List.range'_succ]
    simp only [wpOps, hoi]
    cases hs1 : stepOper call x s with
    | none => rw [hs1] at hr; cases hr
    | some s1 =>
      rw [hs1] at hr
      simp only at hr
      unfold stepOper at hs1
      split at hs1
      · cases hs1
      · rename_i hw
        simp only [Option.some.injEq] at hs1; subst hs1
        rw [wanted_rel hx ht hw]
        simp only [Bool.false_eq_true, if_false]
        refine ih (i + 1) l2 φ _ s' _ w hd2 hl2 hr (by rw [hdst]; exact ht.put o.dst (VRel.und φ)) hR fun φ' a' w' h1 h2 h3 h4 => hQ φ' a' w' h1 h2 h3 (by rw [h4, put_defers])
      · rename_i hw
        rw [wanted_rel hx ht hw]
        simp only [if_true]
        obtain ⟨v, h2, rfl, hop2⟩ := doOp_sound hcall ht hR hop hs1
        refine .inl (hop2 _ _ _ _ _ _ _ fun v' φ' w' r1 r2 r3 => ?_)
        refine ih (i + 1) l2 φ' _ s' _ w' hd2 hl2 hr ?_ r2 fun φ'' a' w'' g1 g2 g3 g4 => hQ φ'' a' w'' g1 g2 (Fr.trans hR r3 g3) (by rw [g4, put_defers])
        rw [hdst]
        exact (ht.mono r3.le).put o.dst r1
end
end Go.Ax
