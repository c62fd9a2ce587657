/- The theorem: what the abstract machine answers, the true one answers. -/
import Derived.Test.YtlfmiplojpcklaaAxSound
set_option linter.unusedSimpArgs false
set_option linter.unusedVariables false
namespace Go.Ax

/-- What a function answers by another's word. -/
def KnownOk (P : Program) (f : Nat) (g : List AVal → Heap → Option (AVal × Heap)) : Prop :=
  ∀ args h v h', g args h = some (v, h') → ∀ φ (args' : Array Value) w, VRels φ args args'.toList → Rel φ h w → ∀ (o : Oper) (a : Act) (K : Act → World → Prop) (Q : Exit → Act → World → Prop),
    (∀ v' φ' w', VRel φ' v v' → Rel φ' h' w' → Fr φ h w φ' h' w' → K (a.put o.dst v') w') → o.upon P a K Q ((callFunc f args').run P w)
def XOk (P : Program) (X : Nat → Option XDef) : Prop :=
  ∀ f d, X f = some d → match d with
    | .body fn => ∃ f', P.funcs[f]? = some f' ∧ compFunc P f' = some fn
    | .known g => KnownOk P f g

def exitIs : XExit → Exit → Prop
  | .normal, .normal => True
  | .exit a, .exit b => a = b
  | .ret, .ret => True
  | _, _ => False
def Post (φ : Emb) (h : Heap) (w : World) (e : XExit) (s' : St) (ds : List Deferred) : Exit → Act → World → Prop := fun ex a' w' =>
  exitIs e ex ∧ a'.defers = ds ∧ ∃ φ', TRel φ' s'.t a'.tmps ∧ Rel φ' s'.h w' ∧ Fr φ h w φ' s'.h w'

section
variable {P : Program} {X : Nat → Option XDef}

/-- Code at this fuel. -/
def CodeOk (P : Program) (X : Nat → Option XDef) (k : Nat) : Prop :=
  ∀ c s e s', run X k (compCode P c) s = some (e, s') → ∀ φ a w, TRel φ s.t a.tmps → Rel φ s.h w → c.wp P (Post φ s.h w e s' a.defers) a w
def LoopOk (P : Program) (X : Nat → Option XDef) (k : Nat) : Prop :=
  ∀ c s e s', run X k (.loop (compCode P c)) s = some (e, s') → ∀ φ a w, TRel φ s.t a.tmps → Rel φ s.h w → Code.rounds P c (Post φ s.h w e s' a.defers) k a w

theorem rounds_mono {P : Program} {c : Code} {Q Q' : Exit → Act → World → Prop} : ∀ {n : Nat} {a : Act} {w : World}, Code.rounds P c Q n a w → (∀ e a w, Q e a w → Q' e a w) → Code.rounds P c Q' n a w := by
  intro n
  induction n with
  | zero => intro a w h _; exact h
  | succ n ih =>
    intro a w h hq
    rw [rounds_succ] at h ⊢
    refine wp_mono h fun e a' w' p => ?_
    cases e with
    | normal => exact ih p hq
    | _ => exact hq _ _ _ p
theorem Post.trans {φ φ1 : Emb} {h : Heap} {w w1 : World} {s1 s' : St} {e : XExit} {ds : List Deferred} {ex : Exit} {a' : Act} {w' : World} (hR : Rel φ h w) (f : Fr φ h w φ1 s1.h w1) (p : Post φ1 s1.h w1 e s' ds ex a' w') : Post φ h w e s' ds ex a' w' := by
  obtain ⟨h1, h2, φ', h3, h4, h5⟩ := p
  exact ⟨h1, h2, φ', h3, h4, Fr.trans hR f h5⟩

theorem enter_rel {φ : Emb} {fn : XFunc} {args : List AVal} {args' : Array Value} (hr : VRels φ args args'.toList) (hle : args.length ≤ fn.ntmps) : TRel φ (fn.enter args) (args' ++ Array.replicate (fn.ntmps - args'.size) undef) := by
  have hl : args.length = args'.size := by rw [hr.length, Array.length_toList]
  have key : ∀ (l : List AVal) (i : Nat) (t : Tmps), (∀ p, hasP p (setAll l i t) = hasP p t) ∧ ∀ j, getP (toP j) (setAll l i t) = if i ≤ j ∧ j < i + l.length ∧ hasP (toP j) t = true then (l[j - i]?).getD und else getP (toP j) t := by
    intro l
    induction l with
    | nil => intro i t; exact ⟨fun p => rfl, fun j => by rw [if_neg (by simp only [List.length_nil]; omega)]; rfl⟩
    | cons x l ih =>
      intro i t
      obtain ⟨h1, h2⟩ := ih (i + 1) (setP (toP i) t x)
      refine ⟨fun p => (h1 p).trans (hasP_setP _ _ _ _), fun j => ?_⟩
      refine (h2 j).trans ?_
      rw [hasP_setP, getP_setP]
      simp only [List.length_cons]
      by_cases hj : j = i
      · subst hj
        rw [if_neg (by omega)]
        by_cases hp : hasP (toP j) t = true
        · rw [if_pos ⟨rfl, hp⟩, if_pos ⟨by omega, by omega, hp⟩]; simp
        · rw [if_neg (fun h => hp h.2), if_neg (fun h => hp h.2.2)]
      · have hne : ¬ (toP i = toP j ∧ hasP (toP i) t = true) := fun h => hj (toP_inj _ _ h.1).symm
        rw [if_neg hne]
        by_cases hc : i + 1 ≤ j ∧ j < i + 1 + l.length ∧ hasP (toP j) t = true
        · rw [if_pos hc, if_pos ⟨by omega, by omega, hc.2.2⟩, show j - i = (j - (i + 1)) + 1 by omega]; rfl
        · rw [if_neg hc, if_neg (fun h => hc ⟨by omega, by omega, h.2.2⟩)]
  obtain ⟨h1, h2⟩ := key args 0 (mkT fn.ntmps fn.ntmps)
  have hhas : ∀ i, hasP (toP i) (mkT fn.ntmps fn.ntmps) = true ↔ i < fn.ntmps := fun i => hasP_mkT fn.ntmps fn.ntmps i (Nat.le_refl _) (i + 1) (by omega)
  refine ⟨fun i => ?_, fun i => ?_⟩
  · show VRel φ (getP (toP i) (setAll args 0 (mkT fn.ntmps fn.ntmps))) _
    rw [h2 i]
    by_cases hi : i < args.length
    · rw [if_pos ⟨by omega, by omega, (hhas i).2 (by omega)⟩, Nat.sub_zero, List.getElem?_eq_getElem hi]
      obtain ⟨v', hv, hrel⟩ := hr.get i args[i] (List.getElem?_eq_getElem hi)
      have : (args' ++ Array.replicate (fn.ntmps - args'.size) undef).getD i undef = v' := by
        rw [Array.getElem?_toList] at hv
        rw [Array.getD_eq_getD_getElem?, Array.getElem?_append_left (by omega), hv]; rfl
      rw [this]; exact hrel
    · rw [if_neg (by omega)]
      have e : getP (toP i) (mkT fn.ntmps fn.ntmps) = und := getP_mkT _ _ _
      rw [e]
      have : (args' ++ Array.replicate (fn.ntmps - args'.size) undef).getD i undef = undef := by
        rw [Array.getD_eq_getD_getElem?, Array.getElem?_append_right (by omega)]
        simp only [Array.getElem?_replicate]
        split <;> rfl
      rw [this]; exact VRel.und φ
  · show hasP (toP i) (setAll args 0 (mkT fn.ntmps fn.ntmps)) = true ↔ _
    rw [h1, hhas]
    simp only [Array.size_append, Array.size_replicate]
    omega

theorem callX_ok (hX : XOk P X) {k : Nat} (hk : CodeOk P X k) : CallOk P (callX X (run X k)) := by
  intro f args h v h' hc φ args' w hr hR o a K Q hK
  unfold callX at hc
  split at hc
  · rename_i fn hf
    obtain ⟨f', hf', hcomp⟩ := hX f _ hf
    unfold compFunc at hcomp
    split at hcomp
    · rename_i c rs hbody hrs
      split at hcomp
      · cases hcomp
      · rename_i hname
        simp only [Option.some.injEq] at hcomp; subst hcomp
        split at hc
        · rename_i hle
          have hle := Nat.le_of_ble_eq_true hle
          rw [lenL_eq] at hle
          have hcall : (callFunc f args').run P w = .ok (.enter f args') w := by
            unfold callFunc
            simp only [Sem.run_bind, run_program, Result.andThen_ok, hf', hname, hbody, Option.isNone_some, Bool.false_eq_true, if_false, Sem.run_pure]
          rw [hcall, Oper.upon_enter]
          have ent : TRel φ (XFunc.enter ⟨f'.ntmps, rs, compCode P c⟩ args) (args' ++ Array.replicate (f'.ntmps - args'.size) undef) := enter_rel (fn := ⟨f'.ntmps, rs, compCode P c⟩) hr hle
          have fin : ∀ (e : XExit) (s' : St), (e = .normal ∨ e = .ret) → run X k (compCode P c) ⟨XFunc.enter ⟨f'.ntmps, rs, compCode P c⟩ args, h⟩ = some (e, s') → (results rs s').map (fun v => (v, s'.h)) = some (v, h') →
              Calls P f args' w fun | .returned v, w'' => K (a.put o.dst v) w'' | .panicked chain, w'' => Q (.panic chain) a w'' | .outgrown, _ => LetsOut Q := by
            intro e s' he hrun hres
            obtain ⟨v2, hv2, hh⟩ := Option.map_eq_some_iff.1 hres
            simp only [Prod.mk.injEq] at hh
            obtain ⟨rfl, rfl⟩ := hh
            have hwp := hk c _ e s' hrun φ { tmps := args' ++ Array.replicate (f'.ntmps - args'.size) undef, defers := [] } w ent hR
            refine calls_of_wp hf' hbody (wp_mono hwp fun ex a' w' p => ?_)
            obtain ⟨h1, h2, φ', h3, h4, h5⟩ := p
            obtain ⟨v', hv', hrel⟩ := results_sound h3 h4 hrs hv2
            rcases he with rfl | rfl <;> cases ex <;> simp only [exitIs] at h1
            · exact ⟨h2, v', hv', hK v' φ' w' hrel h4 h5⟩
            · exact ⟨h2, v', hv', hK v' φ' w' hrel h4 h5⟩
          split at hc
          · rename_i s' hrun; exact fin .normal s' (.inl rfl) hrun hc
          · rename_i s' hrun; exact fin .ret s' (.inr rfl) hrun hc
          · cases hc
        · cases hc
    · cases hcomp
  · rename_i g hf
    exact hX f _ hf args h v h' hc φ args' w hr hR o a K Q hK
  · cases hc

theorem code_ok (hm : P.follows .mixedOrders = true) (hX : XOk P X) : ∀ k, CodeOk P X k ∧ LoopOk P X k := by
  intro k
  induction k with
  | zero => exact ⟨fun c s e s' h => (by rw [run_zero] at h; cases h), fun c s e s' h => (by rw [run_zero] at h; cases h)⟩
  | succ k ih =>
    obtain ⟨ihC, ihL⟩ := ih
    have hcall := callX_ok hX ihC
    have loop : LoopOk P X (k + 1) := by
      intro c s e s' h φ a w ht hR
      rw [run_succ] at h
      simp only [runC] at h
      rw [rounds_succ]
      unfold c_seq at h
      split at h
      · rename_i s1 h1
        refine wp_mono (ihC c s .normal s1 h1 φ a w ht hR) fun ex a' w' p => ?_
        obtain ⟨g1, g2, φ', g3, g4, g5⟩ := p
        cases ex <;> simp only [exitIs] at g1
        have := ihL c s1 e s' h φ' a' w' g3 g4
        rw [g2] at this
        exact rounds_mono this fun ex2 a2 w2 p2 => Post.trans hR g5 p2
      · rename_i hne
        have hne : ∀ s1, e ≠ .normal ∨ s' ≠ s1 := by
          intro s1
          by_cases he : e = .normal
          · subst he; exact absurd h (hne s')
          · exact .inl he
        refine wp_mono (ihC c s e s' h φ a w ht hR) fun ex a' w' p => ?_
        have he : e ≠ .normal := (hne s').resolve_right (fun h => h rfl)
        obtain ⟨g1, g2⟩ := p
        cases e <;> cases ex <;> simp only [exitIs] at g1 <;> first | exact absurd rfl he | exact ⟨g1, g2⟩
    refine ⟨fun c s e s' h φ a w ht hR => ?_, loop⟩
    rw [run_succ] at h
    cases c with
    | skip =>
      simp only [compCode, runC, Option.some.injEq, Prod.mk.injEq] at h
      obtain ⟨rfl, rfl⟩ := h
      exact wp_skip ⟨trivial, rfl, φ, ht, hR, Fr.refl _ _ _⟩
    | label l =>
      simp only [compCode, runC, Option.some.injEq, Prod.mk.injEq] at h
      obtain ⟨rfl, rfl⟩ := h
      exact wp_label ⟨trivial, rfl, φ, ht, hR, Fr.refl _ _ _⟩
    | exit id =>
      simp only [compCode, runC, Option.some.injEq, Prod.mk.injEq] at h
      obtain ⟨rfl, rfl⟩ := h
      exact wp_exit ⟨rfl, rfl, φ, ht, hR, Fr.refl _ _ _⟩
    | ret =>
      simp only [compCode, runC, Option.some.injEq, Prod.mk.injEq] at h
      obtain ⟨rfl, rfl⟩ := h
      exact wp_ret ⟨trivial, rfl, φ, ht, hR, Fr.refl _ _ _⟩
    | seq x y =>
      simp only [compCode, runC] at h
      unfold c_seq at h
      refine wp_seq ?_
      split at h
      · rename_i s1 h1
        refine wp_mono (ihC x s .normal s1 h1 φ a w ht hR) fun ex a' w' p => ?_
        obtain ⟨g1, g2, φ', g3, g4, g5⟩ := p
        cases ex <;> simp only [exitIs] at g1
        have := ihC y s1 e s' h φ' a' w' g3 g4
        rw [g2] at this
        exact wp_mono this fun ex2 a2 w2 p2 => Post.trans hR g5 p2
      · rename_i hne
        refine wp_mono (ihC x s e s' h φ a w ht hR) fun ex a' w' p => ?_
        have he : e ≠ .normal := fun he => by subst he; exact absurd h (hne s')
        obtain ⟨g1, g2⟩ := p
        cases e <;> cases ex <;> simp only [exitIs] at g1 <;> first | exact absurd rfl he | exact ⟨g1, g2⟩
    | cond c x y =>
      simp only [compCode] at h
      split at h
      · rename_i c' hc'
        simp only [runC] at h
        have rc := compArg_rel ht hc'
        unfold c_cond at h
        split at h
        · rename_i e1
          rw [e1] at rc
          exact wp_cond_true rc.bool_inv (ihC x s e s' h φ a w ht hR)
        · rename_i e1
          rw [e1] at rc
          exact wp_cond_false rc.bool_inv (ihC y s e s' h φ a w ht hR)
        · cases h
      · simp [runC] at h
    | block id b =>
      simp only [compCode, runC] at h
      refine wp_block ?_
      unfold c_block at h
      split at h
      · rename_i id' s1 h1
        refine wp_mono (ihC b s (.exit id') s1 h1 φ a w ht hR) fun ex a' w' p => ?_
        obtain ⟨g1, g2⟩ := p
        cases ex <;> simp only [exitIs] at g1
        subst g1
        split at h
        · rename_i hb
          have := Nat.eq_of_beq_eq_true hb
          simp only [Option.some.injEq, Prod.mk.injEq] at h
          obtain ⟨rfl, rfl⟩ := h
          simp only [Exit.inBlock, this, if_true]
          exact ⟨trivial, g2⟩
        · rename_i hb
          have : id' ≠ id := fun e => by rw [e, Nat.beq_refl] at hb; cases hb
          simp only [Option.some.injEq, Prod.mk.injEq] at h
          obtain ⟨rfl, rfl⟩ := h
          simp only [Exit.inBlock, this, if_false]
          exact ⟨rfl, g2⟩
      · rename_i hne
        refine wp_mono (ihC b s e s' h φ a w ht hR) fun ex a' w' p => ?_
        obtain ⟨g1, g2⟩ := p
        cases e <;> cases ex <;> simp only [exitIs] at g1
        · exact ⟨trivial, g2⟩
        · rename_i id1 id2; exact absurd h (hne id1 s')
        · exact ⟨trivial, g2⟩
    | loop b =>
      simp only [compCode] at h
      exact wp_loop_rounds (k + 1) (loop b s e s' (by rw [run_succ]; exact h) φ a w ht hR)
    | scope b =>
      simp only [compCode, runC] at h
      refine wp_scope_straight (wp_mono (ihC b s e s' h φ a w ht hR) fun ex a' w' p => ?_)
      obtain ⟨g1, g2⟩ := p
      cases e <;> cases ex <;> simp only [exitIs] at g1 <;> exact ⟨g1, g2⟩
    | region id ops draw =>
      simp only [compCode] at h
      split at h
      · simp [runC] at h
      · rename_i l hl
        have norm : ∀ {o : Option St}, c_norm o = some (e, s') → e = .normal ∧ o = some s' := by
          intro o ho
          cases o with
          | none => cases ho
          | some s1 => simp only [c_norm, Option.some.injEq, Prod.mk.injEq] at ho; exact ⟨ho.1.symm, by rw [ho.2]⟩
        split at h
        · rename_i hd
          subst hd
          split at h
          · rename_i hok
            simp only [runC] at h
            obtain ⟨rfl, h1⟩ := norm h
            exact draw_sound hm hcall hl hok h1 ht hR fun φ' a' w' g1 g2 g3 g4 => ⟨trivial, g4, φ', g1, g2, g3⟩
          · simp [runC] at h
        · rename_i hd
          have hd : draw = false := by simpa using hd
          subst hd
          simp only [runC] at h
          obtain ⟨rfl, h1⟩ := norm h
          refine wp_region ?_
          have := stepOps_sound hcall (Q := Post φ s.h w .normal s' a.defers) ops.toList 0 l φ s s' a w rfl hl h1 ht hR fun φ' a' w' g1 g2 g3 g4 => ⟨trivial, g4, φ', g1, g2, g3⟩
          rw [List.range_eq_range']
          simpa using this
    | _ => simp [compCode, runC] at h

/-- A function called. -/
theorem call_sound (hm : P.follows .mixedOrders = true) (hX : XOk P X) {k f : Nat} {args : List AVal} {h h' : Heap} {v : AVal} (hc : call X k f args h = some (v, h')) {φ : Emb} {args' : Array Value} {w : World} (hr : VRels φ args args'.toList) (hR : Rel φ h w) (o : Oper) (a : Act) (K : Act → World → Prop) (Q : Exit → Act → World → Prop)
    (hK : ∀ v' φ' w', VRel φ' v v' → Rel φ' h' w' → Fr φ h w φ' h' w' → K (a.put o.dst v') w') : o.upon P a K Q ((callFunc f args').run P w) :=
  callX_ok hX (code_ok hm hX k).1 f args h v h' hc φ args' w hr hR o a K Q hK
end
end Go.Ax
