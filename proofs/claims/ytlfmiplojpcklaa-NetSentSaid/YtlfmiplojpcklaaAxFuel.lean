/- More fuel changes no answer; what code does not write stays. -/
import Derived.Test.YtlfmiplojpcklaaAxCore
namespace Go.Ax
section
variable {f g : Nat → List AVal → Heap → Option (AVal × Heap)}
/-- g answers all that f answers. -/
def CLe (f g : Nat → List AVal → Heap → Option (AVal × Heap)) : Prop := ∀ n l h r, f n l h = some r → g n l h = some r
def RLe (r q : XCode → St → Option (XExit × St)) : Prop := ∀ c s x, r c s = some x → q c s = some x

theorem runAct_mono (hc : CLe f g) {t : Tmps} {h : Heap} {a : XAct} {r : AVal × Heap} (e : runAct f t h a = some r) : runAct g t h a = some r := by
  cases a with
  | call x l =>
    simp only [runAct, a_call] at e ⊢
    split at e
    · exact hc _ _ _ _ e
    · cases e
  | _ => exact e
theorem doOp_mono (hc : CLe f g) {d : Option Path} {s s' : St} {o : XOp} (e : doOp f d s o = some s') : doOp g d s o = some s' := by
  cases o with
  | act a =>
    simp only [doOp] at e ⊢
    cases hr : runAct f s.t s.h a with
    | none => rw [hr] at e; cases e
    | some r => rw [hr] at e; rw [runAct_mono hc hr]; exact e
  | _ => exact e
theorem stepOper_mono (hc : CLe f g) {o : XOper} {s s' : St} (e : stepOper f o s = some s') : stepOper g o s = some s' := by
  unfold stepOper at e ⊢
  split at e
  · cases e
  · exact e
  · exact doOp_mono hc e
theorem stepOps_mono (hc : CLe f g) : ∀ {l : List XOper} {s s' : St}, stepOps f l s = some s' → stepOps g l s = some s' := by
  intro l
  induction l with
  | nil => intro s s' e; exact e
  | cons o l ih =>
    intro s s' e
    have e1 : stepOps f (o :: l) s = match stepOper f o s with | some s' => stepOps f l s' | none => none := rfl
    have e2 : stepOps g (o :: l) s = match stepOper g o s with | some s' => stepOps g l s' | none => none := rfl
    rw [e1] at e; rw [e2]
    cases h1 : stepOper f o s with
    | none => rw [h1] at e; cases e
    | some s1 => rw [h1] at e; rw [stepOper_mono hc h1]; exact ih e
theorem drawPast_mono (hc : CLe f g) {p p' : Past} {i : Nat} {pre : List Nat} {s : St} {o : XOp} (e : drawPast f p i pre s o = some p') : drawPast g p i pre s o = some p' := by
  cases o with
  | act a =>
    simp only [drawPast] at e ⊢
    cases hr : runAct f s.t s.h a with
    | none => rw [hr] at e; cases e
    | some r => rw [hr] at e; rw [runAct_mono hc hr]; exact e
  | _ => exact e
theorem drawOps_cons (f : Nat → List AVal → Heap → Option (AVal × Heap)) (o : Nat × XOper × List Nat) (l : List (Nat × XOper × List Nat)) (s : St) (p : Past) : drawOps f (o :: l) s p =
    match wanted s.t o.2.1.guard with
      | none => none
      | some false => drawOps f l ⟨putT s.t o.2.1.dst und, s.h⟩ p
      | some true => (match drawPast f p o.1 o.2.2 s o.2.1.op with | some p' => (match doOp f o.2.1.dst s o.2.1.op with | some s' => drawOps f l s' p' | none => none) | none => none) := rfl
theorem drawOps_mono (hc : CLe f g) : ∀ {l : List (Nat × XOper × List Nat)} {s s' : St} {p : Past}, drawOps f l s p = some s' → drawOps g l s p = some s' := by
  intro l
  induction l with
  | nil => intro s s' p e; exact e
  | cons o l ih =>
    intro s s' p e
    rw [drawOps_cons] at e ⊢
    split at e
    · cases e
    · exact ih e
    · split at e
      · rename_i p' hp
        split at e
        · rename_i s1 h1
          rw [drawPast_mono hc hp]
          simp only
          rw [doOp_mono hc h1]
          exact ih e
        · cases e
      · cases e
theorem runC_mono (hc : CLe f g) {r q : XCode → St → Option (XExit × St)} (hr : RLe r q) {c : XCode} {s : St} {x : XExit × St} (e : runC f r c s = some x) : runC g q c s = some x := by
  have norm : ∀ {o o' : Option St}, (∀ s', o = some s' → o' = some s') → c_norm o = some x → c_norm o' = some x := by
    intro o o' h h1
    cases o with
    | none => cases h1
    | some s1 => rw [h s1 rfl]; exact h1
  have sq : ∀ {b : XCode} {o o' : Option (XExit × St)}, (∀ y, o = some y → o' = some y) → c_seq r b o = some x → c_seq q b o' = some x := by
    intro b o o' h h1
    cases o with
    | none => cases h1
    | some y =>
      rw [h y rfl]
      obtain ⟨ex, s1⟩ := y
      cases ex with
      | normal => exact hr _ _ _ h1
      | _ => exact h1
  cases c with
  | ops l => exact norm (fun s' h => stepOps_mono hc h) e
  | draw l => exact norm (fun s' h => drawOps_mono hc h) e
  | seq a b => exact sq (fun y h => hr _ _ _ h) e
  | cond c a b =>
    simp only [runC] at e ⊢
    unfold c_cond at e ⊢
    split at e
    · exact hr _ _ _ e
    · exact hr _ _ _ e
    · cases e
  | block id b =>
    simp only [runC] at e ⊢
    cases h1 : r b s with
    | none => rw [h1] at e; cases e
    | some y => rw [h1] at e; rw [hr _ _ _ h1]; exact e
  | loop b => exact sq (fun y h => hr _ _ _ h) e
  | scope b => exact hr _ _ _ e
  | _ => exact e
end
section
variable {X : Nat → Option XDef}
theorem callX_mono {r q : XCode → St → Option (XExit × St)} (hr : RLe r q) : CLe (callX X r) (callX X q) := by
  intro n l h x e
  unfold callX at e ⊢
  split at e
  · rename_i fn hf
    split at e
    · rename_i hle
      split at e
      · rename_i s' h1; rw [hr _ _ _ h1]; exact e
      · rename_i s' h1; rw [hr _ _ _ h1]; exact e
      · cases e
    · cases e
  · exact e
  · cases e
theorem run_mono1 (k : Nat) : RLe (run X k) (run X (k + 1)) := by
  induction k with
  | zero => intro c s x e; rw [run_zero] at e; cases e
  | succ k ih =>
    intro c s x e
    rw [run_succ] at e ⊢
    exact runC_mono (callX_mono ih) ih e
theorem run_mono {k m : Nat} (h : k ≤ m) : RLe (run X k) (run X m) := by
  induction h with
  | refl => exact fun _ _ _ e => e
  | step _ ih => exact fun c s x e => run_mono1 _ c s x (ih c s x e)
theorem call_mono {k m : Nat} (h : k ≤ m) : CLe (callX X (run X k)) (callX X (run X m)) := callX_mono (run_mono h)

/-- What a function comes to. -/
def FnC (X : Nat → Option XDef) (f : Nat) (args : List AVal) (h : Heap) (K : AVal → Heap → Prop) : Prop := ∃ k v h', call X k f args h = some (v, h') ∧ K v h'
theorem FnC.mono {f : Nat} {args : List AVal} {h : Heap} {K K' : AVal → Heap → Prop} (H : FnC X f args h K) (hk : ∀ v h', K v h' → K' v h') : FnC X f args h K' := by
  obtain ⟨k, v, h', e, p⟩ := H; exact ⟨k, v, h', e, hk v h' p⟩
/-- It comes to just this. -/
def FnIs (X : Nat → Option XDef) (f : Nat) (args : List AVal) (h : Heap) (v : AVal) (h' : Heap) : Prop := ∃ k, call X k f args h = some (v, h')
theorem FnIs.eq {f : Nat} {args : List AVal} {h h' : Heap} {v : AVal} (H : FnIs X f args h v h') (K : AVal → Heap → Prop) : FnC X f args h K = K v h' := by
  obtain ⟨k, e⟩ := H
  refine propext ⟨fun ⟨k2, v2, h2, e2, p⟩ => ?_, fun p => ⟨k, v, h', e, p⟩⟩
  have a1 := call_mono (X := X) (Nat.le_max_left k k2) _ _ _ _ e
  have a2 := call_mono (X := X) (Nat.le_max_right k k2) _ _ _ _ e2
  rw [a1] at a2
  simp only [Option.some.injEq, Prod.mk.injEq] at a2
  rw [a2.1, a2.2]; exact p
theorem FnIs.of {f : Nat} {args : List AVal} {h h' : Heap} {v : AVal} (H : FnC X f args h (fun v' h'' => v' = v ∧ h'' = h')) : FnIs X f args h v h' := by
  obtain ⟨k, v2, h2, e, rfl, rfl⟩ := H; exact ⟨k, e⟩
end
end Go.Ax
