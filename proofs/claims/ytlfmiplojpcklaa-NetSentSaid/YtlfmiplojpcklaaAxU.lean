/- The condition on code suffices: open regions, and the whole. -/
import Derived.Test.YtlfmiplojpcklaaAxV
set_option linter.unusedSimpArgs false
set_option linter.unusedVariables false
namespace Go.Ax
section
variable {X : Nat → Option XDef}
theorem allQ_mem {α : Type} {P : α → Prop} : ∀ {l : List α}, allQ P l → ∀ x ∈ l, P x := by
  intro l
  induction l with
  | nil => intro _ x hx; cases hx
  | cons a l ih =>
    intro h x hx
    have h : P a ∧ allQ P l := h
    rcases List.mem_cons.1 hx with rfl | hx
    · exact h.1
    · exact ih h.2 x hx
theorem filN_mem {α : Type} {pre : List Nat} : ∀ {l : List (Nat × α)} {x : Nat × α}, x ∈ l → hasN x.1 pre = false → x ∈ filN pre l := by
  intro l
  induction l with
  | nil => intro x hx; cases hx
  | cons a l ih =>
    intro x hx hn
    have e : filN pre (a :: l) = match hasN a.1 pre with | true => filN pre l | false => a :: filN pre l := rfl
    rw [e]
    rcases List.mem_cons.1 hx with rfl | hx
    · rw [hn]; simp
    · split
      · exact ih hx hn
      · exact List.mem_cons_of_mem _ (ih hx hn)
theorem allL_of {α : Type} {p : α → Bool} {l : List α} (h : ∀ x ∈ l, p x = true) : allL p l = true := by rw [allL_eq, List.all_eq_true]; exact h

structure PRel (p : Past) (q : PastW) : Prop where
  ks : p.ks = q.ks
  ps : ∀ x ∈ p.ps, ∃ c ∈ q.ps, c.1 = x.i ∧ ∀ h, c.2 h → readsAt h x = true
  ms : ∀ m ∈ p.ms, (m.i, m.b, m.x) ∈ q.ms

def DrawRes (X : Nat → Option XDef) (l : List (Nat × XOper × List Nat)) (p : Past) (t : Tmps) (h : Heap) (D : List Path) (K : Env → Heap → Prop) : Prop :=
  ∃ k s', drawOps (callX X (run X k)) l ⟨t, h⟩ p = some s' ∧ Moved t s'.t D ∧ ∃ e', Agr e' s'.t ∧ K e' s'.h

theorem drawW_sound : ∀ {l : List (Nat × XOper × List Nat)} {q : PastW} {p : Past} {K : Env → Heap → Prop} {e : Env} {h : Heap} {t : Tmps}, PRel p q → (∀ d ∈ dstsD l, hasP d t = true) → Agr e t → drawW X l q K e h → DrawRes X l p t h (dstsD l) K := by
  intro l
  induction l with
  | nil =>
    intro q p K e h t hp _ ha H
    have H : allQ (fun x => x.2 h) q.ps ∧ K e h := H
    refine ⟨0, ⟨t, h⟩, ?_, Moved.refl _ _, e, ha, H.2⟩
    have e1 : drawOps (callX X (run X 0)) [] ⟨t, h⟩ p = match allL (readsAt h) p.ps with | true => some ⟨t, h⟩ | false => none := rfl
    rw [e1, allL_of fun x hx => by
      obtain ⟨c, hc, _, h2⟩ := hp.ps x hx
      exact h2 h (allQ_mem H.1 c hc)]
  | cons x l ih =>
    intro q p K e h t hp hd ha H
    obtain ⟨i, o, pre⟩ := x
    have e1 : dstsD ((i, o, pre) :: l) = match o.dst with | some d => d :: dstsD l | none => dstsD l := rfl
    have sub : ∀ d ∈ dstsD l, d ∈ dstsD ((i, o, pre) :: l) := by intro d hd; rw [e1]; split <;> simp [hd]
    have hdst : ∀ d, o.dst = some d → hasP d t = true ∧ d ∈ dstsD ((i, o, pre) :: l) := by
      intro d hh
      have : d ∈ dstsD ((i, o, pre) :: l) := by rw [e1, hh]; simp
      exact ⟨hd d this, this⟩
    have e2 := fun (f : Nat → List AVal → Heap → Option (AVal × Heap)) => drawOps_cons f (i, o, pre) l ⟨t, h⟩ p
    -- the rest, behind whatever is put
    have rest : ∀ {v : AVal} {q' : PastW} {p' : Past} {h' : Heap}, PRel p' q' → drawW X l q' K (putE e o.dst v) h' → ∃ k s', drawOps (callX X (run X k)) l ⟨putT t o.dst v, h'⟩ p' = some s' ∧ Moved t s'.t (dstsD ((i, o, pre) :: l)) ∧ ∃ e', Agr e' s'.t ∧ K e' s'.h := by
      intro v q' p' h' hp' H'
      obtain ⟨a1, m1⟩ := putE_agree (v := v) ha hdst
      obtain ⟨k, s', h1, m2, e', a2, H2⟩ := ih hp' (t := putT t o.dst v) (fun d hh => by rw [m1.has]; exact hd d (sub d hh)) a1 H'
      exact ⟨k, s', h1, m1.trans (m2.mono sub), e', a2, H2⟩
    have skip : wanted t o.guard = some false → drawW X l q K (putE e o.dst und) h → DrawRes X ((i, o, pre) :: l) p t h (dstsD ((i, o, pre) :: l)) K := by
      intro h1 h2
      obtain ⟨k, s', h3, m, r⟩ := rest hp h2
      refine ⟨k, s', ?_, m, r⟩
      rw [e2]; simp only [h1]; exact h3
    have done : ∀ {k0 : Nat} {v : AVal} {h' : Heap} {q' : PastW} {p' : Past}, wanted t o.guard = some true → drawPast (callX X (run X k0)) p i pre ⟨t, h⟩ o.op = some p' → doOp (callX X (run X k0)) o.dst ⟨t, h⟩ o.op = some ⟨putT t o.dst v, h'⟩ → PRel p' q' → drawW X l q' K (putE e o.dst v) h' → DrawRes X ((i, o, pre) :: l) p t h (dstsD ((i, o, pre) :: l)) K := by
      intro k0 v h' q' p' h1 h2 h3 h4 h5
      obtain ⟨k, s', h6, m, r⟩ := rest h4 h5
      refine ⟨max k0 k, s', ?_, m, r⟩
      have le0 := call_mono (X := X) (Nat.le_max_left k0 k)
      rw [e2]
      simp only [h1]
      rw [drawPast_mono le0 h2]
      simp only
      rw [doOp_mono le0 h3]
      exact drawOps_mono (call_mono (Nat.le_max_right k0 k)) h6
    have H : (match gval e o.guard with
      | none => False
      | some g =>
        match o.op with
        | .pure q1 => (match subPure e q1 with | some q1 => pureW g q1 (fun v => drawW X l q K (putE e o.dst v) h) | none => False)
        | .read r => (match subRead e r with
          | some r => ok (readG g r h) fun v => allQ (fun k => readG g r k.2 = some v) (filN pre q.ks) ∧ drawW X l ⟨q.ks, (i, fun h' => readG g r h' = some v) :: q.ps, q.ms⟩ K (putE e o.dst v) h
          | none => False)
        | .make m => (match subMake e m with
          | some m =>
            let A := okB (runMake .leaf h.n m) fun v b => drawW X l ⟨q.ks, q.ps, (i, h.n, b) :: q.ms⟩ K (putE e o.dst v) (h.push b)
            (match g with | none => A | some (gv, w) => gcase gv w A (drawW X l q K (putE e o.dst und) h))
          | none => False)
        | .act a => (match subAct e a with
          | some a =>
            let A := allQ (fun q => q.2 h) q.ps ∧ actP X a h fun v h' => allQ (fun m => madeQ h' m) (filN pre q.ms) ∧ drawW X l ⟨(i, h) :: q.ks, filN pre q.ps, filN pre q.ms⟩ K (putE e o.dst v) h'
            (match g with | none => A | some (gv, w) => gcase gv w A (drawW X l q K (putE e o.dst und) h))
          | none => False)) := H
    split at H
    · exact H.elim
    · rename_i g hg
      have hw := gval_wanted ha hg
      split at H
      · rename_i q1 hop
        split at H
        · rename_i q2 hq
          have hr := subPure_run ha hq
          have fin : ∀ v, wanted t o.guard = some true → runPure .leaf q2 = some v → drawW X l q K (putE e o.dst v) h → DrawRes X ((i, o, pre) :: l) p t h (dstsD ((i, o, pre) :: l)) K := fun v h1 h2 h3 =>
            done (k0 := 0) h1 (p' := p) (by rw [hop]; rfl) (by rw [hop]; simp only [doOp, ← hr, h2, putV]) hp h3
          unfold pureW at H
          split at H
          · obtain ⟨v, h1, h2⟩ := pure1_some H
            exact fin v hw h1 h2
          · rename_i gv w
            obtain ⟨v, h1, h2⟩ := ok_some H
            simp only [wantG] at hw
            unfold gsel at h1
            split at h1
            · rename_i h3; exact fin v (hw.trans h3) h1 h2
            · rename_i h3; simp only [Option.some.injEq] at h1; subst h1; exact skip (hw.trans h3) h2
            · cases h1
        · exact H.elim
      · rename_i r hop
        split at H
        · rename_i r' hq
          have hr := fun hh => subRead_run ha hq hh
          obtain ⟨v, h1, h2, h3⟩ := ok_some H
          have fin : (∀ hh, readG g r' hh = runRead .leaf hh r') → wanted t o.guard = some true → DrawRes X ((i, o, pre) :: l) p t h (dstsD ((i, o, pre) :: l)) K := by
            intro hG hwt
            rw [hG] at h1
            refine done (k0 := 0) hwt (q' := ⟨q.ks, (i, fun h' => readG g r' h' = some v) :: q.ps, q.ms⟩) (p' := ⟨p.ks, ⟨i, t, r, v⟩ :: p.ps, p.ms⟩) ?_ (by rw [hop]; simp only [doOp, ← hr, h1, putV]) ⟨hp.ks, ?_, hp.ms⟩ h3
            · rw [hop]
              simp only [drawPast, drawRead]
              rw [← hr, h1]
              simp only
              rw [allL_of fun k hk => ?_]
              rw [Bool.or_eq_true]
              cases hn : hasN k.1 pre with
              | true => exact .inl rfl
              | false =>
                right
                have := allQ_mem h2 k (filN_mem (by rw [← hp.ks]; exact hk) hn)
                simp only [hG, hr] at this
                unfold readsAt
                simp only [this, same_refl]
            · intro y hy
              rcases List.mem_cons.1 hy with rfl | hy
              · refine ⟨_, List.mem_cons_self .., rfl, fun hh hc => ?_⟩
                simp only [hG, hr] at hc
                unfold readsAt
                simp only [hc, same_refl]
              · obtain ⟨c, c1, c2⟩ := hp.ps y hy
                exact ⟨c, List.mem_cons_of_mem _ c1, c2⟩
          cases g with
          | none => exact fin (fun _ => rfl) hw
          | some gw =>
            obtain ⟨gv, w⟩ := gw
            simp only [wantG] at hw
            cases hwv : wantV gv w with
            | none => simp only [readG, gsel, hwv] at h1; cases h1
            | some b =>
              cases b with
              | true => exact fin (fun hh => by simp only [readG, gsel, hwv]) (hw.trans hwv)
              | false =>
                simp only [readG, gsel, hwv, Option.some.injEq] at h1
                subst h1
                obtain ⟨k, s', h4, m, r2⟩ := rest (q' := ⟨q.ks, (i, fun h' => readG (some (gv, w)) r' h' = some und) :: q.ps, q.ms⟩) (p' := p) ⟨hp.ks, fun y hy => by
                  obtain ⟨c, c1, c2⟩ := hp.ps y hy
                  exact ⟨c, List.mem_cons_of_mem _ c1, c2⟩, hp.ms⟩ h3
                refine ⟨k, s', ?_, m, r2⟩
                rw [e2]; simp only [hw.trans hwv]; exact h4
        · exact H.elim
      · rename_i m hop
        split at H
        · rename_i m' hq
          have hr := subMake_run ha hq h.n
          have fin : wanted t o.guard = some true → okB (runMake .leaf h.n m') (fun v b => drawW X l ⟨q.ks, q.ps, (i, h.n, b) :: q.ms⟩ K (putE e o.dst v) (h.push b)) → DrawRes X ((i, o, pre) :: l) p t h (dstsD ((i, o, pre) :: l)) K := by
            intro h1 h2
            obtain ⟨v, b, h3, h4⟩ := okB_some h2
            rw [hr] at h3
            refine done (k0 := 0) h1 (q' := ⟨q.ks, q.ps, (i, h.n, b) :: q.ms⟩) (p' := ⟨p.ks, p.ps, ⟨i, h.n, b⟩ :: p.ms⟩) (by rw [hop]; simp only [drawPast, h3, drawMake]) (by rw [hop]; simp only [doOp, h3, putB]) ⟨hp.ks, hp.ps, fun y hy => ?_⟩ h4
            rcases List.mem_cons.1 hy with rfl | hy
            · exact List.mem_cons_self ..
            · exact List.mem_cons_of_mem _ (hp.ms y hy)
          simp only at H
          cases g with
          | none => exact fin hw H
          | some gw =>
            obtain ⟨gv, w⟩ := gw
            simp only [wantG] at hw
            simp only [gcase] at H
            split at H
            · rename_i h3; exact fin (hw.trans h3) H
            · rename_i h3; exact skip (hw.trans h3) H
            · exact H.elim
        · exact H.elim
      · rename_i a hop
        split at H
        · rename_i a' hq
          have fin : wanted t o.guard = some true → (allQ (fun q => q.2 h) q.ps ∧ actP X a' h fun v h' => allQ (fun m => madeQ h' m) (filN pre q.ms) ∧ drawW X l ⟨(i, h) :: q.ks, filN pre q.ps, filN pre q.ms⟩ K (putE e o.dst v) h') → DrawRes X ((i, o, pre) :: l) p t h (dstsD ((i, o, pre) :: l)) K := by
            intro h1 ⟨h2, h3⟩
            obtain ⟨k, v, h', h4, h5, h6⟩ := actP_some h3
            rw [subAct_run ha hq] at h4
            refine done (k0 := k) h1 (q' := ⟨(i, h) :: q.ks, filN pre q.ps, filN pre q.ms⟩) (p' := ⟨(i, h) :: p.ks, p.ps.filter (fun q => !hasN q.i pre), p.ms.filter (fun q => !hasN q.i pre)⟩) ?_ (by rw [hop]; simp only [doOp, h4, putH]) ⟨by rw [hp.ks], ?_, ?_⟩ h6
            · rw [hop]
              simp only [drawPast, h4, drawAct]
              rw [allL_of (p := readsAt h) fun y hy => by
                obtain ⟨c, c1, _, c2⟩ := hp.ps y hy
                exact c2 h (allQ_mem h2 c c1)]
              simp only
              rw [allL_of fun y hy => ?_]
              rw [Bool.or_eq_true]
              cases hn : hasN y.i pre with
              | true => exact .inl rfl
              | false =>
                right
                obtain ⟨g1, g2⟩ := allQ_mem h5 _ (filN_mem (hp.ms y hy) hn)
                unfold madeAt
                simp only at g1 g2
                simp only [g1, g2]
            · intro y hy
              obtain ⟨y1, y2⟩ := List.mem_filter.1 hy
              obtain ⟨c, c1, c2, c3⟩ := hp.ps y y1
              refine ⟨c, filN_mem c1 ?_, c2, c3⟩
              rw [c2]; simpa using y2
            · intro y hy
              obtain ⟨y1, y2⟩ := List.mem_filter.1 hy
              exact filN_mem (hp.ms y y1) (by simpa using y2)
          simp only at H
          cases g with
          | none => exact fin hw H
          | some gw =>
            obtain ⟨gv, w⟩ := gw
            simp only [wantG] at hw
            simp only [gcase] at H
            split at H
            · rename_i h3; exact fin (hw.trans h3) H
            · rename_i h3; exact skip (hw.trans h3) H
            · exact H.elim
        · exact H.elim

theorem reads_draw {f : Nat → List AVal → Heap → Option (AVal × Heap)} : ∀ {l : List (Nat × XOper × List Nat)} {s s' : St} {p : Past}, onlyReads l = true → p.ks = [] → (∀ x ∈ p.ps, readsAt s.h x = true) → stepOps f (opersOf l) s = some s' → drawOps f l s p = some s' := by
  intro l
  induction l with
  | nil =>
    intro s s' p _ _ hp e
    have e : some s = some s' := e
    have e1 : drawOps f [] s p = match allL (readsAt s.h) p.ps with | true => some s | false => none := rfl
    rw [e1, allL_of hp]; exact e
  | cons x l ih =>
    intro s s' p ho hk hp e
    obtain ⟨i, o, pre⟩ := x
    have e0 : stepOps f (opersOf ((i, o, pre) :: l)) s = match stepOper f o s with | some s' => stepOps f (opersOf l) s' | none => none := rfl
    have ho : (match o.op with | .pure _ => onlyReads l | .read _ => onlyReads l | .make _ => false | .act _ => false) = true := ho
    have skip : wanted s.t o.guard = some false → onlyReads l = true → drawOps f ((i, o, pre) :: l) s p = some s' := by
      intro hw hl
      rw [e0] at e
      rw [drawOps_cons]
      unfold stepOper at e
      simp only [hw] at e ⊢
      exact ih hl hk hp e
    have fall : wanted s.t o.guard = none → drawOps f ((i, o, pre) :: l) s p = some s' := by
      intro hw
      rw [e0] at e
      unfold stepOper at e
      simp only [hw] at e
      cases e
    rw [e0] at e
    split at ho
    · rename_i q hq
      cases hw : wanted s.t o.guard with
      | none => exact fall hw
      | some b =>
        cases b with
        | false => exact skip hw ho
        | true =>
          rw [drawOps_cons]
          unfold stepOper at e
          simp only [hw, hq, drawPast] at e ⊢
          simp only [doOp] at e ⊢
          cases hv : runPure s.t q with
          | none => rw [hv] at e; cases e
          | some v => rw [hv] at e; simp only [putV] at e ⊢; exact ih ho hk hp e
    · rename_i q hq
      cases hw : wanted s.t o.guard with
      | none => exact fall hw
      | some b =>
        cases b with
        | false => exact skip hw ho
        | true =>
          rw [drawOps_cons]
          unfold stepOper at e
          simp only [hw, hq, drawPast] at e ⊢
          simp only [doOp] at e ⊢
          cases hv : runRead s.t s.h q with
          | none => rw [hv] at e; cases e
          | some v =>
            rw [hv] at e
            simp only [putV, drawRead] at e ⊢
            rw [allL_of (l := p.ks) (fun k hh => by rw [hk] at hh; cases hh)]
            simp only
            refine ih ho (by simpa using hk) (fun y hy => ?_) e
            rcases List.mem_cons.1 hy with rfl | hy
            · unfold readsAt; simp only [hv, same_refl]
            · exact hp y hy
    · cases ho
    · cases ho
theorem dstsO_opers : ∀ (l : List (Nat × XOper × List Nat)), dstsO (opersOf l) = dstsD l := by
  intro l
  induction l with
  | nil => rfl
  | cons x l ih =>
    have e1 : dstsO (opersOf (x :: l)) = match x.2.1.dst with | some d => d :: dstsO (opersOf l) | none => dstsO (opersOf l) := rfl
    have e2 : dstsD (x :: l) = match x.2.1.dst with | some d => d :: dstsD l | none => dstsD l := rfl
    rw [e1, e2, ih]

/-! ### The whole -/
def Res (X : Nat → Option XDef) (c : ACode) (t : Tmps) (h : Heap) (K : XExit → Env → Heap → Prop) : Prop :=
  ∃ k ex s', run X k (erase c) ⟨t, h⟩ = some (ex, s') ∧ Moved t s'.t (dsts c) ∧ ∃ e', Agr e' s'.t ∧ K ex e' s'.h
theorem Res.mk {c : ACode} {t : Tmps} {h : Heap} {K : XExit → Env → Heap → Prop} {k : Nat} {ex : XExit} {s' : St} (h1 : run X k (erase c) ⟨t, h⟩ = some (ex, s')) (h2 : Moved t s'.t (dsts c)) {e' : Env} (h3 : Agr e' s'.t) (h4 : K ex e' s'.h) : Res X c t h K := ⟨k, ex, s', h1, h2, e', h3, h4⟩
theorem w_apart_of {C D : List Path} (h : apartP C D = true) : ∀ p ∈ C, p ∉ D := by
  intro p hp hd
  unfold apartP at h
  rw [allL_eq, List.all_eq_true] at h
  have := h p hp
  rw [(memP_iff p D).2 hd] at this; cases this
theorem valsK_some {L : List Path} {e : Env} {K : List AVal → Prop} (h : valsK L e K) : ∃ vs, vals L e = some vs ∧ K vs := by
  unfold valsK at h; split at h
  · exact ⟨_, by assumption, h⟩
  · exact h.elim

theorem W_sound (T : Tmps) : ∀ (c : ACode) {K : XExit → Env → Heap → Prop} {e : Env} {h : Heap} {t : Tmps}, okS T c = true → (∀ p, hasP p t = hasP p T) → Agr e t → W X c K e h → Res X c t h K := by
  intro c
  induction c with
  | skip => intro K e h t _ _ ha H; exact Res.mk (k := 1) (ex := .normal) (s' := ⟨t, h⟩) rfl (Moved.refl _ _) ha H
  | exit id => intro K e h t _ _ ha H; exact Res.mk (k := 1) (ex := .exit id) (s' := ⟨t, h⟩) rfl (Moved.refl _ _) ha H
  | ret => intro K e h t _ _ ha H; exact Res.mk (k := 1) (ex := .ret) (s' := ⟨t, h⟩) rfl (Moved.refl _ _) ha H
  | bad => intro K e h t _ _ ha H; exact False.elim H
  | ops l =>
    intro K e h t hs hT ha H
    have hs : allL (fun p => hasP p T) (dstsO l) = true := hs
    rw [allL_eq, List.all_eq_true] at hs
    have H : opsW X l (fun e' h' => K .normal e' h') e h := H
    obtain ⟨k, s', h1, m, e', a, H'⟩ := opsW_sound (fun p hp => by rw [hT]; exact hs p hp) ha H
    refine Res.mk (k := k + 1) (ex := .normal) (s' := s') ?_ m a H'
    show c_norm (stepOps (callX X (run X k)) l ⟨t, h⟩) = _
    rw [h1]; rfl
  | draw l =>
    intro K e h t hs hT ha H
    have hs : allL (fun p => hasP p T) (dstsD l) = true := hs
    rw [allL_eq, List.all_eq_true] at hs
    have H : drawV X l (fun e' h' => K .normal e' h') e h := H
    unfold drawV at H
    split at H
    · rename_i hor
      obtain ⟨k, s', h1, m, e', a, H'⟩ := opsW_sound (fun p hp => by rw [hT]; exact hs p (by rw [← dstsO_opers]; exact hp)) ha H
      refine Res.mk (k := k + 1) (ex := .normal) (s' := s') ?_ (m.mono fun p hp => by have hp : p ∈ dstsO (opersOf l) := hp; rw [dstsO_opers] at hp; exact hp) a H'
      show c_norm (drawOps (callX X (run X k)) l ⟨t, h⟩ ⟨[], [], []⟩) = _
      rw [reads_draw hor rfl (fun x (hx : x ∈ []) => nomatch hx) h1]; rfl
    obtain ⟨k, s', h1, m, e', a, H'⟩ := drawW_sound (q := ⟨[], [], []⟩) (p := ⟨[], [], []⟩) ⟨rfl, (fun x (hx : x ∈ []) => nomatch hx), (fun x (hx : x ∈ []) => nomatch hx)⟩ (fun p hp => by rw [hT]; exact hs p hp) ha H
    refine Res.mk (k := k + 1) (ex := .normal) (s' := s') ?_ m a H'
    show c_norm (drawOps (callX X (run X k)) l ⟨t, h⟩ ⟨[], [], []⟩) = _
    rw [h1]; rfl
  | seq a b iha ihb =>
    intro K e h t hs hT ha H
    have hs : (okS T a && okS T b) = true := hs
    rw [Bool.and_eq_true] at hs
    have H : W X a (fun ex e' h' => XExit.casesOn (motive := fun _ => Prop) ex (W X b K e' h') (fun id => K (.exit id) e' h') (K .ret e' h')) e h := H
    have hD : dsts (.seq a b) = dsts a ++ dsts b := appL_eq _ _
    obtain ⟨k1, ex, s1, h1, m1, e1, a1, H1⟩ := iha hs.1 hT ha H
    have m1' : Moved t s1.t (dsts (.seq a b)) := m1.mono fun p hp => by rw [hD]; simp [hp]
    cases ex with
    | normal =>
      obtain ⟨k2, ex2, s2, h2, m2, e2, a2, H2⟩ := ihb (t := s1.t) hs.2 (fun p => (m1.has p).trans (hT p)) a1 H1
      refine Res.mk (k := max k1 k2 + 1) (ex := ex2) (s' := s2) ?_ (m1'.trans (m2.mono fun p hp => by rw [hD]; simp [hp])) a2 H2
      show c_seq (run X (max k1 k2)) (erase b) (run X (max k1 k2) (erase a) ⟨t, h⟩) = _
      rw [run_mono (Nat.le_max_left k1 k2) _ _ _ h1]
      exact run_mono (Nat.le_max_right k1 k2) _ _ _ h2
    | exit id =>
      refine Res.mk (k := k1 + 1) (ex := .exit id) (s' := s1) ?_ m1' a1 H1
      show c_seq (run X k1) (erase b) (run X k1 (erase a) ⟨t, h⟩) = _
      rw [h1]; rfl
    | ret =>
      refine Res.mk (k := k1 + 1) (ex := .ret) (s' := s1) ?_ m1' a1 H1
      show c_seq (run X k1) (erase b) (run X k1 (erase a) ⟨t, h⟩) = _
      rw [h1]; rfl
  | join L C a b iha ihb =>
    intro K e h t hs hT ha H
    have hs : (apartP C (dsts a) && (okS T a && okS T b)) = true := hs
    rw [Bool.and_eq_true, Bool.and_eq_true] at hs
    obtain ⟨J, HJ, H⟩ : ∃ J : JTy (lenL L), (allN (lenL L) fun xs => ∀ h', appJ _ J xs h' → W X b K (zipE L xs (pick C e)) h') ∧
      W X a (fun ex e' h' => XExit.casesOn (motive := fun _ => Prop) ex (valsK L e' fun vs => appJ _ J vs h') (fun id => K (.exit id) e' h') (K .ret e' h')) e h := H
    have hD : dsts (.join L C a b) = dsts a ++ dsts b := appL_eq _ _
    obtain ⟨k1, ex, s1, h1, m1, e1, a1, H1⟩ := iha hs.2.1 hT ha H
    have m1' : Moved t s1.t (dsts (.join L C a b)) := m1.mono fun p hp => by rw [hD]; simp [hp]
    cases ex with
    | normal =>
      obtain ⟨vs, hv, H1⟩ := valsK_some H1
      have := allN_of HJ (l := vs) ((vals_length hv).trans (lenL_eq L).symm) s1.h H1
      obtain ⟨k2, ex2, s2, h2, m2, e2, a2, H2⟩ := ihb (t := s1.t) hs.2.2 (fun p => (m1.has p).trans (hT p)) (zip_agree (pick_agree ha fun p hp => m1.get p (w_apart_of hs.1 p hp)) a1 hv) this
      refine Res.mk (k := max k1 k2 + 1) (ex := ex2) (s' := s2) ?_ (m1'.trans (m2.mono fun p hp => by rw [hD]; simp [hp])) a2 H2
      show c_seq (run X (max k1 k2)) (erase b) (run X (max k1 k2) (erase a) ⟨t, h⟩) = _
      rw [run_mono (Nat.le_max_left k1 k2) _ _ _ h1]
      exact run_mono (Nat.le_max_right k1 k2) _ _ _ h2
    | exit id =>
      refine Res.mk (k := k1 + 1) (ex := .exit id) (s' := s1) ?_ m1' a1 H1
      show c_seq (run X k1) (erase b) (run X k1 (erase a) ⟨t, h⟩) = _
      rw [h1]; rfl
    | ret =>
      refine Res.mk (k := k1 + 1) (ex := .ret) (s' := s1) ?_ m1' a1 H1
      show c_seq (run X k1) (erase b) (run X k1 (erase a) ⟨t, h⟩) = _
      rw [h1]; rfl
  | cond c a b iha ihb =>
    intro K e h t hs hT ha H
    have hs : (okS T a && okS T b) = true := hs
    rw [Bool.and_eq_true] at hs
    have H : (match subA e c with | some x => br (x.eval .leaf) (W X a K e h) (W X b K e h) | none => False) := H
    have hD : dsts (.cond c a b) = dsts a ++ dsts b := appL_eq _ _
    split at H
    · rename_i x hx
      have ev := subA_eval ha hx
      unfold br at H
      split at H
      · rename_i hb
        obtain ⟨k1, ex, s1, h1, m1, r⟩ := iha hs.1 hT ha H
        refine ⟨k1 + 1, ex, s1, ?_, m1.mono fun p hp => by rw [hD]; simp [hp], r⟩
        show c_cond (run X k1) (erase a) (erase b) ⟨t, h⟩ (c.eval t) = _
        rw [← ev, hb]; exact h1
      · rename_i hb
        obtain ⟨k1, ex, s1, h1, m1, r⟩ := ihb hs.2 hT ha H
        refine ⟨k1 + 1, ex, s1, ?_, m1.mono fun p hp => by rw [hD]; simp [hp], r⟩
        show c_cond (run X k1) (erase a) (erase b) ⟨t, h⟩ (c.eval t) = _
        rw [← ev, hb]; exact h1
      · exact H.elim
    · exact H.elim
  | block id b ihb =>
    intro K e h t hs hT ha H
    have hs : okS T b = true := hs
    have H : W X b (fun ex e' h' => XExit.casesOn (motive := fun _ => Prop) ex (K .normal e' h') (fun id' => match Nat.beq id' id with | true => K .normal e' h' | false => K (.exit id') e' h') (K .ret e' h')) e h := H
    obtain ⟨k1, ex, s1, h1, m1, e1, a1, H1⟩ := ihb hs hT ha H
    have hr : run X (k1 + 1) (erase (.block id b)) ⟨t, h⟩ = c_block id (some (ex, s1)) := by
      show c_block id (run X k1 (erase b) ⟨t, h⟩) = _
      rw [h1]
    cases ex with
    | normal => exact Res.mk (k := k1 + 1) (ex := .normal) (s' := s1) hr m1 a1 H1
    | ret => exact Res.mk (k := k1 + 1) (ex := .ret) (s' := s1) hr m1 a1 H1
    | exit id' =>
      simp only at H1
      simp only [c_block] at hr
      split at H1
      · rename_i hb
        rw [hb] at hr
        exact Res.mk (k := k1 + 1) (ex := .normal) (s' := s1) hr m1 a1 H1
      · rename_i hb
        rw [hb] at hr
        exact Res.mk (k := k1 + 1) (ex := .exit id') (s' := s1) hr m1 a1 H1
  | loop L C b ihb =>
    intro K e h t hs hT ha H
    have hs : (apartP C (dsts b) && okS T b) = true := hs
    rw [Bool.and_eq_true] at hs
    have H : valsK L e fun vs => ∃ I : Nat → JTy (lenL L), (∃ n, appJ _ (I n) vs h) ∧ ∀ n, allN (lenL L) fun xs => ∀ h', appJ _ (I n) xs h' →
      W X b (fun ex e' h'' => XExit.casesOn (motive := fun _ => Prop) ex (valsK L e' fun vs' => ∃ m, m < n ∧ appJ _ (I m) vs' h'') (fun id => K (.exit id) e' h'') (K .ret e' h'')) (zipE L xs (pick C e)) h' := H
    obtain ⟨vs, hv, I, ⟨n, hn⟩, HI⟩ := valsK_some H
    have key : ∀ n (vs : List AVal) (h' : Heap) (t' : Tmps), vs.length = L.length → appJ _ (I n) vs h' → Moved t t' (dsts b) → Agr (zipE L vs (pick C e)) t' → Res X (.loop L C b) t' h' K := by
      intro n
      induction n using Nat.strongRecOn with
      | _ n ihn =>
        intro vs h' t' hl hI mt ag
        have := allN_of (HI n) (l := vs) (hl.trans (lenL_eq L).symm) h' hI
        obtain ⟨k1, ex, s1, h1, m1, e1, a1, H1⟩ := ihb hs.2 (fun p => (mt.has p).trans (hT p)) ag this
        cases ex with
        | normal =>
          obtain ⟨vs', hv', m, hm, H2⟩ := valsK_some H1
          have mt' : Moved t s1.t (dsts b) := mt.trans m1
          obtain ⟨k2, ex2, s2, h2, m2, e2, a2, H3⟩ := ihn m hm vs' s1.h s1.t (vals_length hv') H2 mt' (zip_agree (pick_agree ha fun p hp => mt'.get p (w_apart_of hs.1 p hp)) a1 hv')
          refine Res.mk (k := max k1 k2 + 1) (ex := ex2) (s' := s2) ?_ (m1.trans m2) a2 H3
          show c_seq (run X (max k1 k2)) (.loop (erase b)) (run X (max k1 k2) (erase b) ⟨t', h'⟩) = _
          rw [run_mono (Nat.le_max_left k1 k2) _ _ _ h1]
          exact run_mono (Nat.le_max_right k1 k2) _ _ _ h2
        | exit id =>
          refine Res.mk (k := k1 + 1) (ex := .exit id) (s' := s1) ?_ m1 a1 H1
          show c_seq (run X k1) (.loop (erase b)) (run X k1 (erase b) ⟨t', h'⟩) = _
          rw [h1]; rfl
        | ret =>
          refine Res.mk (k := k1 + 1) (ex := .ret) (s' := s1) ?_ m1 a1 H1
          show c_seq (run X k1) (.loop (erase b)) (run X k1 (erase b) ⟨t', h'⟩) = _
          rw [h1]; rfl
    exact key n vs h t (vals_length hv) hn (Moved.refl _ _) (zip_agree (pick_agree ha fun _ _ => rfl) ha hv)
  | scope b ihb =>
    intro K e h t hs hT ha H
    obtain ⟨k1, ex, s1, h1, m1, r⟩ := ihb (K := K) (e := e) hs hT ha H
    exact ⟨k1 + 1, ex, s1, h1, m1, r⟩

/-! ### A function -/
noncomputable def resE (e : Env) (h : Heap) : List XResult → (List AVal → Prop) → Prop :=
  List.rec (motive := fun _ => (List AVal → Prop) → Prop) (fun K => K []) (fun r _ ih K => match r with
    | .tmp p => (match look e p with | some v => ih fun l => K (v :: l) | none => False)
    | .cell p n => (match look e p with | some v => ok (r_load .leaf h n (.val v)) fun u => ih fun l => K (u :: l) | none => False))
def resV (l : List AVal) : AVal := match l with | [v] => v | l => .tup l
noncomputable def fnK (rs : List XResult) (Q : AVal → Heap → Prop) (ex : XExit) (e : Env) (h : Heap) : Prop :=
  XExit.casesOn (motive := fun _ => Prop) ex (resE e h rs fun l => Q (resV l) h) (fun _ => False) (resE e h rs fun l => Q (resV l) h)
structure AFunc where
  ntmps : Nat
  results : List XResult
  params : List Path
  body : ACode
noncomputable def eraseF (f : AFunc) : XFunc := ⟨f.ntmps, f.results, erase f.body⟩
noncomputable def FnW (X : Nat → Option XDef) (f : AFunc) (args : List AVal) (h : Heap) (Q : AVal → Heap → Prop) : Prop := W X f.body (fnK f.results Q) (zipE f.params args []) h

theorem resE_get {t : Tmps} {e : Env} {h : Heap} (ha : Agr e t) : ∀ {rs : List XResult} {K : List AVal → Prop}, resE e h rs K → ∃ l, rs.mapM (getResult ⟨t, h⟩) = some l ∧ K l := by
  intro rs
  induction rs with
  | nil => intro K H; exact ⟨[], rfl, H⟩
  | cons r rs ih =>
    intro K H
    have fin : ∀ v, getResult ⟨t, h⟩ r = some v → (resE e h rs fun l => K (v :: l)) → ∃ l, (r :: rs).mapM (getResult ⟨t, h⟩) = some l ∧ K l := by
      intro v h1 h2
      obtain ⟨l, h3, h4⟩ := ih h2
      exact ⟨v :: l, by simp [h1, h3], h4⟩
    cases r with
    | tmp p =>
      have H : (match look e p with | some v => resE e h rs fun l => K (v :: l) | none => False) := H
      split at H
      · rename_i v hv
        exact fin v (by simp only [getResult, getT, ha p v hv]) H
      · exact H.elim
    | cell p n =>
      have H : (match look e p with | some v => ok (r_load .leaf h n (.val v)) fun u => resE e h rs fun l => K (u :: l) | none => False) := H
      split at H
      · rename_i v hv
        obtain ⟨u, h1, h2⟩ := ok_some H
        refine fin u ?_ h2
        have e1 : r_load t h n (.tmp p) = r_load .leaf h n (.val v) := by simp only [r_load, Arg.eval, ha p v hv]
        simp only [getResult, runRead, e1, h1]
      · exact H.elim
theorem results_of {s : St} {rs : List XResult} {l : List AVal} (h : rs.mapM (getResult s) = some l) : results rs s = some (resV l) := by
  match rs, h with
  | [], h => simp at h; subst h; rfl
  | [r], h =>
    cases hr : getResult s r with
    | none => simp [hr] at h
    | some v => simp [hr] at h; subst h; simp [results, hr, resV]
  | r1 :: r2 :: rs, h =>
    have hl : l.length = (r1 :: r2 :: rs).length := by
      have : ∀ (L : List XResult) (l : List AVal), L.mapM (getResult s) = some l → l.length = L.length := by
        intro L
        induction L with
        | nil => intro l h; simp at h; subst h; rfl
        | cons a L ih =>
          intro l h
          simp only [List.mapM_cons, Option.bind_eq_bind, Option.bind_eq_some_iff, Option.pure_def, Option.some.injEq] at h
          obtain ⟨x, _, l2, h2, rfl⟩ := h
          simp [ih _ h2]
      exact this _ _ h
    have e1 : results (r1 :: r2 :: rs) s = ((r1 :: r2 :: rs).mapM (getResult s)).map .tup := rfl
    rw [e1, h]
    match l, hl with
    | a :: b :: l, _ => rfl

theorem Fn_of_W {f : Nat} {af : AFunc} {xf : XFunc} {n : Nat} {args : List AVal} {h : Heap} {Q : AVal → Heap → Prop} (hX : X f = some (.body xf)) (hx : xf = eraseF af) (hs : okS (mkT af.ntmps af.ntmps) af.body = true)
    (hp : af.params = (List.range n).map toP) (hn : args.length = n) (hle : n ≤ af.ntmps) (H : FnW X af args h Q) : FnC X f args h Q := by
  subst hx
  have hhas : ∀ i, hasP (toP i) (mkT af.ntmps af.ntmps) = true ↔ i < af.ntmps := fun i => hasP_mkT af.ntmps af.ntmps i (Nat.le_refl _) (i + 1) (by omega)
  have hset : ∀ (l : List AVal) (i : Nat) (t : Tmps), (∀ p, hasP p (setAll l i t) = hasP p t) := by
    intro l
    induction l with
    | nil => intro i t p; rfl
    | cons x l ih => intro i t p; exact (ih (i + 1) (setP (toP i) t x) p).trans (hasP_setP _ _ _ _)
  have hag : ∀ (l : List AVal) (i : Nat) (t : Tmps), i + l.length ≤ af.ntmps → (∀ p, hasP p t = hasP p (mkT af.ntmps af.ntmps)) → (∀ p, (∀ j, i ≤ j → p ≠ toP j) → getP p (setAll l i t) = getP p t) ∧ Agr (zipE ((List.range' i l.length).map toP) l []) (setAll l i t) := by
    intro l
    induction l with
    | nil => intro i t _ _; exact ⟨fun _ _ => rfl, Agr.nil _⟩
    | cons x l ih =>
      intro i t hi ht
      simp only [List.length_cons] at hi
      obtain ⟨h1, h2⟩ := ih (i + 1) (setP (toP i) t x) (by omega) (fun p => (hasP_setP _ _ _ _).trans (ht p))
      refine ⟨fun p hp => ?_, ?_⟩
      · show getP p (setAll l (i + 1) (setP (toP i) t x)) = _
        rw [h1 p (fun j hj => hp j (by omega)), getP_setP, if_neg (fun hh => hp i (Nat.le_refl _) hh.1.symm)]
      · intro p v hv
        have e1 : zipE ((List.range' i (x :: l).length).map toP) (x :: l) [] = (toP i, x) :: zipE ((List.range' (i + 1) l.length).map toP) l [] := rfl
        rw [e1, look_cons] at hv
        split at hv
        · rename_i hp; subst hp
          simp only [Option.some.injEq] at hv; subst hv
          show getP (toP i) (setAll l (i + 1) (setP (toP i) t x)) = x
          rw [h1 (toP i) (fun j hj hh => by have := toP_inj _ _ hh; omega), getP_setP, if_pos ⟨rfl, by rw [ht]; exact (hhas i).2 (by omega)⟩]
        · exact h2 p v hv
  obtain ⟨_, ag⟩ := hag args 0 (mkT af.ntmps af.ntmps) (by omega) fun _ => rfl
  rw [hn, ← List.range_eq_range', ← hp] at ag
  obtain ⟨k, ex, s', h1, m, e', a, H'⟩ := W_sound (X := X) (mkT af.ntmps af.ntmps) af.body hs (fun p => hset args 0 _ p) ag H
  have hc : ∀ r, results af.results s' = some r → (ex = .normal ∨ ex = .ret) → call X k f args h = some (r, s'.h) := by
    intro r hr hex
    unfold call callX
    rw [hX]
    simp only [eraseF]
    have : Nat.ble (lenL args) af.ntmps = true := by rw [lenL_eq, hn]; exact Nat.ble_eq_true_of_le hle
    rw [this]
    simp only
    have e1 : run X k (erase af.body) ⟨XFunc.enter ⟨af.ntmps, af.results, erase af.body⟩ args, h⟩ = some (ex, s') := h1
    rw [e1]
    rcases hex with rfl | rfl
    · simp only [hr, Option.map_some]
    · simp only [hr, Option.map_some]
  cases ex with
  | normal =>
    obtain ⟨l, hl, hq⟩ := resE_get (h := s'.h) a H'
    exact ⟨k, _, _, hc _ (results_of hl) (.inl rfl), hq⟩
  | exit id => exact H'.elim
  | ret =>
    obtain ⟨l, hl, hq⟩ := resE_get (h := s'.h) a H'
    exact ⟨k, _, _, hc _ (results_of hl) (.inr rfl), hq⟩
end
end Go.Ax
