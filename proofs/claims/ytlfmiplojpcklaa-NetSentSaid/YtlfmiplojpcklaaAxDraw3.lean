/- A region whose order is open: whatever the order, the same end. -/
import Derived.Test.YtlfmiplojpcklaaAxDraw2
set_option linter.unusedSimpArgs false
set_option linter.unusedVariables false
namespace Go.Ax

structure Facts (P : Program) (call : Nat → List AVal → Heap → Option (AVal × Heap)) (ops : Array Oper) (tr : List Rec) (s0 send : St) : Prop where
  stat : AllPre (Stat P ops) [] tr
  win : AllPre Win [] tr
  ok : ∀ r ∈ tr, RecOk call r
  lk : Linked s0 tr send
  fin : ∀ u ∈ tr, ∀ q, u.r = true → u.x.op = .read q → Shut tr u.i ∨ readsAt send.h (pendOf u q) = true
  cover : ∀ i, i < ops.size → ∃ r ∈ tr, r.i = i

def exd (listed : Array Bool) (r : Rec) : Bool := listed.getD r.i false

section
variable {P : Program} {call : Nat → List AVal → Heap → Option (AVal × Heap)} {ops : Array Oper} {tr : List Rec} {s0 send : St}

theorem split_of {r : Rec} (h : r ∈ tr) : ∃ A B, tr = A ++ r :: B := List.append_of_mem h
theorem after_of {A B : List Rec} {r u : Rec} (e : tr = A ++ r :: B) (h : u ∈ B) : ∃ A2 B2, tr = A2 ++ u :: B2 ∧ r ∈ A2 ∧ ∀ x ∈ A, x ∈ A2 := by
  obtain ⟨M, N, rfl⟩ := List.append_of_mem h
  exact ⟨A ++ r :: M, N, by rw [e]; simp, by simp, fun x hx => by simp [hx]⟩
theorem Facts.statAt (F : Facts P call ops tr s0 send) {A B : List Rec} {r : Rec} (e : tr = A ++ r :: B) : Stat P ops A r := by
  have := F.stat.at e; simpa using this
theorem Facts.winAt (F : Facts P call ops tr s0 send) {A B : List Rec} {r : Rec} (e : tr = A ++ r :: B) : Win A r := by
  have := F.win.at e; simpa using this
theorem Facts.inj (F : Facts P call ops tr s0 send) {r u : Rec} (hr : r ∈ tr) (hu : u ∈ tr) (e : r.i = u.i) : r = u := by
  obtain ⟨A, B, h⟩ := split_of hr
  rw [h] at hu
  rcases List.mem_append.1 hu with h1 | h1
  · exact absurd e.symm ((F.statAt h).ne u h1)
  · rcases List.mem_cons.1 h1 with h1 | h1
    · exact h1.symm
    · obtain ⟨A2, B2, h2, h3, _⟩ := after_of h h1
      exact absurd e ((F.statAt h2).ne r h3)

/-- Where the run stands: the operations listed are done; the memory is what it is ahead of the first act that is not. -/
structure Inv (F : Facts P call ops tr s0 send) (φ0 : Emb) (w0 : World) (ds : List Deferred) (listed : Array Bool) (a : Act) (w : World) (φ : Emb) (A C : List Rec) (mid : St) : Prop where
  split : tr = A ++ C
  l1 : Linked s0 A mid
  l2 : Linked mid C send
  done : ∀ k ∈ A, k.act → exd listed k = true
  next : C = [] ∨ ∃ k C', C = k :: C' ∧ k.act ∧ exd listed k = false
  trel : TRel φ (fold (exd listed) tr s0.t) a.tmps
  rel : Rel φ mid.h w
  fr : Fr φ0 s0.h w0 φ mid.h w
  lt : ∀ m ∈ A, ∀ b, m.made b → s0.h.n ≤ m.s.h.n ∧ m.s.h.n < mid.h.n
  wait : ∀ m ∈ A, ∀ b, m.made b → exd listed m = false → φ m.s.h.n = none ∧ mid.h.get m.s.h.n = some b
  inj : ∀ m ∈ A, ∀ m' ∈ A, ∀ b b', m.made b → m'.made b' → m.s.h.n = m'.s.h.n → m.i = m'.i
  closed : ∀ r ∈ tr, exd listed r = true → ∀ p ∈ r.pre, listed.getD p false = true
  defers : a.defers = ds

theorem getD_set (listed : Array Bool) {i : Nat} (hi : i < listed.size) (j : Nat) : (listed.setIfInBounds i true).getD j false = if j = i then true else listed.getD j false := by
  by_cases h : j = i
  · subst h; simp [Array.getD_eq_getD_getElem?, Array.getElem?_setIfInBounds_self_of_lt hi]
  · rw [if_neg h]; simp [Array.getD_eq_getD_getElem?, Array.getElem?_setIfInBounds_ne (Ne.symm h)]

/-- One more is done. -/
theorem Inv.step (F : Facts P call ops tr s0 send) (hcall : CallOk P call) {φ0 : Emb} {w0 : World} {ds : List Deferred} {listed : Array Bool} {a : Act} {w : World} {φ : Emb} {A C : List Rec} {mid : St} (I : Inv F φ0 w0 ds listed a w φ A C mid) (hR0 : Rel φ0 s0.h w0)
    {r : Rec} (hr : r ∈ tr) (hi : r.i < listed.size) (hnot : exd listed r = false) (hpre : ∀ p ∈ r.pre, listed.getD p false = true) {Q : Exit → Act → World → Prop} {K : Act → World → Prop}
    (hK : ∀ a' w' φ' A' C' mid', Inv F φ0 w0 ds (listed.setIfInBounds r.i true) a' w' φ' A' C' mid' → K a' w') : wpOp P ops Q r.i K a w := by
  obtain ⟨Ar, Br, hsp⟩ := split_of hr
  have st := F.statAt hsp
  have wn := F.winAt hsp
  have ro := F.ok r hr
  obtain ⟨o, ho, hco, _, _⟩ := st.op
  obtain ⟨hop, hdst, _⟩ := compOper_some hco
  -- what is done and what is not
  have exd' : ∀ u ∈ tr, exd (listed.setIfInBounds r.i true) u = if u.i = r.i then true else exd listed u := fun u hu => getD_set listed hi u.i
  have exdr : exd (listed.setIfInBounds r.i true) r = true := by rw [exd' r hr, if_pos rfl]
  have exdo : ∀ u ∈ tr, u.i ≠ r.i → exd (listed.setIfInBounds r.i true) u = exd listed u := fun u hu hne => by rw [exd' u hu, if_neg hne]
  have mono : ∀ u ∈ tr, exd listed u = true → exd (listed.setIfInBounds r.i true) u = true := fun u hu h => by rw [exd' u hu]; split <;> simp [h]
  have closed' : ∀ u ∈ tr, exd (listed.setIfInBounds r.i true) u = true → ∀ p ∈ u.pre, (listed.setIfInBounds r.i true).getD p false = true := by
    intro u hu he p hp
    rw [getD_set listed hi]
    split
    · rfl
    · by_cases hu2 : u.i = r.i
      · rw [F.inj hu hr hu2] at hp; exact hpre p hp
      · rw [exdo u hu hu2] at he
        exact I.closed u hu he p hp
  -- an undone one ahead of r, a done one behind it: they keep apart from r
  have before : ∀ u ∈ Ar, exd listed u = false → apartX u.x r.x = true ∧ ¬ (isAct u.x.op = true ∧ (isAct r.x.op = true ∨ isMake r.x.op = true)) := by
    intro u hu he
    rcases st.pair u hu with h | h
    · have := hpre _ h
      rw [exd] at he; rw [he] at this; cases this
    · exact h
  have behind : ∀ u ∈ Br, exd listed u = true → apartX r.x u.x = true := by
    intro u hu he
    obtain ⟨A2, B2, h2, h3, _⟩ := after_of hsp hu
    rcases (F.statAt h2).pair r h3 with h | h
    · have := I.closed u (by rw [hsp]; simp [hu]) he _ h
      rw [exd] at hnot; rw [hnot] at this; cases this
    · exact h.1
  have memA : ∀ u ∈ Ar, u ∈ tr := fun u hu => by rw [hsp]; simp [hu]
  have memB : ∀ u ∈ Br, u ∈ tr := fun u hu => by rw [hsp]; simp [hu]
  have neB : ∀ u ∈ Br, u.i ≠ r.i := by
    intro u hu
    obtain ⟨A2, B2, h2, h3, _⟩ := after_of hsp hu
    exact Ne.symm ((F.statAt h2).ne r h3)
  obtain ⟨sr, lk1, lk2, lk3⟩ := linked_append.1 (hsp ▸ F.lk)
  have hsrt : r.s.t = fold (fun _ => true) Ar s0.t := by rw [lk2]; exact linked_fold lk1 fun x hx => F.ok x (memA x hx)
  let T := fold (exd listed) tr s0.t
  have hT : T = fold (exd listed) Br (fold (exd listed) Ar s0.t) := by
    show fold (exd listed) tr s0.t = _
    rw [hsp, fold_append]
    show fold (exd listed) Br (if exd listed r then _ else _) = _
    rw [hnot]; rfl
  have agree : ∀ q, looks q r.x = true → getP q T = getP q r.s.t := by
    intro q hq
    rw [hT, hsrt]
    have h1 : getP q (fold (exd listed) Br (fold (exd listed) Ar s0.t)) = getP q (fold (fun _ => false) Br (fold (exd listed) Ar s0.t)) := by
      refine fold_agree Br _ _ (fun u hu hne hd => ?_) rfl rfl
      have he : exd listed u = true := by cases h : exd listed u <;> simp [h] at hne ⊢
      have := (apart_of (behind u hu he)).2 q hd
      rw [hq] at this; cases this
    rw [h1, fold_none]
    refine fold_agree Ar _ _ (fun u hu hne hd => ?_) rfl rfl
    have he : exd listed u = false := by cases h : exd listed u <;> simp [h] at hne ⊢
    have := ((apart_of (before u hu he).1).1 q hd).1
    rw [hq] at this; cases this
  obtain ⟨agArgs, agGuard⟩ := agree_of_looks agree
  have hwant : Region.wanted o (yielded ops a.tmps) = r.r := wanted_rel hco I.trel (by rw [← ro.want]; exact agGuard)
  -- the temporaries afterwards
  have tnew : ∀ {φ' : Emb} {v' : Value}, φ.le φ' → VRel φ' r.v v' → TRel φ' (fold (exd (listed.setIfInBounds r.i true)) tr s0.t) (a.put o.dst v').tmps := by
    intro φ' v' hle hv
    have h0 := (I.trel.mono hle).put o.dst hv
    rw [← hdst] at h0
    have hT' : fold (exd (listed.setIfInBounds r.i true)) tr s0.t = fold (exd listed) Br (putT (fold (exd listed) Ar s0.t) r.x.dst r.v) := by
      rw [hsp, fold_append]
      show fold _ Br (if exd (listed.setIfInBounds r.i true) r then putT (fold (exd (listed.setIfInBounds r.i true)) Ar s0.t) r.x.dst r.v else _) = _
      rw [exdr, if_pos rfl, fold_congr Ar s0.t fun u hu => exdo u (memA u hu) (st.ne u hu), fold_congr Br _ fun u hu => exdo u (memB u hu) (neB u hu)]
    refine h0.same (fun q => ?_) (fun q => ?_)
    · rw [hT']
      show _ = getP q (putT T r.x.dst r.v)
      rw [hT, getP_putT, hasP_fold]
      by_cases hq : r.x.dst = some q
      · have h1 : ∀ X, getP q (fold (exd listed) Br X) = getP q X := by
          intro X
          have := fold_agree (f := exd listed) (g := fun _ => false) (q := q) Br X X (fun u hu hne hd => ?_) rfl rfl
          · rw [fold_none] at this; exact this
          · have he : exd listed u = true := by cases h : exd listed u <;> simp [h] at hne ⊢
            exact ((apart_of (behind u hu he)).1 q hq).2 hd
        rw [h1, h1, getP_putT]
      · rw [if_neg (fun h => hq h.1)]
        refine fold_agree Br _ _ (fun u hu hne => absurd rfl hne) ?_ (hasP_putT _ _ _ _)
        rw [getP_putT, if_neg (fun h => hq h.1)]
    · rw [hT']
      show _ = hasP q (putT T r.x.dst r.v)
      rw [hT]
      simp only [hasP_fold, hasP_putT]
  -- where nothing but the temporaries (and the embedding) moves
  have stay : ∀ {φ' : Emb} {w' : World} {v' : Value}, ¬ r.act → VRel φ' r.v v' → φ.le φ' → Rel φ' mid.h w' → Fr φ0 s0.h w0 φ' mid.h w' → (∀ m ∈ A, ∀ b, m.made b → exd (listed.setIfInBounds r.i true) m = false → φ' m.s.h.n = none) → K (a.put o.dst v') w' := by
    intro φ' w' v' hna hv hle hrel hfr hnone
    refine hK _ _ φ' A C mid ⟨I.split, I.l1, I.l2, fun k hk ha => mono k (by rw [I.split]; simp [hk]) (I.done k hk ha), ?_, tnew hle hv, hrel, hfr, I.lt, fun m hm b hb he => ⟨hnone m hm b hb he, ?_⟩, I.inj, closed', by rw [put_defers]; exact I.defers⟩
    · rcases I.next with h | ⟨k, C', h, ha, he⟩
      · exact .inl h
      · refine .inr ⟨k, C', h, ha, ?_⟩
        have hk : k ∈ tr := by rw [I.split, h]; simp
        rw [exdo k hk, he]
        intro hh
        rw [F.inj hk hr hh] at ha
        exact hna ha
    · have hmt : m ∈ tr := by rw [I.split]; simp [hm]
      refine (I.wait m hm b hb ?_).2
      cases h : exd listed m with
      | false => rfl
      | true => rw [mono m hmt h] at he; cases he
  have unl : ∀ m ∈ A, exd (listed.setIfInBounds r.i true) m = false → exd listed m = false := by
    intro m hm he
    have hmt : m ∈ tr := by rw [I.split]; simp [hm]
    cases h : exd listed m with
    | false => rfl
    | true => rw [mono m hmt h] at he; cases he
  -- in the same memory, by a law on one operation
  have same : ¬ r.act → r.r = true → OpOk P φ a mid.h w o.op r.v mid.h → wpOp P ops Q r.i K a w := by
    intro hna hrr hk
    unfold wpOp
    simp only [ho, hwant, hrr, if_true]
    refine .inl (hk _ _ o.dst o.type o.pos o.after o.guard fun v' φ' w' r1 r2 r3 => ?_)
    refine stay hna r1 r3.le r2 (Fr.trans hR0 I.fr r3) fun m hm b hb he => ?_
    have h1 := (I.wait m hm b hb (unl m hm he)).1
    have h2 := (I.lt m hm b hb).2
    cases h3 : φ' m.s.h.n with
    | none => rfl
    | some e =>
      rcases r3.new _ _ h3 with h4 | ⟨h4, _⟩
      · rw [h1] at h4; cases h4
      · omega
  cases hrr : r.r with
  | false =>
    unfold wpOp
    simp only [ho, hwant, hrr, Bool.false_eq_true, if_false]
    have hv := (ro.skip hrr).2
    refine stay (fun h => by rw [h.1] at hrr; cases hrr) (by rw [hv]; exact VRel.und φ) (Emb.le_refl φ) I.rel I.fr fun m hm b hb he => (I.wait m hm b hb (unl m hm he)).1
  | true =>
    cases hxo : r.x.op with
    | pure p =>
      refine same (fun h => by obtain ⟨_, y, h⟩ := h; rw [hxo] at h; cases h) hrr ?_
      refine OpOk.of_pure (pure_sound I.trel (by rw [hop, hxo]) ?_) I.rel
      rw [← ro.pure p hrr hxo]
      refine runPure_congr p ?_
      have := agArgs; rw [hxo] at this; exact this
    | read q =>
      refine same (fun h => by obtain ⟨_, y, h⟩ := h; rw [hxo] at h; cases h) hrr ?_
      refine read_sound I.trel I.rel (by rw [hop, hxo]) ?_
      have ag : Agree T r.s.t (readArgs q) := by have := agArgs; rw [hxo] at this; exact this
      rw [runRead_congr q ag]
      -- the memory as it stands answers as the one order's did
      rcases I.next with hC | ⟨k, C', hC, hka, hke⟩
      · -- all acts are done
        have hmid : mid = send := by have := I.l2; rw [hC] at this; exact this
        rcases F.fin r hr q hrr hxo with ⟨k, hk, hka, hin⟩ | h
        · have hkA : k ∈ A := by rw [I.split, hC, List.append_nil] at hk; exact hk
          have := I.closed k hk (I.done k hkA hka) _ hin
          rw [exd] at hnot; rw [hnot] at this; cases this
        · rw [hmid]; exact readsAt_some h
      · have hks : k.s = mid := by have := I.l2; rw [hC] at this; exact this.1
        have hkt : k ∈ tr := by rw [I.split, hC]; simp
        have hksp : tr = A ++ k :: C' := by rw [I.split, hC]
        have hne : k.i ≠ r.i := fun e => by
          rw [F.inj hkt hr e] at hka
          obtain ⟨_, y, h⟩ := hka; rw [hxo] at h; cases h
        have hrin := hr
        rw [hksp] at hrin
        rcases List.mem_append.1 hrin with h1 | h1
        · -- r stands ahead of the next act
          obtain ⟨hk1, y, hk2⟩ := hka
          rcases (F.winAt hksp).old y hk1 hk2 r h1 q hrr hxo with ⟨k2, hk2A, hk2a, hin⟩ | h
          · have := I.closed k2 (by rw [I.split]; simp [hk2A]) (I.done k2 hk2A hk2a) _ hin
            rw [exd] at hnot; rw [hnot] at this; cases this
          · rw [← hks]; exact readsAt_some h
        · rcases List.mem_cons.1 h1 with h1 | h1
          · exact absurd (congrArg Rec.i h1).symm hne
          · -- r stands behind an act that is not done
            obtain ⟨A2, B2, h2, h3, _⟩ := after_of hksp h1
            rcases (F.winAt h2).read q hrr hxo k h3 hka with h | h
            · have := hpre _ h
              rw [exd] at hke; rw [hke] at this; cases this
            · rw [← hks]; exact readsAt_some h
    | make m =>
      obtain ⟨b, hmk, _⟩ := ro.make m hrr hxo
      have hmade : r.made b := ⟨hrr, m, hxo, hmk⟩
      -- it stands ahead of the next act
      have hrA : r ∈ A := by
        rcases I.next with hC | ⟨k, C', hC, hka, hke⟩
        · have := hr; rw [I.split, hC, List.append_nil] at this; exact this
        · have hksp : tr = A ++ k :: C' := by rw [I.split, hC]
          have hkt : k ∈ tr := by rw [hksp]; simp
          have hrin := hr
          rw [hksp] at hrin
          rcases List.mem_append.1 hrin with h1 | h1
          · exact h1
          · rcases List.mem_cons.1 h1 with h1 | h1
            · rw [← h1] at hka; obtain ⟨_, y, h⟩ := hka; rw [hxo] at h; cases h
            · obtain ⟨A2, B2, h2, h3, _⟩ := after_of hksp h1
              rcases (F.statAt h2).pair k h3 with h | h
              · have := hpre _ h
                rw [exd] at hke; rw [hke] at this; cases this
              · obtain ⟨_, y, hy⟩ := hka
                exact absurd ⟨by rw [hy]; rfl, .inr (by rw [hxo]; rfl)⟩ h.2
      obtain ⟨hnone, hget⟩ := I.wait r hrA b hmade hnot
      have hlt := I.lt r hrA b hmade
      have ag : Agree T r.s.t (makeArgs m) := by have := agArgs; rw [hxo] at this; exact this
      have hmk' : runMake T r.s.h.n m = some (r.v, b) := by rw [runMake_congr m ag]; exact hmk
      obtain ⟨v', ob, N, w', hrun, hw, h1, h2, h3, hrel, _⟩ := make_sound (w := w) I.trel (by rw [hop, hxo]) hmk'
      have hle : φ.le (φ.upd r.s.h.n ⟨w.heap.size, 0, N⟩) := fun c e hc => by
        unfold Emb.upd
        rw [if_neg (fun e' => by rw [e', hnone] at hc; cases hc)]; exact hc
      obtain ⟨hv, hblk⟩ := hrel _ hle (Emb.upd_self _ _ _)
      unfold wpOp
      simp only [ho, hwant, hrr, if_true]
      refine .inl ?_
      unfold Oper.wp
      have hrun' := hrun o.dst o.type o.pos o.after o.guard
      rw [show execOp a.eval o = execOp a.eval { dst := o.dst, op := o.op, type := o.type, pos := o.pos, after := o.after, guard := o.guard } from rfl, hrun']
      refine stay (fun h => by obtain ⟨_, y, h⟩ := h; rw [hxo] at h; cases h) hv hle (I.rel.fillU hlt.2 hnone hget hw hblk) (I.fr.fillU hlt.1 hnone hw h1 h2 h3) fun m' hm' b' hb' he => ?_
      have hne : m'.s.h.n ≠ r.s.h.n := fun e => by
        have := I.inj m' hm' r hrA b' b hb' hmade e
        have hm't : m' ∈ tr := by rw [I.split]; simp [hm']
        rw [F.inj hm't hr this, exdr] at he; cases he
      show (if m'.s.h.n = r.s.h.n then _ else φ m'.s.h.n) = none
      rw [if_neg hne]
      exact (I.wait m' hm' b' hb' (unl m' hm' he)).1
    | act y =>
      have hra : r.act := ⟨hrr, y, hxo⟩
      -- it is the next act
      have hC : ∃ C', C = r :: C' := by
        rcases I.next with hC | ⟨k, C', hC, hka, hke⟩
        · have hrA : r ∈ A := by have := hr; rw [I.split, hC, List.append_nil] at this; exact this
          have := I.done r hrA hra
          rw [hnot] at this; cases this
        · have hksp : tr = A ++ k :: C' := by rw [I.split, hC]
          have hrin := hr
          rw [hksp] at hrin
          rcases List.mem_append.1 hrin with h1 | h1
          · have := I.done r h1 hra
            rw [hnot] at this; cases this
          · rcases List.mem_cons.1 h1 with h1 | h1
            · exact ⟨C', by rw [hC, h1]⟩
            · obtain ⟨A2, B2, h2, h3, _⟩ := after_of hksp h1
              rcases (F.statAt h2).pair k h3 with h | h
              · have := hpre _ h
                rw [exd] at hke; rw [hke] at this; cases this
              · obtain ⟨_, y', hy'⟩ := hka
                exact absurd ⟨by rw [hy']; rfl, .inl (by rw [hxo]; rfl)⟩ h.2
      obtain ⟨C', rfl⟩ := hC
      obtain ⟨hs, hl2⟩ := I.l2
      have ag : Agree T r.s.t (actArgs y) := by have := agArgs; rw [hxo] at this; exact this
      have hact : runAct call T mid.h y = some (r.v, r.n.h) := by rw [runAct_congr y ag, ← hs]; exact ro.act y hrr hxo
      have hok := act_all hcall I.trel I.rel (by rw [hop, hxo]) hact
      unfold wpOp
      simp only [ho, hwant, hrr, if_true]
      refine .inl (hok _ _ o.dst o.type o.pos o.after o.guard fun v' φ' w' r1 r2 r3 => ?_)
      obtain ⟨M, C2, hMC, hMna, hC2⟩ := split_act C'
      rw [hMC] at hl2
      obtain ⟨mid', hlM, hlC⟩ := linked_append.1 hl2
      have hsp2 : tr = A ++ r :: C' := I.split
      have inM : ∀ m ∈ M, m ∈ C' := fun m hm => by rw [hMC]; simp [hm]
      have inT : ∀ u ∈ C', u ∈ tr := fun u hu => by rw [hsp2]; simp [hu]
      have qt := quiet M r.n mid' hlM (fun u hu => F.ok u (inT u (inM u hu))) hMna
      -- an act behind r is not done; nor is a make
      have undone : ∀ u ∈ C', (isAct u.x.op = true ∨ isMake u.x.op = true) → exd listed u = false := by
        intro u hu hh
        cases he : exd listed u with
        | false => rfl
        | true =>
          obtain ⟨A2, B2, h2, h3, _⟩ := after_of hsp2 hu
          rcases (F.statAt h2).pair r h3 with h | h
          · have := I.closed u (inT u hu) he _ h
            rw [exd] at hnot; rw [hnot] at this; cases this
          · exact absurd ⟨by rw [hxo]; rfl, hh⟩ h.2
      have neC : ∀ u ∈ C', u.i ≠ r.i := by
        intro u hu
        obtain ⟨A2, B2, h2, h3, _⟩ := after_of hsp2 hu
        exact Ne.symm ((F.statAt h2).ne r h3)
      have hAt : ∀ u ∈ A, u ∈ tr := fun u hu => by rw [hsp2]; simp [hu]
      have hn := r3.n
      have hnA : ∀ m ∈ A, ∀ b, m.made b → exd listed m = false → φ' m.s.h.n = none ∧ r.n.h.get m.s.h.n = some b := by
        intro m hm b hb he
        refine ⟨?_, ?_⟩
        · have h1 := (I.wait m hm b hb he).1
          have h2 := (I.lt m hm b hb).2
          cases h3 : φ' m.s.h.n with
          | none => rfl
          | some e =>
            rcases r3.new _ _ h3 with h4 | ⟨h4, _⟩
            · rw [h1] at h4; cases h4
            · omega
        · obtain ⟨hb1, mk, hb2, hb3⟩ := hb
          rcases (F.winAt hsp2).made y hrr hxo m hm mk b hb1 hb2 hb3 with ⟨k2, hk2A, hk2a, hin⟩ | h | h
          · have := I.closed k2 (hAt k2 hk2A) (I.done k2 hk2A hk2a) _ hin
            rw [exd] at he; rw [he] at this; cases this
          · have := hpre _ h
            rw [exd] at he; rw [he] at this; cases this
          · exact madeAt_some h
      refine hK _ _ φ' (A ++ r :: M) C2 mid' ⟨by rw [hsp2, hMC]; simp, linked_append.2 ⟨mid, I.l1, hs, hlM⟩, hlC, ?_, ?_, tnew r3.le r1, qt.rel _ _ r2, qt.fr _ _ _ _ _ (Fr.trans hR0 I.fr r3), ?_, ?_, ?_, closed', by rw [put_defers]; exact I.defers⟩
      · intro k hk ha
        rcases List.mem_append.1 hk with h | h
        · exact mono k (hAt k h) (I.done k h ha)
        · rcases List.mem_cons.1 h with h | h
          · rw [h]; exact exdr
          · exact absurd ha (hMna k h)
      · rcases hC2 with h | ⟨k, C3, h, ha⟩
        · exact .inl h
        · refine .inr ⟨k, C3, h, ha, ?_⟩
          have hkC : k ∈ C' := by rw [hMC, h]; simp
          rw [exdo k (inT k hkC) (neC k hkC)]
          obtain ⟨_, y', hy'⟩ := ha
          exact undone k hkC (.inl (by rw [hy']; rfl))
      · intro m hm b hb
        rcases List.mem_append.1 hm with h | h
        · have := I.lt m h b hb; have := qt.n; omega
        · rcases List.mem_cons.1 h with h | h
          · rw [h] at hb; obtain ⟨_, mk, h5, _⟩ := hb; rw [hxo] at h5; cases h5
          · have := qt.news m h b hb
            have := I.fr.n
            omega
      · intro m hm b hb he
        rcases List.mem_append.1 hm with h | h
        · obtain ⟨h5, h6⟩ := hnA m h b hb (unl m h he)
          refine ⟨h5, ?_⟩
          rw [qt.get _ (by have := (I.lt m h b hb).2; omega)]; exact h6
        · rcases List.mem_cons.1 h with h | h
          · rw [h, exdr] at he; cases he
          · obtain ⟨h5, h6, h7⟩ := qt.news m h b hb
            refine ⟨?_, h7⟩
            cases h8 : φ' m.s.h.n with
            | none => rfl
            | some e => have := (r2.dom _ _ h8).1; omega
      · intro m hm m' hm' b b' hb hb' he
        rcases List.mem_append.1 hm with h | h
        · rcases List.mem_append.1 hm' with h' | h'
          · exact I.inj m h m' h' b b' hb hb' he
          · rcases List.mem_cons.1 h' with h' | h'
            · rw [h'] at hb'; obtain ⟨_, mk, h5, _⟩ := hb'; rw [hxo] at h5; cases h5
            · have := (I.lt m h b hb).2
              have := (qt.news m' h' b' hb').1
              omega
        · rcases List.mem_cons.1 h with h | h
          · rw [h] at hb; obtain ⟨_, mk, h5, _⟩ := hb; rw [hxo] at h5; cases h5
          · rcases List.mem_append.1 hm' with h' | h'
            · have := (I.lt m' h' b' hb').2
              have := (qt.news m h b hb).1
              omega
            · rcases List.mem_cons.1 h' with h' | h'
              · rw [h'] at hb'; obtain ⟨_, mk, h5, _⟩ := hb'; rw [hxo] at h5; cases h5
              · exact qt.inj m h m' h' b b' hb hb' he
end
end Go.Ax
