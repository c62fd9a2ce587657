/- A region whose order is open: what is fixed, what keeps apart, what moves the memory along. -/
import Derived.Test.YtlfmiplojpcklaaAxDraw
set_option linter.unusedSimpArgs false
set_option linter.unusedVariables false
namespace Go.Ax

/-! ### What is fixed -/
structure Stat (P : Program) (ops : Array Oper) (A : List Rec) (r : Rec) : Prop where
  op : ∃ o, ops[r.i]? = some o ∧ compOper P ops o = some r.x ∧ (∀ d ∈ directs o, ∃ u ∈ A, u.i = d) ∧ ∀ p ∈ r.pre, p ∈ directs o ∨ ∃ u ∈ A, u.i ∈ directs o ∧ p ∈ u.pre
  ne : ∀ u ∈ A, u.i ≠ r.i
  pair : ∀ u ∈ A, u.i ∈ r.pre ∨ (apartX u.x r.x = true ∧ ¬ (isAct u.x.op = true ∧ (isAct r.x.op = true ∨ isMake r.x.op = true)))

theorem beq_iff (a b : Nat) : Nat.beq a b = true ↔ a = b := ⟨Nat.eq_of_beq_eq_true, fun h => by rw [h]; exact Nat.beq_refl b⟩
theorem stat_of {P : Program} {ops : Array Oper} : ∀ (tr A : List Rec), goodOrder ops (A.map (·.e)) (tr.map (·.e)) = true → (∀ r ∈ tr, ∃ o, ops[r.i]? = some o ∧ compOper P ops o = some r.x) → AllPre (Stat P ops) A tr := by
  intro tr
  induction tr with
  | nil => intro A _ _; trivial
  | cons r tr ih =>
    intro A h hc
    rw [List.map_cons] at h
    simp only [goodOrder, Bool.and_eq_true] at h
    obtain ⟨⟨h1, h2⟩, h3⟩ := h
    obtain ⟨o, ho, hx⟩ := hc r (by simp)
    have ho' : ops[r.e.1]? = some o := ho
    rw [ho'] at h1
    simp only [Bool.and_eq_true] at h1
    obtain ⟨h1, h4⟩ := h1
    rw [List.all_eq_true] at h1 h2 h4
    refine ⟨⟨⟨o, ho, hx, fun d hd => ?_, fun p hp => ?_⟩, fun u hu => ?_, fun u hu => ?_⟩, ?_⟩
    · obtain ⟨u, hu, he⟩ := List.any_eq_true.1 (h1 d hd)
      obtain ⟨u', hu', rfl⟩ := List.mem_map.1 hu
      exact ⟨u', hu', (beq_iff _ _).1 he⟩
    · have := h4 p hp
      rw [Bool.or_eq_true] at this
      rcases this with h | h
      · obtain ⟨d, hd, he⟩ := List.any_eq_true.1 h
        rw [(beq_iff _ _).1 he] at hd; exact .inl hd
      · obtain ⟨u, hu, he⟩ := List.any_eq_true.1 h
        obtain ⟨u', hu', rfl⟩ := List.mem_map.1 hu
        rw [Bool.and_eq_true] at he
        obtain ⟨d, hd, hd2⟩ := List.any_eq_true.1 he.1
        rw [(beq_iff _ _).1 hd2] at hd
        exact .inr ⟨u', hu', hd, (hasN_eq _ _).1 he.2⟩
    · have := h2 u.e (List.mem_map.2 ⟨u, hu, rfl⟩)
      simp only [goodPair, Bool.and_eq_true, Bool.not_eq_true'] at this
      intro e
      have h5 : Nat.beq u.e.1 r.e.1 = true := (beq_iff _ _).2 e
      rw [this.1] at h5; cases h5
    · have := h2 u.e (List.mem_map.2 ⟨u, hu, rfl⟩)
      simp only [goodPair, Bool.and_eq_true, Bool.or_eq_true, Bool.not_eq_true', hasN_eq] at this
      rcases this.2 with h | ⟨h5, h6⟩
      · exact .inl h
      · refine .inr ⟨h5, fun hh => ?_⟩
        have h7 : (isAct u.e.2.1.op && (isAct r.e.2.1.op || isMake r.e.2.1.op)) = true := by
          rw [Bool.and_eq_true, Bool.or_eq_true]; exact hh
        rw [h6] at h7; cases h7
    · refine ih (A ++ [r]) (by simpa using h3) fun u hu => hc u (by simp [hu])

theorem apart_of {u v : XOper} (h : apartX u v = true) : (∀ d, u.dst = some d → looks d v = false ∧ v.dst ≠ some d) ∧ ∀ e, v.dst = some e → looks e u = false := by
  unfold apartX at h
  rw [Bool.and_eq_true] at h
  obtain ⟨h1, h2⟩ := h
  refine ⟨fun d hd => ?_, fun e he => ?_⟩
  · rw [hd] at h1
    simp only [Bool.and_eq_true, Bool.not_eq_true'] at h1
    refine ⟨h1.1, fun he => ?_⟩
    rw [he] at h1
    have h3 := h1.2
    simp only [Bool.not_eq_true'] at h3
    rw [(samePath_eq d d).2 rfl] at h3; cases h3
  · rw [he] at h2
    simpa using h2

/-! ### Temporaries -/
noncomputable def fold (f : Rec → Bool) (l : List Rec) (t : Tmps) : Tmps := l.foldl (fun t r => if f r then putT t r.x.dst r.v else t) t
theorem hasP_putT (q : Path) (t : Tmps) (d : Option Path) (v : AVal) : hasP q (putT t d v) = hasP q t := by
  cases d with
  | none => rfl
  | some p => exact hasP_setP p q t v
theorem getP_putT (q : Path) (t : Tmps) (d : Option Path) (v : AVal) : getP q (putT t d v) = if d = some q ∧ hasP q t = true then v else getP q t := by
  cases d with
  | none => simp [putT]
  | some p =>
    show getP q (setP p t v) = _
    rw [getP_setP]
    by_cases h : p = q
    · subst h; simp
    · simp [h]
theorem hasP_fold (f : Rec → Bool) (q : Path) : ∀ (l : List Rec) (t : Tmps), hasP q (fold f l t) = hasP q t := by
  intro l
  induction l with
  | nil => intro t; rfl
  | cons r l ih =>
    intro t
    show hasP q (fold f l (if f r then putT t r.x.dst r.v else t)) = _
    rw [ih]
    split
    · exact hasP_putT _ _ _ _
    · rfl
theorem fold_agree {f g : Rec → Bool} {q : Path} : ∀ (l : List Rec) (t u : Tmps), (∀ r ∈ l, f r ≠ g r → r.x.dst ≠ some q) → getP q t = getP q u → hasP q t = hasP q u → getP q (fold f l t) = getP q (fold g l u) := by
  intro l
  induction l with
  | nil => intro t u _ h _; exact h
  | cons r l ih =>
    intro t u hd h hh
    show getP q (fold f l (if f r then putT t r.x.dst r.v else t)) = getP q (fold g l (if g r then putT u r.x.dst r.v else u))
    refine ih _ _ (fun x hx => hd x (by simp [hx])) ?_ ?_
    · by_cases e : f r = g r
      · rw [e]
        split
        · rw [getP_putT, getP_putT, h, hh]
        · exact h
      · have := hd r (by simp) e
        cases hf : f r <;> cases hg : g r <;> simp [hf, hg] at e ⊢
        · rw [getP_putT, if_neg (fun hh => this hh.1)]; exact h
        · rw [getP_putT, if_neg (fun hh => this hh.1)]; exact h
    · split <;> split <;> simp only [hasP_putT, hh]
theorem fold_none (l : List Rec) (t : Tmps) : fold (fun _ => false) l t = t := by
  induction l with
  | nil => rfl
  | cons r l ih => exact ih
theorem fold_append (f : Rec → Bool) (l m : List Rec) (t : Tmps) : fold f (l ++ m) t = fold f m (fold f l t) := by simp [fold]
theorem fold_congr {f g : Rec → Bool} : ∀ (l : List Rec) (t : Tmps), (∀ r ∈ l, f r = g r) → fold f l t = fold g l t := by
  intro l
  induction l with
  | nil => intro t _; rfl
  | cons r l ih =>
    intro t h
    show fold f l (if f r then putT t r.x.dst r.v else t) = fold g l (if g r then putT t r.x.dst r.v else t)
    rw [h r (by simp)]
    exact ih _ fun x hx => h x (by simp [hx])
theorem TRel.same {φ : Emb} {t u : Tmps} {tm : Array Value} (h : TRel φ t tm) (hg : ∀ q, getP q u = getP q t) (hh : ∀ q, hasP q u = hasP q t) : TRel φ u tm :=
  ⟨fun i => by rw [hg]; exact h.rel i, fun i => by rw [hh]; exact h.has i⟩

theorem linked_append : ∀ {A B : List Rec} {s s' : St}, Linked s (A ++ B) s' ↔ ∃ m, Linked s A m ∧ Linked m B s' := by
  intro A
  induction A with
  | nil => intro B s s'; exact ⟨fun h => ⟨s, rfl, h⟩, fun ⟨m, h1, h2⟩ => by have h1 : s = m := h1; subst h1; exact h2⟩
  | cons r A ih =>
    intro B s s'
    constructor
    · rintro ⟨h1, h2⟩
      obtain ⟨m, h3, h4⟩ := ih.1 h2
      exact ⟨m, ⟨h1, h3⟩, h4⟩
    · rintro ⟨m, ⟨h1, h3⟩, h4⟩
      exact ⟨h1, ih.2 ⟨m, h3, h4⟩⟩
theorem linked_fold {call : Nat → List AVal → Heap → Option (AVal × Heap)} : ∀ {A : List Rec} {s m : St}, Linked s A m → (∀ r ∈ A, RecOk call r) → m.t = fold (fun _ => true) A s.t := by
  intro A
  induction A with
  | nil => intro s m h _; have h : s = m := h; rw [h]; rfl
  | cons r A ih =>
    intro s m h hok
    obtain ⟨h1, h2⟩ := h
    rw [ih h2 fun x hx => hok x (by simp [hx]), (hok r (by simp)).nt, h1]
    rfl

/-! ### Memory -/
/-- A block that the true memory does not hold yet. -/
theorem Rel.pushU {φ : Emb} {h : Heap} {w : World} (hR : Rel φ h w) {x : Blk} (hl : NewOk h.n x) : Rel φ (h.push x) w := by
  have go : ∀ b e, φ b = some e → (h.push x).get b = h.get b := fun b e hb => by
    rw [Heap.get_push, if_neg (by have := (hR.dom b e hb).1; omega)]
  refine ⟨fun b e hb => ?_, fun b e y hb hy => ?_, fun b b' e e' y y' hb hb' hy hy' => ?_, hR.inv.push hl⟩
  · have := hR.dom b e hb; exact ⟨by show b < h.n + 1; omega, this.2⟩
  · rw [go b e hb] at hy; exact hR.blk b e y hb hy
  · rw [go b e hb] at hy; rw [go b' e' hb'] at hy'
    exact hR.sep b b' e e' y y' hb hb' hy hy'
theorem Fr.pushU {φ0 φ : Emb} {h0 h : Heap} {w0 w : World} (f : Fr φ0 h0 w0 φ h w) (x : Blk) : Fr φ0 h0 w0 φ (h.push x) w := by
  refine ⟨f.os, f.tape, f.output, f.size, f.le, ?_, f.keep, fun b cs l hb => ?_, f.new⟩
  · have := f.n; show h0.n ≤ h.n + 1; omega
  · have h1 := f.ro b cs l hb
    rw [Heap.get_push, if_neg (by have := Heap.get_lt h1; omega)]; exact h1
/-- The true memory comes to hold a block that stands ready. -/
theorem Rel.fillU {φ : Emb} {h : Heap} {w w' : World} (hR : Rel φ h w) {b : Nat} {x : Blk} {o : Obj} {N : Nat} (hlt : b < h.n) (hnone : φ b = none) (hx : h.get b = some x) (hw : w'.heap = w.heap.push o)
    (hblk : BlkOk (φ.upd b ⟨w.heap.size, 0, N⟩) w' ⟨w.heap.size, 0, N⟩ x) : Rel (φ.upd b ⟨w.heap.size, 0, N⟩) h w' := by
  have old : ∀ B, B < w.heap.size → w'.heap[B]? = w.heap[B]? := fun B hB => by rw [hw, Array.getElem?_push, if_neg (by omega)]
  have hle : φ.le (φ.upd b ⟨w.heap.size, 0, N⟩) := fun c e hc => by
    unfold Emb.upd
    rw [if_neg (fun e' => by rw [e', hnone] at hc; cases hc)]; exact hc
  refine ⟨?_, ?_, ?_, hR.inv⟩
  · intro c e hc
    rw [hw, Array.size_push]
    rcases upd_inv hc with ⟨rfl, rfl⟩ | ⟨h1, h2⟩
    · exact ⟨hlt, by simp⟩
    · have := hR.dom c e h2; exact ⟨this.1, by omega⟩
  · intro c e y hc hy
    rcases upd_inv hc with ⟨rfl, rfl⟩ | ⟨h1, h2⟩
    · rw [hx] at hy; simp only [Option.some.injEq] at hy; subst hy; exact hblk
    · exact ((hR.blk c e y h2 hy).mono hle).at (old _ (hR.dom c e h2).2)
  · intro c c' e e' y y' hc hc' hy hy' hl1 hl2 heq hne
    rcases upd_inv hc with ⟨rfl, rfl⟩ | ⟨h1, h2⟩
    · rcases upd_inv hc' with ⟨rfl, rfl⟩ | ⟨h1', h2'⟩
      · exact absurd rfl hne
      · have := (hR.dom c' e' h2').2; simp only at heq; omega
    · rcases upd_inv hc' with ⟨rfl, rfl⟩ | ⟨h1', h2'⟩
      · have := (hR.dom c e h2).2; simp only at heq; omega
      · exact hR.sep c c' e e' y y' h2 h2' hy hy' hl1 hl2 heq hne
theorem Fr.fillU {φ0 φ : Emb} {h0 h : Heap} {w0 w w' : World} (f : Fr φ0 h0 w0 φ h w) {b : Nat} {o : Obj} {N : Nat} (hb : h0.n ≤ b) (hnone : φ b = none) (hw : w'.heap = w.heap.push o) (h1 : w'.os = w.os) (h2 : w'.tape = w.tape) (h3 : w'.output = w.output) :
    Fr φ0 h0 w0 (φ.upd b ⟨w.heap.size, 0, N⟩) h w' := by
  have hle : φ.le (φ.upd b ⟨w.heap.size, 0, N⟩) := fun c e hc => by
    unfold Emb.upd
    rw [if_neg (fun e' => by rw [e', hnone] at hc; cases hc)]; exact hc
  refine ⟨h1.trans f.os, h2.trans f.tape, h3.trans f.output, by have := f.size; rw [hw, Array.size_push]; omega, Emb.le_trans f.le hle, f.n, fun B hB ht => ?_, f.ro, fun c e hc => ?_⟩
  · rw [hw, Array.getElem?_push, if_neg (by have := f.size; omega)]; exact f.keep B hB ht
  · rcases upd_inv hc with ⟨rfl, rfl⟩ | ⟨g1, g2⟩
    · exact .inr ⟨hb, .inl f.size⟩
    · exact f.new c e g2

theorem runMake_own {t : Tmps} {b : Nat} {m : XMake} {v : AVal} {x : Blk} (h : runMake t b m = some (v, x)) : NewOk b x := by
  cases m
  case alloc z =>
    simp only [runMake, m_alloc, Option.some.injEq, Prod.mk.injEq] at h
    rw [← h.2]; exact ownCells
  case box y =>
    simp only [runMake, m_box] at h
    split at h
    · simp only [Option.some.injEq, Prod.mk.injEq] at h
      rw [← h.2]; exact ownCells
    · cases h
  case buildSlice len esz z ps =>
    simp only [runMake, m_buildSlice] at h
    split at h
    · split at h
      · simp only [Option.some.injEq, Prod.mk.injEq] at h
        rw [← h.2]; exact ownCells
      · cases h
    · cases h
  case makeMap =>
    simp only [runMake, m_makeMap, Option.some.injEq, Prod.mk.injEq] at h
    rw [← h.2]; intro cs md l e; cases e
  case makeSlice esz z l c =>
    simp only [runMake, m_makeSlice] at h
    split at h
    · split at h
      · simp only [Option.some.injEq, Prod.mk.injEq] at h
        rw [← h.2]; exact ownCells
      · cases h
    · cases h
  case iter y =>
    simp only [runMake, m_iter] at h
    split at h
    · simp only [Option.some.injEq, Prod.mk.injEq] at h
      rw [← h.2]; intro cs md l e; cases e
    · cases h

/-- A make that was carried out, with what it made. -/
def Rec.made (r : Rec) (b : Blk) : Prop := r.r = true ∧ ∃ m, r.x.op = .make m ∧ runMake r.s.t r.s.h.n m = some (r.v, b)

structure Quiet (s s' : St) (M : List Rec) : Prop where
  n : s.h.n ≤ s'.h.n
  get : ∀ b, b < s.h.n → s'.h.get b = s.h.get b
  rel : ∀ φ w, Rel φ s.h w → Rel φ s'.h w
  fr : ∀ φ0 h0 w0 φ w, Fr φ0 h0 w0 φ s.h w → Fr φ0 h0 w0 φ s'.h w
  news : ∀ m ∈ M, ∀ b, m.made b → s.h.n ≤ m.s.h.n ∧ m.s.h.n < s'.h.n ∧ s'.h.get m.s.h.n = some b
  inj : ∀ m ∈ M, ∀ m' ∈ M, ∀ b b', m.made b → m'.made b' → m.s.h.n = m'.s.h.n → m.i = m'.i
theorem quiet {call : Nat → List AVal → Heap → Option (AVal × Heap)} : ∀ (M : List Rec) (s s' : St), Linked s M s' → (∀ r ∈ M, RecOk call r) → (∀ r ∈ M, ¬ r.act) → Quiet s s' M := by
  intro M
  induction M with
  | nil =>
    intro s s' h _ _
    have h : s = s' := h
    subst h
    exact ⟨Nat.le_refl _, fun _ _ => rfl, fun _ _ h => h, fun _ _ _ _ _ h => h, by simp, by simp⟩
  | cons r M ih =>
    intro s s' h hok hna
    obtain ⟨h1, h2⟩ := h
    have q := ih r.n s' h2 (fun x hx => hok x (by simp [hx])) (fun x hx => hna x (by simp [hx]))
    have ro := hok r (by simp)
    have hcase : (r.n.h = s.h ∧ ∀ b, ¬ r.made b) ∨ ∃ b, r.made b ∧ r.n.h = s.h.push b := by
      cases hr : r.r with
      | false => exact .inl ⟨by rw [(ro.skip hr).1, h1], fun b hb => by rw [hb.1] at hr; cases hr⟩
      | true =>
        cases hop : r.x.op with
        | pure p =>
          refine .inl ⟨?_, fun b hb => by obtain ⟨_, m, h3, _⟩ := hb; rw [hop] at h3; cases h3⟩
          have := ro.run hr
          rw [hop] at this
          simp only [doOp, ro.pure p hr hop, putV, Option.some.injEq] at this
          rw [← this, h1]
        | read p =>
          refine .inl ⟨?_, fun b hb => by obtain ⟨_, m, h3, _⟩ := hb; rw [hop] at h3; cases h3⟩
          have := ro.run hr
          rw [hop] at this
          simp only [doOp, ro.read p hr hop, putV, Option.some.injEq] at this
          rw [← this, h1]
        | make m =>
          obtain ⟨b, h3, h4⟩ := ro.make m hr hop
          exact .inr ⟨b, ⟨hr, m, hop, h3⟩, by rw [h4, h1]⟩
        | act y => exact absurd ⟨hr, y, hop⟩ (hna r (by simp))
    rcases hcase with ⟨hh, hnm⟩ | ⟨b, hm, hh⟩
    · obtain ⟨q1, q2, q3, q4, q5, q6⟩ := q
      rw [hh] at q1 q2 q3 q4 q5
      refine ⟨q1, q2, q3, q4, fun m hm b hb => ?_, fun m hm m' hm' b b' hb hb' => ?_⟩
      · rcases List.mem_cons.1 hm with rfl | hm
        · exact absurd hb (hnm b)
        · exact q5 m hm b hb
      · rcases List.mem_cons.1 hm with rfl | hm
        · exact absurd hb (hnm b)
        · rcases List.mem_cons.1 hm' with rfl | hm'
          · exact absurd hb' (hnm b')
          · exact q6 m hm m' hm' b b' hb hb'
    · have hown : NewOk s.h.n b := by
        obtain ⟨_, mk, _, h4⟩ := hm
        rw [h1] at h4
        exact runMake_own h4
      have hsn : r.s.h.n = s.h.n := by rw [h1]
      have hpn : (s.h.push b).n = s.h.n + 1 := rfl
      obtain ⟨q1, q2, q3, q4, q5, q6⟩ := q
      rw [hh] at q1 q2 q3 q4 q5
      rw [hpn] at q1 q2 q5
      refine ⟨by omega, fun c hc => by rw [q2 c (by omega), Heap.get_push, if_neg (by omega)], fun φ w hR => q3 φ w (hR.pushU hown), fun φ0 h0 w0 φ w f => q4 _ _ _ _ _ (f.pushU b), fun m hmm b' hb' => ?_, fun m hmm m' hm' b1 b2 hb1 hb2 he => ?_⟩
      · rcases List.mem_cons.1 hmm with rfl | hmm
        · rw [hsn]
          refine ⟨Nat.le_refl _, by omega, ?_⟩
          rw [q2 _ (by omega), Heap.get_push, if_pos rfl]
          obtain ⟨_, m1, g1, g2⟩ := hm
          obtain ⟨_, m2, g3, g4⟩ := hb'
          rw [g1] at g3; simp only [XOp.make.injEq] at g3; subst g3
          rw [g2] at g4; simp only [Option.some.injEq, Prod.mk.injEq, true_and] at g4
          rw [g4]
        · have := q5 m hmm b' hb'
          exact ⟨by omega, this.2.1, this.2.2⟩
      · rcases List.mem_cons.1 hmm with e1 | g1
        · rcases List.mem_cons.1 hm' with e2 | g2
          · rw [e1, e2]
          · have := q5 m' g2 b2 hb2
            rw [e1] at he; omega
        · rcases List.mem_cons.1 hm' with e2 | g2
          · have := q5 m g1 b1 hb1
            rw [e2] at he; omega
          · exact q6 m g1 m' g2 b1 b2 hb1 hb2 he

theorem split_act : ∀ B : List Rec, ∃ M C, B = M ++ C ∧ (∀ m ∈ M, ¬ m.act) ∧ (C = [] ∨ ∃ k C', C = k :: C' ∧ k.act) := by
  intro B
  induction B with
  | nil => exact ⟨[], [], rfl, by simp, .inl rfl⟩
  | cons r B ih =>
    by_cases h : r.act
    · exact ⟨[], r :: B, rfl, by simp, .inr ⟨r, B, rfl, h⟩⟩
    · obtain ⟨M, C, h1, h2, h3⟩ := ih
      refine ⟨r :: M, C, by rw [h1]; rfl, fun m hm => ?_, h3⟩
      rcases List.mem_cons.1 hm with rfl | hm
      · exact h
      · exact h2 m hm

theorem sameMode_eq {a b : Mode} (h : sameMode a b = true) : a = b := by cases a <;> cases b <;> simp_all [sameMode]
theorem sameBlk_eq {x y : Blk} (h : sameBlk x y = true) : x = y := by
  unfold sameBlk at h
  split at h
  · rename_i a m l b m' l'
    simp only [Bool.and_eq_true] at h
    rw [sameL_eq _ _ h.1.1, sameMode_eq h.1.2, Nat.eq_of_beq_eq_true h.2]
  · rfl
  · cases h
theorem madeAt_some {h : Heap} {m : Made} (hm : madeAt h m = true) : h.get m.b = some m.x := by
  unfold madeAt at hm
  split at hm
  · rename_i x e
    rw [e, sameBlk_eq hm]
  · cases hm
theorem readsAt_some {h : Heap} {p : Pend} (hm : readsAt h p = true) : runRead p.t h p.r = some p.v := by
  unfold readsAt at hm
  split at hm
  · rename_i x e
    rw [e, same_eq _ _ hm]
  · cases hm
end Go.Ax
