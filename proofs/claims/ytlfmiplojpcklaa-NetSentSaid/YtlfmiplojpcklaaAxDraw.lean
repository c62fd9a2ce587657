/- A region whose order is open: what the one order told. -/
import Derived.Test.YtlfmiplojpcklaaAxStep
set_option linter.unusedSimpArgs false
set_option linter.unusedVariables false
namespace Go.Ax

/-- One operation as the one order met it: its entry, the state ahead, whether it was wanted, its value, the state behind. -/
structure Rec where
  e : Entry
  s : St
  r : Bool
  v : AVal
  n : St
def Rec.i (r : Rec) : Nat := r.e.1
def Rec.x (r : Rec) : XOper := r.e.2.1
def Rec.pre (r : Rec) : List Nat := r.e.2.2
def Rec.act (r : Rec) : Prop := r.r = true ∧ ∃ a, r.x.op = .act a

structure RecOk (call : Nat → List AVal → Heap → Option (AVal × Heap)) (r : Rec) : Prop where
  want : wanted r.s.t r.x.guard = some r.r
  nt : r.n.t = putT r.s.t r.x.dst r.v
  run : r.r = true → doOp call r.x.dst r.s r.x.op = some r.n
  pure : ∀ p, r.r = true → r.x.op = .pure p → runPure r.s.t p = some r.v
  read : ∀ p, r.r = true → r.x.op = .read p → runRead r.s.t r.s.h p = some r.v
  make : ∀ m, r.r = true → r.x.op = .make m → ∃ b, runMake r.s.t r.s.h.n m = some (r.v, b) ∧ r.n.h = r.s.h.push b
  act : ∀ y, r.r = true → r.x.op = .act y → runAct call r.s.t r.s.h y = some (r.v, r.n.h)
  skip : r.r = false → r.n.h = r.s.h ∧ r.v = und
def Linked : St → List Rec → St → Prop
  | s, [], s' => s = s'
  | s, r :: rs, s' => r.s = s ∧ Linked r.n rs s'

def pendOf (r : Rec) (q : XRead) : Pend := ⟨r.i, r.s.t, q, r.v⟩
/-- An act that waited for it is among them. -/
def Shut (A : List Rec) (i : Nat) : Prop := ∃ k ∈ A, k.act ∧ i ∈ k.pre
structure Win (A : List Rec) (r : Rec) : Prop where
  read : ∀ q, r.r = true → r.x.op = .read q → ∀ k ∈ A, k.act → k.i ∈ r.pre ∨ readsAt k.s.h (pendOf r q) = true
  old : ∀ y, r.r = true → r.x.op = .act y → ∀ u ∈ A, ∀ q, u.r = true → u.x.op = .read q → Shut A u.i ∨ readsAt r.s.h (pendOf u q) = true
  made : ∀ y, r.r = true → r.x.op = .act y → ∀ u ∈ A, ∀ m b, u.r = true → u.x.op = .make m → runMake u.s.t u.s.h.n m = some (u.v, b) → Shut A u.i ∨ u.i ∈ r.pre ∨ madeAt r.n.h ⟨u.i, u.s.h.n, b⟩ = true

/-- Of each one and those ahead of it. -/
def AllPre (Φ : List Rec → Rec → Prop) : List Rec → List Rec → Prop
  | _, [] => True
  | A, r :: B => Φ A r ∧ AllPre Φ (A ++ [r]) B
theorem AllPre.at {Φ : List Rec → Rec → Prop} : ∀ {L A : List Rec}, AllPre Φ A L → ∀ {A' : List Rec} {r : Rec} {B : List Rec}, L = A' ++ r :: B → Φ (A ++ A') r := by
  intro L
  induction L with
  | nil => intro A _ A' r B h; simp at h
  | cons x L ih =>
    intro A h A' r B e
    cases A' with
    | nil => simp only [List.nil_append, List.cons.injEq] at e; rw [← e.1, List.append_nil]; exact h.1
    | cons y A' =>
      simp only [List.cons_append, List.cons.injEq] at e
      have := ih h.2 e.2
      rw [← e.1]; simpa using this
theorem AllPre.and {Φ Ψ : List Rec → Rec → Prop} : ∀ {L A : List Rec}, AllPre Φ A L → AllPre Ψ A L → AllPre (fun A r => Φ A r ∧ Ψ A r) A L
  | [], _, _, _ => trivial
  | _ :: _, _, h, k => ⟨⟨h.1, k.1⟩, AllPre.and h.2 k.2⟩

structure PastOk (A : List Rec) (p : Past) : Prop where
  ks : ∀ k ∈ A, k.act → (k.i, k.s.h) ∈ p.ks
  ps : ∀ u ∈ A, ∀ q, u.r = true → u.x.op = .read q → pendOf u q ∈ p.ps ∨ Shut A u.i
  ms : ∀ u ∈ A, ∀ m b, u.r = true → u.x.op = .make m → runMake u.s.t u.s.h.n m = some (u.v, b) → ⟨u.i, u.s.h.n, b⟩ ∈ p.ms ∨ Shut A u.i
theorem Shut.more {A B : List Rec} {i : Nat} (h : Shut A i) : Shut (A ++ B) i := let ⟨k, hk, h1⟩ := h; ⟨k, by simp [hk], h1⟩

theorem PastOk.same {A : List Rec} {p : Past} (h : PastOk A p) {r : Rec} (h1 : r.r = true → (∀ q, r.x.op ≠ .read q) ∧ (∀ m, r.x.op ≠ .make m) ∧ (∀ a, r.x.op ≠ .act a)) : PastOk (A ++ [r]) p := by
  refine ⟨?_, ?_, ?_⟩
  · intro k hk ha
    rcases List.mem_append.1 hk with hk | hk
    · exact h.ks k hk ha
    · obtain rfl : k = r := by simpa using hk
      obtain ⟨h2, a, h3⟩ := ha
      exact absurd h3 ((h1 h2).2.2 a)
  · intro u hu q hr ho
    rcases List.mem_append.1 hu with hu | hu
    · exact (h.ps u hu q hr ho).imp id Shut.more
    · obtain rfl : u = r := by simpa using hu
      exact absurd ho ((h1 hr).1 q)
  · intro u hu m b hr ho hm
    rcases List.mem_append.1 hu with hu | hu
    · exact (h.ms u hu m b hr ho hm).imp id Shut.more
    · obtain rfl : u = r := by simpa using hu
      exact absurd ho ((h1 hr).2.1 m)

theorem draw_trace {call : Nat → List AVal → Heap → Option (AVal × Heap)} : ∀ (L : List Entry) (s s' : St) (p : Past) (A : List Rec), drawOps call L s p = some s' → PastOk A p →
    ∃ tr : List Rec, tr.map (·.e) = L ∧ Linked s tr s' ∧ (∀ r ∈ tr, RecOk call r) ∧ AllPre Win A tr ∧ ∀ u ∈ A ++ tr, ∀ q, u.r = true → u.x.op = .read q → Shut (A ++ tr) u.i ∨ readsAt s'.h (pendOf u q) = true := by
  intro L
  induction L with
  | nil =>
    intro s s' p A h hp
    have h : drawEnd p s = some s' := h
    unfold drawEnd at h
    split at h
    · rename_i hall
      simp only [Option.some.injEq] at h; subst h
      rw [allL_eq] at hall
      refine ⟨[], rfl, rfl, by simp, trivial, fun u hu q hr ho => ?_⟩
      rw [List.append_nil] at hu ⊢
      rcases hp.ps u hu q hr ho with h | h
      · exact .inr (List.all_eq_true.1 hall _ h)
      · exact .inl h
    · cases h
  | cons o L ih =>
    intro s s' p A h hp
    have h : (match wanted s.t o.2.1.guard with
      | none => none
      | some false => drawOps call L ⟨putT s.t o.2.1.dst und, s.h⟩ p
      | some true => (match drawPast call p o.1 o.2.2 s o.2.1.op with | some p' => (match doOp call o.2.1.dst s o.2.1.op with | some s' => drawOps call L s' p' | none => none) | none => none)) = some s' := h
    split at h
    · cases h
    · rename_i hw
      let r : Rec := ⟨o, s, false, und, ⟨putT s.t o.2.1.dst und, s.h⟩⟩
      obtain ⟨tr, h1, h2, h3, h4, h5⟩ := ih _ s' p (A ++ [r]) h (hp.same fun hr => by cases hr)
      refine ⟨r :: tr, by rw [List.map_cons, h1], ⟨rfl, h2⟩, ?_, ⟨⟨fun q hr => by (cases hr), fun q hr => by (cases hr), fun q hr => by (cases hr)⟩, h4⟩, by simpa using h5⟩
      intro u hu
      rcases List.mem_cons.1 hu with rfl | hu
      · exact ⟨hw, rfl, fun hr => by (cases hr), fun _ hr => by (cases hr), fun _ hr => by (cases hr), fun _ hr => by (cases hr), fun _ hr => by (cases hr), fun _ => ⟨rfl, rfl⟩⟩
      · exact h3 u hu
    · rename_i hw
      split at h
      · rename_i p' hp'
        split at h
        · rename_i s1 hs1
          cases hop : o.2.1.op with
          | pure q =>
            rw [hop] at hs1 hp'
            simp only [doOp] at hs1
            simp only [drawPast, Option.some.injEq] at hp'; subst hp'
            cases hv : runPure s.t q with
            | none => rw [hv] at hs1; cases hs1
            | some v =>
              rw [hv] at hs1
              simp only [putV, Option.some.injEq] at hs1
              let r : Rec := ⟨o, s, true, v, s1⟩
              obtain ⟨tr, h1, h2, h3, h4, h5⟩ := ih _ s' p (A ++ [r]) h (hp.same fun _ => ⟨fun q' e => (by have e : o.2.1.op = _ := e; rw [hop] at e; cases e), fun q' e => (by have e : o.2.1.op = _ := e; rw [hop] at e; cases e), fun q' e => (by have e : o.2.1.op = _ := e; rw [hop] at e; cases e)⟩)
              have hno : ∀ X, o.2.1.op = X → X = .pure q := fun X e => by rw [← e, hop]
              refine ⟨r :: tr, by rw [List.map_cons, h1], ⟨rfl, h2⟩, ?_, ⟨⟨fun q hr ho => by (have := hno _ ho; cases this), fun q hr ho => by (have := hno _ ho; cases this), fun q hr ho => by (have := hno _ ho; cases this)⟩, h4⟩, by simpa using h5⟩
              intro u hu
              rcases List.mem_cons.1 hu with rfl | hu
              · refine ⟨hw, (by show s1.t = _; rw [← hs1]; rfl), fun _ => ?_, fun q' _ ho => ?_, fun q _ ho => by (have := hno _ ho; cases this), fun q _ ho => by (have := hno _ ho; cases this), fun q _ ho => by (have := hno _ ho; cases this), fun hr => by cases hr⟩
                · show doOp call o.2.1.dst s o.2.1.op = some s1
                  rw [hop, ← hs1]; simp only [doOp, hv, putV]
                · have := hno _ ho; simp only [XOp.pure.injEq] at this; subst this; exact hv
              · exact h3 u hu
          | read q =>
            rw [hop] at hs1 hp'
            simp only [doOp] at hs1
            simp only [drawPast] at hp'
            cases hv : runRead s.t s.h q with
            | none => rw [hv] at hs1; cases hs1
            | some v =>
              rw [hv] at hs1 hp'
              simp only [putV, Option.some.injEq] at hs1
              simp only [drawRead] at hp'
              split at hp'
              · rename_i hall
                simp only [Option.some.injEq] at hp'; subst hp'
                rw [allL_eq] at hall
                let r : Rec := ⟨o, s, true, v, s1⟩
                have hno : ∀ X, o.2.1.op = X → X = .read q := fun X e => by rw [← e, hop]
                have hpast : PastOk (A ++ [r]) ⟨p.ks, ⟨o.1, s.t, q, v⟩ :: p.ps, p.ms⟩ := by
                  refine ⟨?_, ?_, ?_⟩
                  · intro k hk ha
                    rcases List.mem_append.1 hk with hk | hk
                    · exact hp.ks k hk ha
                    · obtain rfl : k = r := by simpa using hk
                      obtain ⟨_, a, h3⟩ := ha
                      have := hno _ h3; cases this
                  · intro u hu q' hr ho
                    rcases List.mem_append.1 hu with hu | hu
                    · exact (hp.ps u hu q' hr ho).imp (fun h => by simp [h]) Shut.more
                    · obtain rfl : u = r := by simpa using hu
                      have := hno _ ho; simp only [XOp.read.injEq] at this; subst this
                      exact .inl (by simp [pendOf, r, Rec.i])
                  · intro u hu m b hr ho hm
                    rcases List.mem_append.1 hu with hu | hu
                    · exact (hp.ms u hu m b hr ho hm).imp id Shut.more
                    · obtain rfl : u = r := by simpa using hu
                      have := hno _ ho; cases this
                obtain ⟨tr, h1, h2, h3, h4, h5⟩ := ih _ s' _ (A ++ [r]) h hpast
                refine ⟨r :: tr, by rw [List.map_cons, h1], ⟨rfl, h2⟩, ?_, ⟨⟨fun q' hr ho k hk ha => ?_, fun q hr ho => by (have := hno _ ho; cases this), fun q hr ho => by (have := hno _ ho; cases this)⟩, h4⟩, by simpa using h5⟩
                · intro u hu
                  rcases List.mem_cons.1 hu with rfl | hu
                  · refine ⟨hw, (by show s1.t = _; rw [← hs1]; rfl), fun _ => ?_, fun q _ ho => by (have := hno _ ho; cases this), fun q' _ ho => ?_, fun q _ ho => by (have := hno _ ho; cases this), fun q _ ho => by (have := hno _ ho; cases this), fun hr => by cases hr⟩
                    · show doOp call o.2.1.dst s o.2.1.op = some s1
                      rw [hop, ← hs1]; simp only [doOp, hv, putV]
                    · have := hno _ ho; simp only [XOp.read.injEq] at this; subst this; exact hv
                  · exact h3 u hu
                · have := hno _ ho; simp only [XOp.read.injEq] at this; subst this
                  have := List.all_eq_true.1 hall _ (hp.ks k hk ha)
                  rw [Bool.or_eq_true, hasN_eq] at this
                  exact this
              · cases hp'
          | make m =>
            rw [hop] at hs1 hp'
            simp only [doOp] at hs1
            simp only [drawPast] at hp'
            cases hv : runMake s.t s.h.n m with
            | none => rw [hv] at hs1; cases hs1
            | some vb =>
              obtain ⟨v, b⟩ := vb
              rw [hv] at hs1 hp'
              simp only [putB, Option.some.injEq] at hs1
              simp only [drawMake, Option.some.injEq] at hp'; subst hp'
              let r : Rec := ⟨o, s, true, v, s1⟩
              have hno : ∀ X, o.2.1.op = X → X = .make m := fun X e => by rw [← e, hop]
              have hpast : PastOk (A ++ [r]) ⟨p.ks, p.ps, ⟨o.1, s.h.n, b⟩ :: p.ms⟩ := by
                refine ⟨?_, ?_, ?_⟩
                · intro k hk ha
                  rcases List.mem_append.1 hk with hk | hk
                  · exact hp.ks k hk ha
                  · obtain rfl : k = r := by simpa using hk
                    obtain ⟨_, a, h3⟩ := ha
                    have := hno _ h3; cases this
                · intro u hu q' hr ho
                  rcases List.mem_append.1 hu with hu | hu
                  · exact (hp.ps u hu q' hr ho).imp id Shut.more
                  · obtain rfl : u = r := by simpa using hu
                    have := hno _ ho; cases this
                · intro u hu m' b' hr ho hm
                  rcases List.mem_append.1 hu with hu | hu
                  · exact (hp.ms u hu m' b' hr ho hm).imp (fun h => by simp [h]) Shut.more
                  · obtain rfl : u = r := by simpa using hu
                    have := hno _ ho; simp only [XOp.make.injEq] at this; subst this
                    have hm : runMake s.t s.h.n m' = some (v, b') := hm
                    rw [hv] at hm
                    simp only [Option.some.injEq, Prod.mk.injEq, true_and] at hm; subst hm
                    exact .inl (by simp [r, Rec.i])
              obtain ⟨tr, h1, h2, h3, h4, h5⟩ := ih _ s' _ (A ++ [r]) h hpast
              refine ⟨r :: tr, by rw [List.map_cons, h1], ⟨rfl, h2⟩, ?_, ⟨⟨fun q hr ho => by (have := hno _ ho; cases this), fun q hr ho => by (have := hno _ ho; cases this), fun q hr ho => by (have := hno _ ho; cases this)⟩, h4⟩, by simpa using h5⟩
              intro u hu
              rcases List.mem_cons.1 hu with rfl | hu
              · refine ⟨hw, (by show s1.t = _; rw [← hs1]; rfl), fun _ => ?_, fun q _ ho => by (have := hno _ ho; cases this), fun q _ ho => by (have := hno _ ho; cases this), fun q' _ ho => ?_, fun q _ ho => by (have := hno _ ho; cases this), fun hr => by cases hr⟩
                · show doOp call o.2.1.dst s o.2.1.op = some s1
                  rw [hop, ← hs1]; simp only [doOp, hv, putB]
                · have := hno _ ho; simp only [XOp.make.injEq] at this; subst this
                  exact ⟨b, hv, (by show s1.h = _; rw [← hs1])⟩
              · exact h3 u hu
          | act y =>
            rw [hop] at hs1 hp'
            simp only [doOp] at hs1
            simp only [drawPast] at hp'
            cases hv : runAct call s.t s.h y with
            | none => rw [hv] at hs1; cases hs1
            | some vh =>
              obtain ⟨v, h2'⟩ := vh
              rw [hv] at hs1 hp'
              simp only [putH, Option.some.injEq] at hs1
              simp only [drawAct] at hp'
              split at hp'
              · rename_i hall1
                split at hp'
                · rename_i hall2
                  simp only [Option.some.injEq] at hp'; subst hp'
                  rw [allL_eq] at hall1 hall2
                  let r : Rec := ⟨o, s, true, v, s1⟩
                  have hno : ∀ X, o.2.1.op = X → X = .act y := fun X e => by rw [← e, hop]
                  have hract : r.act := ⟨rfl, y, hop⟩
                  have hpast : PastOk (A ++ [r]) ⟨(o.1, s.h) :: p.ks, p.ps.filter (fun q => !hasN q.i o.2.2), p.ms.filter (fun q => !hasN q.i o.2.2)⟩ := by
                    refine ⟨?_, ?_, ?_⟩
                    · intro k hk ha
                      rcases List.mem_append.1 hk with hk | hk
                      · simp [hp.ks k hk ha]
                      · obtain rfl : k = r := by simpa using hk
                        simp [r, Rec.i]
                    · intro u hu q' hr ho
                      rcases List.mem_append.1 hu with hu | hu
                      · rcases hp.ps u hu q' hr ho with h | h
                        · by_cases hin : u.i ∈ o.2.2
                          · exact .inr ⟨r, by simp, hract, hin⟩
                          · refine .inl (List.mem_filter.2 ⟨h, ?_⟩)
                            have : hasN u.i o.2.2 = false := by
                              rw [Bool.eq_false_iff]; intro hh; exact hin ((hasN_eq _ _).1 hh)
                            simp [pendOf, this]
                        · exact .inr h.more
                      · obtain rfl : u = r := by simpa using hu
                        have := hno _ ho; cases this
                    · intro u hu m' b' hr ho hm
                      rcases List.mem_append.1 hu with hu | hu
                      · rcases hp.ms u hu m' b' hr ho hm with h | h
                        · by_cases hin : u.i ∈ o.2.2
                          · exact .inr ⟨r, by simp, hract, hin⟩
                          · refine .inl (List.mem_filter.2 ⟨h, ?_⟩)
                            have : hasN u.i o.2.2 = false := by
                              rw [Bool.eq_false_iff]; intro hh; exact hin ((hasN_eq _ _).1 hh)
                            simp [this]
                        · exact .inr h.more
                      · obtain rfl : u = r := by simpa using hu
                        have := hno _ ho; cases this
                  obtain ⟨tr, h1, h2, h3, h4, h5⟩ := ih _ s' _ (A ++ [r]) h hpast
                  have hn : r.n.h = h2' := by show s1.h = h2'; rw [← hs1]
                  refine ⟨r :: tr, by rw [List.map_cons, h1], ⟨rfl, h2⟩, ?_, ⟨⟨fun q hr ho => by (have := hno _ ho; cases this), fun y' hr ho u hu q hur huo => ?_, fun y' hr ho u hu m b hur huo hm => ?_⟩, h4⟩, by simpa using h5⟩
                  · intro u hu
                    rcases List.mem_cons.1 hu with rfl | hu
                    · refine ⟨hw, (by show s1.t = _; rw [← hs1]; rfl), fun _ => ?_, fun q _ ho => by (have := hno _ ho; cases this), fun q _ ho => by (have := hno _ ho; cases this), fun q _ ho => by (have := hno _ ho; cases this), fun q' _ ho => ?_, fun hr => by cases hr⟩
                      · show doOp call o.2.1.dst s o.2.1.op = some s1
                        rw [hop, ← hs1]; simp only [doOp, hv, putH]
                      · have := hno _ ho; simp only [XOp.act.injEq] at this; subst this
                        rw [hn]; exact hv
                    · exact h3 u hu
                  · rcases hp.ps u hu q hur huo with h | h
                    · exact .inr (List.all_eq_true.1 hall1 _ h)
                    · exact .inl h
                  · rcases hp.ms u hu m b hur huo hm with h | h
                    · have := List.all_eq_true.1 hall2 _ h
                      rw [Bool.or_eq_true, hasN_eq] at this
                      rcases this with h | h
                      · exact .inr (.inl h)
                      · rw [hn]; exact .inr (.inr h)
                    · exact .inl h
                · cases hp'
              · cases hp'
        · cases h
      · cases h
end Go.Ax
