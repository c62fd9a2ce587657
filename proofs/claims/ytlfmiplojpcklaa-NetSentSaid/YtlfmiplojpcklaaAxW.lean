/- What has to be shown of code, its temporaries gone: one condition, and the theorem that it suffices. -/
import Derived.Test.YtlfmiplojpcklaaAxFuel
set_option linter.unusedSimpArgs false
set_option linter.unusedVariables false
namespace Go.Ax

noncomputable def digN (d : Dig) : Nat := Dig.casesOn (motive := fun _ => Nat) d 0 1 2 3 4 5 6
theorem digN_inj {a b : Dig} (h : digN a = digN b) : a = b := by cases a <;> cases b <;> first | rfl | (exact absurd h (by decide))
noncomputable def pathEq (p : Path) : Path → Bool :=
  Path.rec (motive := fun _ => Path → Bool) (fun q => Path.casesOn (motive := fun _ => Bool) q true (fun _ _ => false))
    (fun d _ ih q => Path.casesOn (motive := fun _ => Bool) q false (fun d' q' => match Nat.beq (digN d) (digN d') with | true => ih q' | false => false)) p
theorem pathEq_iff (p : Path) : ∀ q, pathEq p q = true ↔ p = q := by
  induction p with
  | here => intro q; cases q <;> simp [pathEq]
  | go d p ih =>
    intro q
    cases q with
    | here => simp [pathEq]
    | go d' q' =>
      have e : pathEq (.go d p) (.go d' q') = match Nat.beq (digN d) (digN d') with | true => pathEq p q' | false => false := rfl
      rw [e]
      by_cases h : digN d = digN d'
      · rw [h, Nat.beq_refl]; simp only; rw [ih, digN_inj h]; simp
      · have : Nat.beq (digN d) (digN d') = false := by cases h2 : Nat.beq (digN d) (digN d') with | false => rfl | true => exact absurd (Nat.eq_of_beq_eq_true h2) h
        rw [this]; simp only [Path.go.injEq, Bool.false_eq_true, false_iff]; rintro ⟨rfl, -⟩; exact h rfl
theorem pathEq_refl (p : Path) : pathEq p p = true := (pathEq_iff p p).2 rfl
noncomputable def memP (p : Path) (l : List Path) : Bool := List.rec (motive := fun _ => Bool) false (fun q _ ih => match pathEq q p with | true => true | false => ih) l
theorem memP_iff (p : Path) (l : List Path) : memP p l = true ↔ p ∈ l := by
  induction l with
  | nil => simp [memP]
  | cons q l ih =>
    have e : memP p (q :: l) = match pathEq q p with | true => true | false => memP p l := rfl
    rw [e]
    cases h : pathEq q p with
    | true => simp only [true_iff]; rw [(pathEq_iff _ _).1 h]; simp
    | false =>
      simp only; rw [ih, List.mem_cons]
      exact ⟨.inr, fun h2 => h2.resolve_left fun h3 => by rw [h3, pathEq_refl] at h; cases h⟩

abbrev Env := List (Path × AVal)
noncomputable def look (e : Env) (p : Path) : Option AVal := List.rec (motive := fun _ => Option AVal) none (fun x _ ih => match pathEq x.1 p with | true => some x.2 | false => ih) e
theorem look_cons (q : Path) (v : AVal) (e : Env) (p : Path) : look ((q, v) :: e) p = if q = p then some v else look e p := by
  have h : look ((q, v) :: e) p = match pathEq q p with | true => some v | false => look e p := rfl
  rw [h]
  by_cases hq : q = p
  · rw [if_pos hq, (pathEq_iff _ _).2 hq]
  · rw [if_neg hq]
    cases h2 : pathEq q p with
    | true => exact absurd ((pathEq_iff _ _).1 h2) hq
    | false => rfl
/-- The temporaries are as these say. -/
def Agr (e : Env) (t : Tmps) : Prop := ∀ p v, look e p = some v → getP p t = v
theorem Agr.nil (t : Tmps) : Agr [] t := fun p v h => by cases h
theorem Agr.cons {e : Env} {t : Tmps} (h : Agr e t) {p : Path} {v : AVal} (hp : hasP p t = true) : Agr ((p, v) :: e) (setP p t v) := by
  intro q u hq
  rw [look_cons] at hq
  rw [getP_setP]
  by_cases hpq : p = q
  · rw [if_pos hpq] at hq; simp only [Option.some.injEq] at hq; rw [if_pos ⟨hpq, hp⟩]; exact hq
  · rw [if_neg hpq] at hq; rw [if_neg (fun h => hpq h.1)]; exact h q u hq
def putE (e : Env) (d : Option Path) (v : AVal) : Env := match d with | some p => (p, v) :: e | none => e
/-- Those of a list, by their values. -/
noncomputable def vals (L : List Path) (e : Env) : Option (List AVal) := List.rec (motive := fun _ => Option (List AVal)) (some []) (fun p _ ih => match look e p with | some v => (match ih with | some l => some (v :: l) | none => none) | none => none) L
noncomputable def pick (C : List Path) (e : Env) : Env := List.rec (motive := fun _ => Env) [] (fun p _ ih => match look e p with | some v => (p, v) :: ih | none => ih) C
noncomputable def zipE (L : List Path) : List AVal → Env → Env := List.rec (motive := fun _ => List AVal → Env → Env) (fun _ e => e) (fun p _ ih vs e => List.casesOn (motive := fun _ => Env) vs e (fun v r => (p, v) :: ih r e)) L
theorem pick_agree {C : List Path} {e : Env} {t t' : Tmps} (h : Agr e t) (hc : ∀ p ∈ C, getP p t' = getP p t) : Agr (pick C e) t' := by
  induction C with
  | nil => exact Agr.nil _
  | cons p C ih =>
    have e1 : pick (p :: C) e = match look e p with | some v => (p, v) :: pick C e | none => pick C e := rfl
    rw [e1]
    cases hl : look e p with
    | none => exact ih fun q hq => hc q (by simp [hq])
    | some v =>
      intro q u hq
      simp only at hq
      rw [look_cons] at hq
      split at hq
      · rename_i hpq; subst hpq
        simp only [Option.some.injEq] at hq; subst hq
        rw [hc p (by simp)]; exact h p v hl
      · exact ih (fun q hq => hc q (by simp [hq])) q u hq
theorem vals_length : ∀ {L : List Path} {e : Env} {vs : List AVal}, vals L e = some vs → vs.length = L.length := by
  intro L
  induction L with
  | nil => intro e vs h; cases h; rfl
  | cons p L ih =>
    intro e vs h
    have e1 : vals (p :: L) e = match look e p with | some v => (match vals L e with | some l => some (v :: l) | none => none) | none => none := rfl
    rw [e1] at h
    split at h
    · split at h
      · rename_i l hl
        simp only [Option.some.injEq] at h; subst h; simp [ih hl]
      · cases h
    · cases h
theorem zip_agree {e' : Env} {t : Tmps} (hb : Agr e' t) : ∀ {L : List Path} {e : Env} {vs : List AVal}, Agr e t → vals L e = some vs → Agr (zipE L vs e') t := by
  intro L
  induction L with
  | nil => intro e vs _ _; exact hb
  | cons p L ih =>
    intro e vs he h
    have e1 : vals (p :: L) e = match look e p with | some v => (match vals L e with | some l => some (v :: l) | none => none) | none => none := rfl
    rw [e1] at h
    split at h
    · rename_i v hv
      split at h
      · rename_i l hl
        simp only [Option.some.injEq] at h; subst h
        intro q u hq
        have e2 : zipE (p :: L) (v :: l) e' = (p, v) :: zipE L l e' := rfl
        rw [e2, look_cons] at hq
        split at hq
        · rename_i hpq; subst hpq; simp only [Option.some.injEq] at hq; subst hq; exact he p v hv
        · exact ih he hl q u hq
      · cases h
    · cases h

/-! ### Operands by their values -/
noncomputable def subA (e : Env) : Arg → Option Arg
  | .tmp p => (match look e p with | some v => some (.val v) | none => none)
  | .val v => some (.val v)
noncomputable def subL (e : Env) (l : List Arg) : Option (List Arg) := List.rec (motive := fun _ => Option (List Arg)) (some []) (fun x _ ih => match subA e x with | some a => (match ih with | some r => some (a :: r) | none => none) | none => none) l
noncomputable def subO (e : Env) : Option Arg → Option (Option Arg)
  | none => some none
  | some x => (match subA e x with | some a => some (some a) | none => none)
noncomputable def subP (e : Env) (l : List (Nat × Nat × Arg)) : Option (List (Nat × Nat × Arg)) := List.rec (motive := fun _ => Option (List (Nat × Nat × Arg))) (some []) (fun x _ ih => match subA e x.2.2 with | some a => (match ih with | some r => some ((x.1, x.2.1, a) :: r) | none => none) | none => none) l
noncomputable def s1 {α : Type} (e : Env) (x : Arg) (f : Arg → α) : Option α := match subA e x with | some a => some (f a) | none => none
noncomputable def s2 {α : Type} (e : Env) (x y : Arg) (f : Arg → Arg → α) : Option α := match subA e x with | some a => (match subA e y with | some b => some (f a b) | none => none) | none => none
noncomputable def s3 {α : Type} (e : Env) (x y z : Arg) (f : Arg → Arg → Arg → α) : Option α := match subA e x with | some a => (match subA e y with | some b => (match subA e z with | some c => some (f a b c) | none => none) | none => none) | none => none
noncomputable def subPure (e : Env) : XPure → Option XPure
  | .move x => s1 e x .move
  | .pick c a b => s3 e c a b .pick
  | .nilCheck x => s1 e x .nilCheck
  | .bin op x y => s2 e x y (.bin op)
  | .eqCells ks ne x y => s2 e x y (.eqCells ks ne)
  | .eqNil kd ne x y => s2 e x y (.eqNil kd ne)
  | .un op x => s1 e x (.un op)
  | .conv k x => s1 e x (.conv k)
  | .str x => s1 e x .str
  | .field off n x => s1 e x (.field off n)
  | .extract i x => s1 e x (.extract i)
  | .fieldAddr off x => s1 e x (.fieldAddr off)
  | .indexAddr esz x i => s2 e x i (.indexAddr esz)
  | .indexAddrArr len esz x i => s2 e x i (.indexAddrArr len esz)
  | .slice esz x lo hi mx => (match subA e x with | some a => (match subO e lo with | some l => (match subO e hi with | some h => (match subO e mx with | some m => some (.slice esz a l h m) | none => none) | none => none) | none => none) | none => none)
  | .sliceStr x lo hi => (match subA e x with | some a => (match subO e lo with | some l => (match subO e hi with | some h => some (.sliceStr a l h) | none => none) | none => none) | none => none)
  | .mkIface t x => s1 e x (.mkIface t)
  | .mkFunc fn a b => (match subL e a with | some a' => (match subL e b with | some b' => some (.mkFunc fn a' b') | none => none) | none => none)
  | .build z ps => (match subP e ps with | some q => some (.build z q) | none => none)
  | .indexStr x i => s2 e x i .indexStr
  | .indexArr len esz n x i => s2 e x i (.indexArr len esz n)
  | .len x => s1 e x .len
  | .lenStr x => s1 e x .lenStr
  | .lenArr n => some (.lenArr n)
  | .cap x => s1 e x .cap
  | .maxs xs => (match subL e xs with | some l => some (.maxs l) | none => none)
  | .mins xs => (match subL e xs with | some l => some (.mins l) | none => none)
noncomputable def subRead (e : Env) : XRead → Option XRead
  | .load n a => s1 e a (.load n)
  | .lookup str z ok m k => s2 e m k (.lookup str z ok)
  | .lenMap m => s1 e m .lenMap
  | .bytes x => s1 e x .bytes
noncomputable def subMake (e : Env) : XMake → Option XMake
  | .alloc z => some (.alloc z)
  | .box x => s1 e x .box
  | .buildSlice len esz z ps => (match subP e ps with | some q => some (.buildSlice len esz z q) | none => none)
  | .makeMap => some .makeMap
  | .makeSlice esz z l c => s2 e l c (.makeSlice esz z)
  | .iter x => s1 e x .iter
noncomputable def subAct (e : Env) : XAct → Option XAct
  | .store n a v => s2 e a v (.store n)
  | .append esz bytes s x => s2 e s x (.append esz bytes)
  | .appendZ esz bytes z s n => s2 e s n (.appendZ esz bytes z)
  | .copy esz d s => s2 e d s (.copy esz)
  | .clear z x => s1 e x (.clear z)
  | .mapUpdate str m k v => s3 e m k v (.mapUpdate str)
  | .delete str m k => s2 e m k (.delete str)
  | .next x => s1 e x .next
  | .strBytes x => s1 e x .strBytes
  | .mark x => s1 e x .mark
  | .call f args => (match subA e f with | some g => (match subL e args with | some l => some (.call g l) | none => none) | none => none)

section
variable {e : Env} {t : Tmps}
theorem subA_eval (ha : Agr e t) {x y : Arg} (h : subA e x = some y) : y.eval .leaf = x.eval t := by
  cases x with
  | val v => cases h; rfl
  | tmp p =>
    simp only [subA] at h
    split at h
    · rename_i v hv
      cases h
      exact (ha p v hv).symm
    · cases h
theorem subL_eval (ha : Agr e t) : ∀ {l r : List Arg}, subL e l = some r → mapL (·.eval .leaf) r = mapL (·.eval t) l := by
  intro l
  induction l with
  | nil => intro r h; cases h; rfl
  | cons x l ih =>
    intro r h
    have e1 : subL e (x :: l) = match subA e x with | some a => (match subL e l with | some r => some (a :: r) | none => none) | none => none := rfl
    rw [e1] at h
    split at h
    · rename_i a h1
      split at h
      · rename_i r' h2
        cases h
        show a.eval .leaf :: mapL (·.eval .leaf) r' = x.eval t :: mapL (·.eval t) l
        rw [subA_eval ha h1, ih h2]
      · cases h
    · cases h
theorem subO_eval (ha : Agr e t) {x y : Option Arg} (h : subO e x = some y) : y.map (·.eval .leaf) = x.map (·.eval t) := by
  cases x with
  | none => cases h; rfl
  | some x =>
    simp only [subO] at h
    split at h
    · rename_i a h1
      cases h
      simp only [Option.map_some, subA_eval ha h1]
    · cases h
theorem subP_eval (ha : Agr e t) : ∀ {l r : List (Nat × Nat × Arg)}, subP e l = some r → mapL (fun p => (p.1, p.2.1, p.2.2.eval .leaf)) r = mapL (fun p => (p.1, p.2.1, p.2.2.eval t)) l := by
  intro l
  induction l with
  | nil => intro r h; cases h; rfl
  | cons x l ih =>
    intro r h
    have e1 : subP e (x :: l) = match subA e x.2.2 with | some a => (match subP e l with | some r => some ((x.1, x.2.1, a) :: r) | none => none) | none => none := rfl
    rw [e1] at h
    split at h
    · rename_i a h1
      split at h
      · rename_i r' h2
        cases h
        show (x.1, x.2.1, a.eval .leaf) :: mapL (fun p => (p.1, p.2.1, p.2.2.eval .leaf)) r' = (x.1, x.2.1, x.2.2.eval t) :: mapL (fun p => (p.1, p.2.1, p.2.2.eval t)) l
        rw [subA_eval ha h1, ih h2]
      · cases h
    · cases h
theorem s1_some {α : Type} {x : Arg} {f : Arg → α} {r : α} (h : s1 e x f = some r) : ∃ a, subA e x = some a ∧ r = f a := by
  unfold s1 at h; split at h
  · rename_i a ha; cases h; exact ⟨a, ha, rfl⟩
  · cases h
theorem s2_some {α : Type} {x y : Arg} {f : Arg → Arg → α} {r : α} (h : s2 e x y f = some r) : ∃ a b, subA e x = some a ∧ subA e y = some b ∧ r = f a b := by
  unfold s2 at h; split at h
  · rename_i a ha
    split at h
    · rename_i b hb; cases h; exact ⟨a, b, ha, hb, rfl⟩
    · cases h
  · cases h
theorem s3_some {α : Type} {x y z : Arg} {f : Arg → Arg → Arg → α} {r : α} (h : s3 e x y z f = some r) : ∃ a b c, subA e x = some a ∧ subA e y = some b ∧ subA e z = some c ∧ r = f a b c := by
  unfold s3 at h; split at h
  · rename_i a ha
    split at h
    · rename_i b hb
      split at h
      · rename_i c hc; cases h; exact ⟨a, b, c, ha, hb, hc, rfl⟩
      · cases h
    · cases h
  · cases h
theorem subPure_run (ha : Agr e t) {p q : XPure} (h : subPure e p = some q) : runPure .leaf q = runPure t p := by
  cases p with
  | slice esz x lo hi mx =>
    simp only [subPure] at h
    split at h
    · rename_i a h1
      split at h
      · rename_i l h2
        split at h
        · rename_i hh h3
          split at h
          · rename_i m h4
            cases h
            have em : m.isSome = mx.isSome := by have := congrArg Option.isSome (subO_eval ha h4); simpa using this
            simp only [runPure, p_slice, subA_eval ha h1, subO_eval ha h2, subO_eval ha h3, subO_eval ha h4, em]
          · cases h
        · cases h
      · cases h
    · cases h
  | sliceStr x lo hi =>
    simp only [subPure] at h
    split at h
    · rename_i a h1
      split at h
      · rename_i l h2
        split at h
        · rename_i hh h3
          cases h
          simp only [runPure, p_sliceStr, subA_eval ha h1, subO_eval ha h2, subO_eval ha h3]
        · cases h
      · cases h
    · cases h
  | mkFunc fn a b =>
    simp only [subPure] at h
    split at h
    · rename_i a' h1
      split at h
      · rename_i b' h2
        cases h
        simp only [runPure, p_mkFunc, subL_eval ha h1, subL_eval ha h2]
      · cases h
    · cases h
  | build z ps =>
    simp only [subPure] at h
    split at h
    · rename_i q' h1; cases h; simp only [runPure, p_build, subP_eval ha h1]
    · cases h
  | maxs xs =>
    simp only [subPure] at h
    split at h
    · rename_i q' h1; cases h; simp only [runPure, p_maxs, subL_eval ha h1]
    · cases h
  | mins xs =>
    simp only [subPure] at h
    split at h
    · rename_i q' h1; cases h; simp only [runPure, p_mins, subL_eval ha h1]
    · cases h
  | lenArr n => cases h; rfl
  | pick c a b => obtain ⟨x, y, z, h1, h2, h3, rfl⟩ := s3_some h; simp only [runPure, p_pick, subA_eval ha h1, subA_eval ha h2, subA_eval ha h3]
  | bin op x y => obtain ⟨a, b, h1, h2, rfl⟩ := s2_some h; simp only [runPure, p_bin, subA_eval ha h1, subA_eval ha h2]
  | eqCells ks ne x y => obtain ⟨a, b, h1, h2, rfl⟩ := s2_some h; simp only [runPure, p_eqCells, subA_eval ha h1, subA_eval ha h2]
  | eqNil kd ne x y => obtain ⟨a, b, h1, h2, rfl⟩ := s2_some h; simp only [runPure, p_eqNil, subA_eval ha h1, subA_eval ha h2]
  | indexAddr esz x i => obtain ⟨a, b, h1, h2, rfl⟩ := s2_some h; simp only [runPure, p_indexAddr, subA_eval ha h1, subA_eval ha h2]
  | indexAddrArr l esz x i => obtain ⟨a, b, h1, h2, rfl⟩ := s2_some h; simp only [runPure, p_indexAddrArr, subA_eval ha h1, subA_eval ha h2]
  | indexStr x i => obtain ⟨a, b, h1, h2, rfl⟩ := s2_some h; simp only [runPure, p_indexStr, subA_eval ha h1, subA_eval ha h2]
  | indexArr l esz n x i => obtain ⟨a, b, h1, h2, rfl⟩ := s2_some h; simp only [runPure, p_indexArr, subA_eval ha h1, subA_eval ha h2]
  | move x => obtain ⟨a, h1, rfl⟩ := s1_some h; simp only [runPure, p_move, subA_eval ha h1]
  | nilCheck x => obtain ⟨a, h1, rfl⟩ := s1_some h; simp only [runPure, p_nilCheck, subA_eval ha h1]
  | un op x => obtain ⟨a, h1, rfl⟩ := s1_some h; simp only [runPure, p_un, subA_eval ha h1]
  | conv k x => obtain ⟨a, h1, rfl⟩ := s1_some h; simp only [runPure, p_conv, subA_eval ha h1]
  | str x => obtain ⟨a, h1, rfl⟩ := s1_some h; simp only [runPure, p_str, subA_eval ha h1]
  | field off n x => obtain ⟨a, h1, rfl⟩ := s1_some h; simp only [runPure, p_field, subA_eval ha h1]
  | extract i x => obtain ⟨a, h1, rfl⟩ := s1_some h; simp only [runPure, p_extract, subA_eval ha h1]
  | fieldAddr off x => obtain ⟨a, h1, rfl⟩ := s1_some h; simp only [runPure, p_fieldAddr, subA_eval ha h1]
  | mkIface ty x => obtain ⟨a, h1, rfl⟩ := s1_some h; simp only [runPure, p_mkIface, subA_eval ha h1]
  | len x => obtain ⟨a, h1, rfl⟩ := s1_some h; simp only [runPure, p_len, subA_eval ha h1]
  | lenStr x => obtain ⟨a, h1, rfl⟩ := s1_some h; simp only [runPure, p_lenStr, subA_eval ha h1]
  | cap x => obtain ⟨a, h1, rfl⟩ := s1_some h; simp only [runPure, p_cap, subA_eval ha h1]
theorem subRead_run (ha : Agr e t) {p q : XRead} (h : subRead e p = some q) (hp : Heap) : runRead .leaf hp q = runRead t hp p := by
  cases p with
  | load n x => obtain ⟨a, h1, rfl⟩ := s1_some h; simp only [runRead, r_load, subA_eval ha h1]
  | lookup str z ok m k => obtain ⟨a, b, h1, h2, rfl⟩ := s2_some h; simp only [runRead, r_lookup, subA_eval ha h1, subA_eval ha h2]
  | lenMap m => obtain ⟨a, h1, rfl⟩ := s1_some h; simp only [runRead, r_lenMap, subA_eval ha h1]
  | bytes x => obtain ⟨a, h1, rfl⟩ := s1_some h; simp only [runRead, r_bytes, subA_eval ha h1]
theorem subMake_run (ha : Agr e t) {p q : XMake} (h : subMake e p = some q) (b : Nat) : runMake .leaf b q = runMake t b p := by
  cases p with
  | alloc z => cases h; rfl
  | makeMap => cases h; rfl
  | box x => obtain ⟨a, h1, rfl⟩ := s1_some h; simp only [runMake, m_box, subA_eval ha h1]
  | iter x => obtain ⟨a, h1, rfl⟩ := s1_some h; simp only [runMake, m_iter, subA_eval ha h1]
  | makeSlice esz z l c => obtain ⟨x, y, h1, h2, rfl⟩ := s2_some h; simp only [runMake, m_makeSlice, subA_eval ha h1, subA_eval ha h2]
  | buildSlice len esz z ps =>
    simp only [subMake] at h
    split at h
    · rename_i q' h1; cases h; simp only [runMake, m_buildSlice, subP_eval ha h1]
    · cases h
theorem subAct_run (ha : Agr e t) {p q : XAct} (h : subAct e p = some q) (c : Nat → List AVal → Heap → Option (AVal × Heap)) (hp : Heap) : runAct c .leaf hp q = runAct c t hp p := by
  cases p with
  | store n x v => obtain ⟨a, b, h1, h2, rfl⟩ := s2_some h; simp only [runAct, a_store, subA_eval ha h1, subA_eval ha h2]
  | append esz bytes s x => obtain ⟨a, b, h1, h2, rfl⟩ := s2_some h; simp only [runAct, a_append, subA_eval ha h1, subA_eval ha h2]
  | appendZ esz bytes z s x => obtain ⟨a, b, h1, h2, rfl⟩ := s2_some h; simp only [runAct, a_appendZ, subA_eval ha h1, subA_eval ha h2]
  | copy esz s x => obtain ⟨a, b, h1, h2, rfl⟩ := s2_some h; simp only [runAct, a_copy, subA_eval ha h1, subA_eval ha h2]
  | clear z x => obtain ⟨a, h1, rfl⟩ := s1_some h; simp only [runAct, a_clear, subA_eval ha h1]
  | mapUpdate str m k v => obtain ⟨a, b, c, h1, h2, h3, rfl⟩ := s3_some h; simp only [runAct, a_mapUpdate, subA_eval ha h1, subA_eval ha h2, subA_eval ha h3]
  | delete str m k => obtain ⟨a, b, h1, h2, rfl⟩ := s2_some h; simp only [runAct, a_delete, subA_eval ha h1, subA_eval ha h2]
  | next x => obtain ⟨a, h1, rfl⟩ := s1_some h; simp only [runAct, a_next, subA_eval ha h1]
  | strBytes x => obtain ⟨a, h1, rfl⟩ := s1_some h; simp only [runAct, a_strBytes, subA_eval ha h1]
  | mark x => obtain ⟨a, h1, rfl⟩ := s1_some h; simp only [runAct, a_mark, subA_eval ha h1]
  | call f args =>
    simp only [subAct] at h
    split at h
    · rename_i g h1
      split at h
      · rename_i l h2
        cases h
        simp only [runAct, a_call, subA_eval ha h1, subL_eval ha h2]
      · cases h
    · cases h
end
end Go.Ax
