/- The condition on code, and that it suffices. -/
import Derived.Test.YtlfmiplojpcklaaAxW
set_option linter.unusedSimpArgs false
set_option linter.unusedVariables false
namespace Go.Ax

def ok (o : Option AVal) (K : AVal → Prop) : Prop := match o with | some v => K v | none => False
def ok2 (o : Option (AVal × Heap)) (K : AVal → Heap → Prop) : Prop := match o with | some r => K r.1 r.2 | none => False
def okB (o : Option (AVal × Blk)) (K : AVal → Blk → Prop) : Prop := match o with | some r => K r.1 r.2 | none => False
def wantV (v : AVal) (w : Bool) : Option Bool := match v with | .bool b => some (b == w) | .unk => none | .tup _ => some false | .int _ _ => some false | .str _ => some false | _ => none
def gsel (v : AVal) (w : Bool) (o : Option AVal) : Option AVal := match wantV v w with | some true => o | some false => some und | none => none
def gP (v : AVal) (w : Bool) (W : (AVal → Heap → Prop) → Prop) (h : Heap) (K : AVal → Heap → Prop) : Prop := match wantV v w with | some true => W K | some false => K und h | none => False
def gcase (v : AVal) (w : Bool) (A B : Prop) : Prop := match wantV v w with | some true => A | some false => B | none => False
def br (v : AVal) (A B : Prop) : Prop := match v with | .bool true => A | .bool false => B | _ => False
def callV (X : Nat → Option XDef) (f : AVal) (args : List AVal) (h : Heap) (K : AVal → Heap → Prop) : Prop := match f with | .func (.func g) first cap => FnC X g (appL first (appL args cap)) h K | _ => False
def noCall (_ : Nat) (_ : List AVal) (_ : Heap) : Option (AVal × Heap) := none

noncomputable def actP (X : Nat → Option XDef) (a : XAct) (h : Heap) (K : AVal → Heap → Prop) : Prop :=
  match a with
  | .call f args => callV X (f.eval .leaf) (mapL (·.eval .leaf) args) h K
  | a => ok2 (runAct noCall .leaf h a) K
noncomputable def pure1 (q : XPure) (K : AVal → Prop) : Prop :=
  match q with
  | .move x => K (x.eval .leaf)
  | .mkIface t x => K (.iface t (x.eval .leaf))
  | .mkFunc fn a b => K (.func fn (mapL (·.eval .leaf) a) (mapL (·.eval .leaf) b))
  | q => ok (runPure .leaf q) K
noncomputable def pureW (g : Option (AVal × Bool)) (q : XPure) (K : AVal → Prop) : Prop :=
  match g with
  | none => pure1 q K
  | some (gv, w) => ok (gsel gv w (runPure .leaf q)) K
noncomputable def readG (g : Option (AVal × Bool)) (r : XRead) (h : Heap) : Option AVal :=
  match g with
  | none => runRead .leaf h r
  | some (gv, w) => gsel gv w (runRead .leaf h r)
noncomputable def gval (e : Env) : Option (Path × Bool) → Option (Option (AVal × Bool))
  | none => some none
  | some (p, w) => (match look e p with | some v => some (some (v, w)) | none => none)
def guardP (g : Option (AVal × Bool)) (h : Heap) (W : (AVal → Heap → Prop) → Prop) (K : AVal → Heap → Prop) : Prop :=
  match g with
  | none => W K
  | some (gv, w) => gP gv w W h K
def mk2 (h : Heap) (o : Option (AVal × Blk)) : Option (AVal × Heap) := match o with | some r => some (r.1, h.push r.2) | none => none
noncomputable def makeP (m : XMake) (h : Heap) (K : AVal → Heap → Prop) : Prop := ok2 (mk2 h (runMake .leaf h.n m)) K
noncomputable def opW (X : Nat → Option XDef) (o : XOper) (K : Env → Heap → Prop) (e : Env) (h : Heap) : Prop :=
  match gval e o.guard with
  | none => False
  | some g =>
    match o.op with
    | .pure p => (match subPure e p with | some q => pureW g q (fun v => K (putE e o.dst v) h) | none => False)
    | .read r => (match subRead e r with | some q => ok (readG g q h) (fun v => K (putE e o.dst v) h) | none => False)
    | .make m => (match subMake e m with | some q => guardP g h (makeP q h) (fun v h' => K (putE e o.dst v) h') | none => False)
    | .act a => (match subAct e a with | some q => guardP g h (actP X q h) (fun v h' => K (putE e o.dst v) h') | none => False)
noncomputable def opsW (X : Nat → Option XDef) (l : List XOper) : (Env → Heap → Prop) → Env → Heap → Prop :=
  List.rec (motive := fun _ => (Env → Heap → Prop) → Env → Heap → Prop) (fun K e h => K e h) (fun o _ ih K e h => opW X o (fun e' h' => ih K e' h') e h) l

/-! ### A region whose order is open -/
structure PastW where
  ks : List (Nat × Heap)
  ps : List (Nat × (Heap → Prop))
  ms : List (Nat × Nat × Blk)
def allQ {α : Type} (P : α → Prop) (l : List α) : Prop := List.rec (motive := fun _ => Prop) True (fun a _ ih => P a ∧ ih) l
noncomputable def filN {α : Type} (pre : List Nat) (l : List (Nat × α)) : List (Nat × α) := List.rec (motive := fun _ => List (Nat × α)) [] (fun a _ ih => match hasN a.1 pre with | true => ih | false => a :: ih) l
noncomputable def madeQ (h : Heap) (m : Nat × Nat × Blk) : Prop := h.get m.2.1 = some m.2.2 ∧ sameBlk m.2.2 m.2.2 = true
noncomputable def drawW (X : Nat → Option XDef) (l : List (Nat × XOper × List Nat)) : PastW → (Env → Heap → Prop) → Env → Heap → Prop :=
  List.rec (motive := fun _ => PastW → (Env → Heap → Prop) → Env → Heap → Prop) (fun p K e h => allQ (fun q => q.2 h) p.ps ∧ K e h)
    (fun x _ ih p K e h =>
      match gval e x.2.1.guard with
      | none => False
      | some g =>
        match x.2.1.op with
        | .pure q => (match subPure e q with | some q => pureW g q (fun v => ih p K (putE e x.2.1.dst v) h) | none => False)
        | .read r => (match subRead e r with
          | some r => ok (readG g r h) fun v => allQ (fun k => readG g r k.2 = some v) (filN x.2.2 p.ks) ∧ ih ⟨p.ks, (x.1, fun h' => readG g r h' = some v) :: p.ps, p.ms⟩ K (putE e x.2.1.dst v) h
          | none => False)
        | .make m => (match subMake e m with
          | some m =>
            let A := okB (runMake .leaf h.n m) fun v b => ih ⟨p.ks, p.ps, (x.1, h.n, b) :: p.ms⟩ K (putE e x.2.1.dst v) (h.push b)
            (match g with | none => A | some (gv, w) => gcase gv w A (ih p K (putE e x.2.1.dst und) h))
          | none => False)
        | .act a => (match subAct e a with
          | some a =>
            let A := allQ (fun q => q.2 h) p.ps ∧ actP X a h fun v h' => allQ (fun m => madeQ h' m) (filN x.2.2 p.ms) ∧ ih ⟨(x.1, h) :: p.ks, filN x.2.2 p.ps, filN x.2.2 p.ms⟩ K (putE e x.2.1.dst v) h'
            (match g with | none => A | some (gv, w) => gcase gv w A (ih p K (putE e x.2.1.dst und) h))
          | none => False)) l

/-- A region that only reads: any order serves. -/
noncomputable def onlyReads (l : List (Nat × XOper × List Nat)) : Bool := List.rec (motive := fun _ => Bool) true (fun x _ ih => match x.2.1.op with | .pure _ => ih | .read _ => ih | .make _ => false | .act _ => false) l
noncomputable def opersOf (l : List (Nat × XOper × List Nat)) : List XOper := mapL (fun x => x.2.1) l
noncomputable def drawV (X : Nat → Option XDef) (l : List (Nat × XOper × List Nat)) (K : Env → Heap → Prop) (e : Env) (h : Heap) : Prop :=
  match onlyReads l with
  | true => opsW X (opersOf l) K e h
  | false => drawW X l ⟨[], [], []⟩ K e h

/-! ### Code with its joins, its loops named: L: what turns there and is wanted behind, C: what stays -/
inductive ACode where
  | skip
  | ops (l : List XOper)
  | draw (l : List (Nat × XOper × List Nat))
  | seq (a b : ACode)
  | join (L C : List Path) (a b : ACode)
  | cond (c : Arg) (thn els : ACode)
  | block (id : Nat) (body : ACode)
  | loop (L C : List Path) (body : ACode)
  | scope (body : ACode)
  | exit (id : Nat)
  | ret
  | bad
  deriving Inhabited
noncomputable def erase (c : ACode) : XCode :=
  ACode.rec (motive := fun _ => XCode) .skip .ops .draw (fun _ _ a b => .seq a b) (fun _ _ _ _ a b => .seq a b) (fun c _ _ a b => .cond c a b) (fun id _ b => .block id b) (fun _ _ _ b => .loop b) (fun _ b => .scope b) .exit .ret .bad c
noncomputable def dstsO (l : List XOper) : List Path := List.rec (motive := fun _ => List Path) [] (fun o _ ih => match o.dst with | some d => d :: ih | none => ih) l
noncomputable def dstsD (l : List (Nat × XOper × List Nat)) : List Path := List.rec (motive := fun _ => List Path) [] (fun o _ ih => match o.2.1.dst with | some d => d :: ih | none => ih) l
noncomputable def dsts (c : ACode) : List Path :=
  ACode.rec (motive := fun _ => List Path) [] dstsO dstsD (fun _ _ a b => appL a b) (fun _ _ _ _ a b => appL a b) (fun _ _ _ a b => appL a b) (fun _ _ b => b) (fun _ _ _ b => b) (fun _ b => b) (fun _ => []) [] [] c
noncomputable def apartP (C D : List Path) : Bool := allL (fun p => !memP p D) C
noncomputable def okS (T : Tmps) (c : ACode) : Bool :=
  ACode.rec (motive := fun _ => Bool) true (fun l => allL (fun p => hasP p T) (dstsO l)) (fun l => allL (fun p => hasP p T) (dstsD l)) (fun _ _ a b => a && b) (fun _ C a _ iha ihb => apartP C (dsts a) && (iha && ihb)) (fun _ _ _ a b => a && b) (fun _ _ b => b) (fun _ C b ihb => apartP C (dsts b) && ihb) (fun _ b => b) (fun _ => true) true true c

noncomputable def JTy (n : Nat) : Type := Nat.rec (motive := fun _ => Type) (Heap → Prop) (fun _ ih => AVal → ih) n
noncomputable def appJ (n : Nat) : JTy n → List AVal → Heap → Prop :=
  Nat.rec (motive := fun n => JTy n → List AVal → Heap → Prop) (fun J l h => List.casesOn (motive := fun _ => Prop) l (J h) (fun _ _ => False)) (fun _ ih J l h => List.casesOn (motive := fun _ => Prop) l False (fun x r => ih (J x) r h)) n
noncomputable def allN (n : Nat) : (List AVal → Prop) → Prop :=
  Nat.rec (motive := fun _ => (List AVal → Prop) → Prop) (fun P => P []) (fun _ ih P => ∀ x, ih fun l => P (x :: l)) n
theorem allN_of : ∀ {n : Nat} {P : List AVal → Prop}, allN n P → ∀ {l : List AVal}, l.length = n → P l := by
  intro n
  induction n with
  | zero => intro P h l hl; cases l with | nil => exact h | cons _ _ => simp at hl
  | succ n ih =>
    intro P h l hl
    cases l with
    | nil => simp at hl
    | cons x r => exact ih (P := fun l => P (x :: l)) (h x) (by simpa using hl)
noncomputable def valsK (L : List Path) (e : Env) (K : List AVal → Prop) : Prop := match vals L e with | some vs => K vs | none => False

noncomputable def W (X : Nat → Option XDef) (c : ACode) : (XExit → Env → Heap → Prop) → Env → Heap → Prop :=
  ACode.rec (motive := fun _ => (XExit → Env → Heap → Prop) → Env → Heap → Prop)
    (fun K e h => K .normal e h)
    (fun l K e h => opsW X l (fun e' h' => K .normal e' h') e h)
    (fun l K e h => drawV X l (fun e' h' => K .normal e' h') e h)
    (fun _ _ a b K e h => a (fun ex e' h' => XExit.casesOn (motive := fun _ => Prop) ex (b K e' h') (fun id => K (.exit id) e' h') (K .ret e' h')) e h)
    (fun L C _ _ a b K e h => ∃ J : JTy (lenL L), (allN (lenL L) fun xs => ∀ h', appJ _ J xs h' → b K (zipE L xs (pick C e)) h') ∧
      a (fun ex e' h' => XExit.casesOn (motive := fun _ => Prop) ex (valsK L e' fun vs => appJ _ J vs h') (fun id => K (.exit id) e' h') (K .ret e' h')) e h)
    (fun c _ _ a b K e h => match subA e c with | some x => br (x.eval .leaf) (a K e h) (b K e h) | none => False)
    (fun id _ b K e h => b (fun ex e' h' => XExit.casesOn (motive := fun _ => Prop) ex (K .normal e' h') (fun id' => match Nat.beq id' id with | true => K .normal e' h' | false => K (.exit id') e' h') (K .ret e' h')) e h)
    (fun L C _ b K e h => valsK L e fun vs => ∃ I : Nat → JTy (lenL L), (∃ n, appJ _ (I n) vs h) ∧ ∀ n, allN (lenL L) fun xs => ∀ h', appJ _ (I n) xs h' →
      b (fun ex e' h'' => XExit.casesOn (motive := fun _ => Prop) ex (valsK L e' fun vs' => ∃ m, m < n ∧ appJ _ (I m) vs' h'') (fun id => K (.exit id) e' h'') (K .ret e' h'')) (zipE L xs (pick C e)) h')
    (fun _ b K e h => b K e h)
    (fun id K e h => K (.exit id) e h)
    (fun K e h => K .ret e h)
    (fun _ _ _ => False) c

/-! ### It suffices -/
section
variable {X : Nat → Option XDef}
theorem ok_some {o : Option AVal} {K : AVal → Prop} (h : ok o K) : ∃ v, o = some v ∧ K v := by
  unfold ok at h; split at h
  · exact ⟨_, rfl, h⟩
  · exact h.elim
theorem ok2_some {o : Option (AVal × Heap)} {K : AVal → Heap → Prop} (h : ok2 o K) : ∃ v h', o = some (v, h') ∧ K v h' := by
  unfold ok2 at h; split at h
  · exact ⟨_, _, rfl, h⟩
  · exact h.elim
theorem okB_some {o : Option (AVal × Blk)} {K : AVal → Blk → Prop} (h : okB o K) : ∃ v b, o = some (v, b) ∧ K v b := by
  unfold okB at h; split at h
  · exact ⟨_, _, rfl, h⟩
  · exact h.elim
theorem pure1_some {q : XPure} {K : AVal → Prop} (h : pure1 q K) : ∃ v, runPure .leaf q = some v ∧ K v := by
  unfold pure1 at h; split at h
  · exact ⟨_, rfl, h⟩
  · exact ⟨_, rfl, h⟩
  · exact ⟨_, rfl, h⟩
  · exact ok_some h

/-- The guard: not at all, or as its value says. -/
def wantG : Option (AVal × Bool) → Option Bool
  | none => some true
  | some (v, w) => wantV v w
theorem gval_wanted {e : Env} {t : Tmps} (ha : Agr e t) {g : Option (Path × Bool)} {g' : Option (AVal × Bool)} (h : gval e g = some g') : wanted t g = wantG g' := by
  cases g with
  | none => cases h; rfl
  | some pw =>
    obtain ⟨p, w⟩ := pw
    simp only [gval] at h
    split at h
    · rename_i v hv
      cases h
      have := ha p v hv
      simp only [wanted, getT, this, wantG, wantV]
      cases v <;> rfl
    · cases h

theorem actP_some {a : XAct} {h : Heap} {K : AVal → Heap → Prop} (H : actP X a h K) : ∃ k v h', runAct (callX X (run X k)) .leaf h a = some (v, h') ∧ K v h' := by
  unfold actP at H
  split at H
  · rename_i f args
    unfold callV at H
    split at H
    · rename_i g first cap hf
      obtain ⟨k, v, h', hc, p⟩ := H
      refine ⟨k, v, h', ?_, p⟩
      simp only [runAct, a_call, hf]
      exact hc
    · exact H.elim
  · rename_i hne
    obtain ⟨v, h', hc, p⟩ := ok2_some H
    refine ⟨0, v, h', ?_, p⟩
    exact runAct_mono (fun n l h r e => by cases e) hc

/-- What an operation does to the temporaries. -/
structure Moved (t t' : Tmps) (D : List Path) : Prop where
  has : ∀ p, hasP p t' = hasP p t
  get : ∀ p, p ∉ D → getP p t' = getP p t
theorem Moved.refl (t : Tmps) (D : List Path) : Moved t t D := ⟨fun _ => rfl, fun _ _ => rfl⟩
theorem Moved.trans {t t1 t2 : Tmps} {D : List Path} (a : Moved t t1 D) (b : Moved t1 t2 D) : Moved t t2 D := ⟨fun p => (b.has p).trans (a.has p), fun p hp => (b.get p hp).trans (a.get p hp)⟩
theorem Moved.mono {t t' : Tmps} {D E : List Path} (a : Moved t t' D) (h : ∀ p ∈ D, p ∈ E) : Moved t t' E := ⟨a.has, fun p hp => a.get p fun hd => hp (h p hd)⟩
theorem putE_agree {e : Env} {t : Tmps} (ha : Agr e t) {d : Option Path} {v : AVal} {D : List Path} (hd : ∀ p, d = some p → hasP p t = true ∧ p ∈ D) : Agr (putE e d v) (putT t d v) ∧ Moved t (putT t d v) D := by
  cases d with
  | none => exact ⟨ha, Moved.refl _ _⟩
  | some p =>
    obtain ⟨h1, h2⟩ := hd p rfl
    refine ⟨ha.cons h1, fun q => hasP_setP _ _ _ _, fun q hq => ?_⟩
    show getP q (setP p t v) = _
    rw [getP_setP, if_neg (fun h : p = q ∧ _ => hq (h.1 ▸ h2))]

def OpRes (X : Nat → Option XDef) (o : XOper) (t : Tmps) (h : Heap) (D : List Path) (K : Env → Heap → Prop) : Prop := ∃ k s', stepOper (callX X (run X k)) o ⟨t, h⟩ = some s' ∧ Moved t s'.t D ∧ ∃ e', Agr e' s'.t ∧ K e' s'.h
theorem opW_sound {o : XOper} {K : Env → Heap → Prop} {e : Env} {h : Heap} {t : Tmps} {D : List Path} (hd : ∀ p, o.dst = some p → hasP p t = true ∧ p ∈ D) (ha : Agr e t) (H : opW X o K e h) :
    OpRes X o t h D K := by
  unfold opW at H
  split at H
  · exact H.elim
  · rename_i g hg
    have hw := gval_wanted ha hg
    have skip : wanted t o.guard = some false → K (putE e o.dst und) h → OpRes X o t h D K := by
      intro h1 h2
      obtain ⟨p1, p2⟩ := putE_agree ha (v := und) hd
      exact ⟨0, ⟨putT t o.dst und, h⟩, by unfold stepOper; simp only [h1], p2, _, p1, h2⟩
    have done : ∀ k v h', wanted t o.guard = some true → doOp (callX X (run X k)) o.dst ⟨t, h⟩ o.op = some ⟨putT t o.dst v, h'⟩ → K (putE e o.dst v) h' → OpRes X o t h D K := by
      intro k v h' h1 h2 h3
      obtain ⟨p1, p2⟩ := putE_agree ha (v := v) hd
      exact ⟨k, ⟨putT t o.dst v, h'⟩, by unfold stepOper; simp only [h1]; exact h2, p2, _, p1, h3⟩
    split at H
    · rename_i p hop
      split at H
      · rename_i q hq
        have hr := subPure_run ha hq
        have fin : ∀ v, wanted t o.guard = some true → runPure .leaf q = some v → K (putE e o.dst v) h → OpRes X o t h D K := fun v h1 h2 h3 => done 0 v h h1 (by rw [hop]; simp only [doOp, ← hr, h2, putV]) h3
        unfold pureW at H
        split at H
        · obtain ⟨v, h1, h2⟩ := pure1_some H
          exact fin v hw h1 h2
        · rename_i gv w
          obtain ⟨v, h1, h2⟩ := ok_some H
          simp only [wantG] at hw
          unfold gsel at h1
          split at h1
          · rename_i h3; exact fin v (hw.trans h3) h1 h2
          · rename_i h3; simp only [Option.some.injEq] at h1; subst h1; exact skip (hw.trans h3) h2
          · cases h1
      · exact H.elim
    · rename_i r hop
      split at H
      · rename_i q hq
        have hr := subRead_run ha hq h
        have fin : ∀ v, wanted t o.guard = some true → runRead .leaf h q = some v → K (putE e o.dst v) h → OpRes X o t h D K := fun v h1 h2 h3 => done 0 v h h1 (by rw [hop]; simp only [doOp, ← hr, h2, putV]) h3
        obtain ⟨v, h1, h2⟩ := ok_some H
        unfold readG at h1
        split at h1
        · exact fin v hw h1 h2
        · rename_i gv w
          simp only [wantG] at hw
          unfold gsel at h1
          split at h1
          · rename_i h3; exact fin v (hw.trans h3) h1 h2
          · rename_i h3; simp only [Option.some.injEq] at h1; subst h1; exact skip (hw.trans h3) h2
          · cases h1
      · exact H.elim
    · rename_i m hop
      split at H
      · rename_i q hq
        have hr := subMake_run ha hq h.n
        have fin : wanted t o.guard = some true → makeP q h (fun v h' => K (putE e o.dst v) h') → OpRes X o t h D K := fun h1 h2 => by
          obtain ⟨v, h', h3, h4⟩ := ok2_some h2
          unfold mk2 at h3
          split at h3
          · rename_i r h5
            simp only [Option.some.injEq, Prod.mk.injEq] at h3
            obtain ⟨rfl, rfl⟩ := h3
            exact done 0 r.1 (h.push r.2) h1 (by rw [hop]; simp only [doOp, ← hr, h5, putB]) h4
          · cases h3
        unfold guardP at H
        split at H
        · exact fin hw H
        · rename_i gv w
          simp only [wantG] at hw
          unfold gP at H
          split at H
          · rename_i h3; exact fin (hw.trans h3) H
          · rename_i h3; exact skip (hw.trans h3) H
          · exact H.elim
      · exact H.elim
    · rename_i a hop
      split at H
      · rename_i q hq
        have fin : wanted t o.guard = some true → actP X q h (fun v h' => K (putE e o.dst v) h') → OpRes X o t h D K := fun h1 h2 => by
          obtain ⟨k, v, h', h3, h4⟩ := actP_some h2
          rw [subAct_run ha hq] at h3
          exact done k v h' h1 (by rw [hop]; simp only [doOp, h3, putH]) h4
        unfold guardP at H
        split at H
        · exact fin hw H
        · rename_i gv w
          simp only [wantG] at hw
          unfold gP at H
          split at H
          · rename_i h3; exact fin (hw.trans h3) H
          · rename_i h3; exact skip (hw.trans h3) H
          · exact H.elim
      · exact H.elim

theorem opsW_sound : ∀ {l : List XOper} {K : Env → Heap → Prop} {e : Env} {h : Heap} {t : Tmps}, (∀ p ∈ dstsO l, hasP p t = true) → Agr e t → opsW X l K e h →
    ∃ k s', stepOps (callX X (run X k)) l ⟨t, h⟩ = some s' ∧ Moved t s'.t (dstsO l) ∧ ∃ e', Agr e' s'.t ∧ K e' s'.h := by
  intro l
  induction l with
  | nil => intro K e h t _ ha H; exact ⟨0, ⟨t, h⟩, rfl, Moved.refl _ _, e, ha, H⟩
  | cons o l ih =>
    intro K e h t hd ha H
    have H : opW X o (fun e' h' => opsW X l K e' h') e h := H
    have e1 : dstsO (o :: l) = match o.dst with | some d => d :: dstsO l | none => dstsO l := rfl
    have sub : ∀ p ∈ dstsO l, p ∈ dstsO (o :: l) := by intro p hp; rw [e1]; split <;> simp [hp]
    obtain ⟨k1, s1, h1, m1, e', a1, H1⟩ := opW_sound (D := dstsO (o :: l)) (fun p hp => by
      have : p ∈ dstsO (o :: l) := by rw [e1, hp]; simp
      exact ⟨hd p this, this⟩) ha H
    obtain ⟨k2, s2, h2, m2, e'', a2, H2⟩ := ih (t := s1.t) (h := s1.h) (fun p hp => by rw [m1.has]; exact hd p (sub p hp)) a1 H1
    refine ⟨max k1 k2, s2, ?_, m1.trans (m2.mono sub), e'', a2, H2⟩
    have e2 : ∀ f, stepOps f (o :: l) ⟨t, h⟩ = match stepOper f o ⟨t, h⟩ with | some s' => stepOps f l s' | none => none := fun _ => rfl
    rw [e2, stepOper_mono (call_mono (Nat.le_max_left k1 k2)) h1]
    exact stepOps_mono (call_mono (Nat.le_max_right k1 k2)) h2
end
end Go.Ax
