/- A law's own call: what the abstract machine answers, it answers; nothing that was there has turned. -/
import Derived.Test.YtlfmiplojpcklaaAxMain
import Derived.Test.YtlfmiplojpcklaaAxFuel
import Derived.Test.YtlfmiplojpcklaaAxO
import Derived.Test.YtlfmiplojpcklaaAxCanon
import Derived.Below
import Derived.ChangeSame
set_option linter.unusedSimpArgs false
set_option linter.unusedVariables false
namespace Go.Ax
open Go.RowKit Go.WideShapes Go.ChangeShapes
section
variable {P : Program} {X : Nat → Option XDef}
theorem top_calls (hm : P.follows .mixedOrders = true) (hX : XOk P X) {f : Nat} {xf : XFunc} (hf : X f = some (.body xf)) {args : List AVal} {h h' : Heap} {v : AVal} {k : Nat} (hc : call X k f args h = some (v, h')) {φ : Emb} {args' : Array Value} {w : World} (hr : VRels φ args args'.toList) (hR : Rel φ h w) :
    Calls P f args' w fun e w' => ∃ v' φ', e = .returned v' ∧ VRel φ' v v' ∧ Rel φ' h' w' ∧ Fr φ h w φ' h' w' := by
  unfold call callX at hc
  rw [hf] at hc
  simp only at hc
  obtain ⟨f', hf', hcomp⟩ := hX f _ hf
  unfold compFunc at hcomp
  split at hcomp
  · rename_i c rs hbody hrs
    split at hcomp
    · cases hcomp
    · rename_i hname
      simp only [Option.some.injEq] at hcomp; subst hcomp
      split at hc
      · rename_i hle
        have hle := Nat.le_of_ble_eq_true hle
        rw [lenL_eq] at hle
        have ent : TRel φ (XFunc.enter ⟨f'.ntmps, rs, compCode P c⟩ args) (args' ++ Array.replicate (f'.ntmps - args'.size) undef) := enter_rel (fn := ⟨f'.ntmps, rs, compCode P c⟩) hr hle
        have fin : ∀ (e : XExit) (s' : St), (e = .normal ∨ e = .ret) → run X k (compCode P c) ⟨XFunc.enter ⟨f'.ntmps, rs, compCode P c⟩ args, h⟩ = some (e, s') → (results rs s').map (fun v => (v, s'.h)) = some (v, h') →
            Calls P f args' w fun e w' => ∃ v' φ', e = .returned v' ∧ VRel φ' v v' ∧ Rel φ' h' w' ∧ Fr φ h w φ' h' w' := by
          intro e s' he hrun hres
          obtain ⟨v2, hv2, hh⟩ := Option.map_eq_some_iff.1 hres
          simp only [Prod.mk.injEq] at hh
          obtain ⟨rfl, rfl⟩ := hh
          have hwp := (code_ok hm hX k).1 c _ e s' hrun φ { tmps := args' ++ Array.replicate (f'.ntmps - args'.size) undef, defers := [] } w ent hR
          refine calls_of_wp hf' hbody (wp_mono hwp fun ex a' w' p => ?_)
          obtain ⟨h1, h2, φ', h3, h4, h5⟩ := p
          obtain ⟨v', hv', hrel⟩ := results_sound h3 h4 hrs hv2
          rcases he with rfl | rfl <;> cases ex <;> simp only [exitIs] at h1
          · exact ⟨h2, v', hv', v', φ', rfl, hrel, h4, h5⟩
          · exact ⟨h2, v', hv', v', φ', rfl, hrel, h4, h5⟩
        split at hc
        · rename_i s' hrun; exact fin .normal s' (.inl rfl) hrun hc
        · rename_i s' hrun; exact fin .ret s' (.inr rfl) hrun hc
        · cases hc
      · cases hc
  · cases hcomp
theorem Fr.below {φ φ' : Emb} {h h' : Heap} {w w' : World} (F : Fr φ h w φ' h' w') (hro : ∀ b e, φ b = some e → ∃ cs l, h.get b = some (.cells cs .ro l)) : Below w.heap.size w w' :=
  ⟨F.os, F.tape, F.output, F.size, fun k hk => F.keep k hk fun ⟨b, e, x, h1, _, h3, h4⟩ => by
    obtain ⟨cs, l, h5⟩ := hro b e h1
    rw [h5] at h3
    simp only [Option.some.injEq] at h3
    subst h3
    simp [Blk.isRo] at h4⟩
theorem Rel.nothing (w : World) : Rel (fun _ => none) Heap.empty w :=
  have no : ∀ (b : Nat) (x : Blk), Heap.empty.get b ≠ some x := fun b x h => by
    rw [Heap.get_eq] at h; simp [Heap.empty] at h
  ⟨(fun _ _ h => by cases h), (fun _ _ _ h => by cases h), (fun _ _ _ _ _ _ h => by cases h), ⟨(fun b _ _ _ h => absurd h (no b _)), (fun b _ _ _ _ _ h => absurd h (no b _)), (fun b _ _ _ _ _ h => absurd h (no b _))⟩⟩
/-- A law without parameters. -/
theorem closed_law (hm : P.follows .mixedOrders = true) (hX : XOk P X) {f : Nat} {xf : XFunc} (hf : X f = some (.body xf)) {k : Nat} (hc : (call X k f [] Heap.empty).map (·.1) = some (.bool true)) (w : World) :
    Calls P f #[] w fun e w' => e = .returned (.bool true) ∧ Below w.heap.size w w' := by
  obtain ⟨⟨v, h'⟩, hc, hv⟩ := Option.map_eq_some_iff.1 hc
  simp only at hv; subst hv
  refine Calls.mono (top_calls hm hX hf hc (φ := fun _ => Option.none) (args' := #[]) .nil (Rel.nothing w)) ?_
  rintro e w' ⟨v', φ', rfl, g1, g2, g3⟩
  rw [g1.bool_inv]
  exact ⟨rfl, g3.below fun b e h => by cases h⟩
end

section
variable {H : Type} {enc : TypeId × Value → H} {P : Program}
theorem post_of_below {f : Func} {s : ChangeSpec} {apart fresh handsOn again : Bool} {W W' : World} {args : Array Value} {v : Value} {ds gs : List (DataW H)} {before pa pv : List MemPlace}
    (hW : DataW.Whole enc P f.params.toList s.vars apart W args.toList ds gs before)
    (hres : ∀ (b : Nat) (sp : Nat → Bool) (hd : Bool), DataW.TrodAll enc P W' b sp hd f.resultTypes.toList (v.resultList f.resultTypes.size) (s.fn H (ds ++ gs)).results [])
    (hargs : ∀ sp : Nat → Bool, (∀ p ∈ before, sp p.block = true) → DataW.TrodAll enc P W' 0 sp true f.params.toList args.toList (s.fn H (ds ++ gs)).args pa)
    (hvars : ∀ sp : Nat → Bool, (∀ p ∈ before, sp p.block = true) → DataW.TrodVars enc P W' sp s.vars (s.fn H (ds ++ gs)).vars pv)
    (hps : before = pa ++ pv) (hb : Below W.heap.size W W')
    (hok : ∀ (j : Nat) (t : TypeId) (r : Value), f.resultTypes[j]? = some t → (v.resultList f.resultTypes.size)[j]? = some r → Value.okWide P W' .any 0 t r) :
    s.post enc P f apart fresh handsOn again W args v W' := by
  have hlt : ∀ p ∈ before, p.block < W.heap.size := fun p hp => hW.lt p hp
  have hold : ∀ p ∈ before, (fun b => decide (b < W.heap.size)) p.block = true := fun p hp => by simpa using hlt p hp
  refine ⟨ds, gs, before, [], pa, pv, hW, hres _ _ _, hargs _ hold, hvars _ hold, World.keptBut_mono (fun p hp => ⟨hp, ?_⟩) (hb.frame (· ∈ before)), fun _ => ?_⟩
  · rw [hps, List.mem_append] at hp
    exact Or.inr hp
  · obtain ⟨_, _, _, _, _, hz, hn⟩ := hW
    refine ⟨hok, _, _, ([] ++ pa) ++ pv, ⟨[] ++ pa, pv, trodAll_append (hargs _ (fun _ _ => rfl)) (hres _ _ _), hvars _ (fun _ _ => rfl), rfl, ?_, ?_⟩, ?_⟩
    · intro b off hp
      have hin : MemPlace.cell b off ∈ before := by rw [hps]; simpa using hp
      rw [hb.frozen (hlt _ hin)]
      exact hz b off hin
    · intro ha
      have := hn ha
      rw [hps] at this
      simpa using this
    · intro p hp _
      rw [hps]
      simpa using hp
end
end Go.Ax
namespace Go.Ax
theorem known_is {P : Program} {n : Nat} {k : List AVal → Heap → Option (AVal × Heap)} (h : KnownS P n k) {Z : Prop} (hZ : Z = KnownOk P n k) : Z := hZ ▸ h.it
end Go.Ax
namespace Go.Ax
theorem told_s {P : Program} {X : Nat → Option XDef} (hm : P.follows .mixedOrders = true) (hX : XOk P X) {f fuel : Nat} {tab : List Told} (ht : ∀ t ∈ tab, plainV t.v = true ∧ ∃ k h', call X k f t.args (roHeap t.rows) = some (t.v, h')) : KnownS P f (told fuel tab) := ⟨told_ok hm hX ht⟩
end Go.Ax
namespace Go.Ax
theorem known_entry (P : Program) (n m : Nat) (k : List AVal → Heap → Option (AVal × Heap)) (h : KnownS P n k) (hnm : n = m) : ∀ x, some (XDef.known k) = some x → match x with | .body fn => ∃ f, P.funcs[m]? = some f ∧ compFunc P f = some fn | .known k => KnownOk P m k := by
  intro x hx
  simp only [Option.some.injEq] at hx
  subst hx; subst hnm
  exact h.it
theorem none_entry (P : Program) (m : Nat) : ∀ x, (none : Option XDef) = some x → match x with | .body fn => ∃ f, P.funcs[m]? = some f ∧ compFunc P f = some fn | .known k => KnownOk P m k := by
  intro x hx; cases hx
theorem XOk.with {P : Program} {X : Nat → Option XDef} (hX : XOk P X) {n : Nat} {g : List AVal → Heap → Option (AVal × Heap)} (hg : KnownS P n g) : XOk P (fun f => match Nat.beq f n with | true => some (.known g) | false => X f) := by
  intro f d h
  cases hb : Nat.beq f n with
  | true =>
    have := Nat.eq_of_beq_eq_true hb
    subst this
    simp only [hb, Option.some.injEq] at h
    subst h
    exact hg.it
  | false =>
    simp only [hb] at h
    exact hX f d h
end Go.Ax
