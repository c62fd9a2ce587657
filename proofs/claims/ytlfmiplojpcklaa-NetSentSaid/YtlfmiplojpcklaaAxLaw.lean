/- A law's own call, whatever is handed in: the abstract law suffices. -/
import Derived.Test.YtlfmiplojpcklaaAxArg
import Derived.Carry
import Derived.WalkKit
import Derived.ProofKit
import Derived.OpenShut
import Derived.ChangeCalls
set_option linter.unusedSimpArgs false
set_option linter.unusedVariables false
namespace Go.Ax
open Go.RowKit Go.WideShapes Go.ChangeShapes Go.ChangeAt
section
variable {P : Program} {H : Type} {enc : TypeId × Value → H}
theorem trodAll_stays (hl : laidOutB P = true) {W W' : World} {sp' : Nat → Bool} : ∀ {ts : List TypeId} {vs : List Value} {ds : List (DataW H)} {ps : List MemPlace}, (∀ t ∈ ts, P.readableRec t = true ∧ t < P.types.size) →
    DataW.TrodAll enc P W 0 (fun _ => true) true ts vs ds ps → (∀ p ∈ ps, W.sameAt W' p) → (∀ p ∈ ps, sp' p.block = true) → DataW.TrodAll enc P W' 0 sp' true ts vs ds ps
  | [], _, _, _, _, h, _, _ => by
    obtain ⟨rfl, rfl, rfl⟩ := trodAll_nil h
    exact trodAll_mk0
  | t :: ts, _, _, _, ht, h, h1, h2 => by
    obtain ⟨v, vs1, d, ds1, p, q, rfl, rfl, rfl, g1, g2⟩ := trodAll_cons h
    exact ⟨p, q, WideElems.Trod_stays hl (ht t (by simp)).1 (ht t (by simp)).2 g1 (fun x hx => h1 x (by simp [hx])) (fun x hx => h2 x (by simp [hx])), trodAll_stays hl (fun t' h' => ht t' (by simp [h'])) g2 (fun x hx => h1 x (by simp [hx])) (fun x hx => h2 x (by simp [hx])), rfl⟩
/-- Facts of the types of what is handed in. -/
structure LawTypes (P : Program) (f : Func) (tb : TypeId) : Prop where
  laid : laidOutB P = true
  reads : ∀ t ∈ f.params.toList, P.readableRec t = true ∧ t < P.types.size
  res : f.resultTypes = #[tb]
  bool : P.underlying tb = some .bool
theorem law_contract {X : Nat → Option XDef} (hm : P.follows .mixedOrders = true) (hX : XOk P X) {f : Nat} {fn : Func} {tb : TypeId} (T : LawTypes P fn tb) {xf : XFunc} (hXf : X f = some (.body xf)) {α : Type} {R : Heap → List AVal → α → Prop} (hRA : RepsA P fn.params.toList R)
    (law : ∀ h as a, HInv h → R h as a → FnC X f as h fun v _ => v = .bool true) {s : ChangeSpec} {fresh handsOn again : Bool} (hs : s.vars = []) (hspec : ∀ ds : List (DataW H), ds.length = fn.params.toList.length → s.fn H ds = { results := [.lit (.bool true)], args := ds })
    {W : World} {args : Array Value} {ds gs : List (DataW H)} {before : List MemPlace} {base : Nat} (hval : ∀ (j : Nat) t v, fn.params[j]? = some t → args[j]? = some v → Value.okWide P W .any base t v)
    (hW : DataW.Whole enc P fn.params.toList s.vars false W args.toList ds gs before) : Calls P f args W fun e W' => ∃ v, e = .returned v ∧ s.post enc P fn false fresh handsOn again W args v W' := by
  have hW' := hW
  obtain ⟨p, q, hA, hV, rfl, hfz, hnd⟩ := hW
  rw [hs] at hV
  obtain ⟨rfl, rfl⟩ := trodVars_none hV
  have hok0 : ∀ (j : Nat) t v, fn.params[j]? = some t → args[j]? = some v → Value.okWide P W .any 0 t v := fun j t v h1 h2 => Value.okWide_any_base (hval j t v h1 h2)
  obtain ⟨φ, h, as, a, _, _, hR, hro, hv, ha⟩ := hRA enc W args.toList ds p hA (fun j t v ht hv => hok0 j t v (by rw [← Array.getElem?_toList]; exact ht) (by rw [← Array.getElem?_toList]; exact hv)) (fun _ => none) Heap.empty (Rel.nothing W) (fun _ _ h => by cases h)
  obtain ⟨k, v, h', hc, hvv⟩ := law h as a hR.inv ha
  subst hvv
  refine Calls.mono (top_calls hm hX hXf hc hv hR) ?_
  rintro e W' ⟨v', φ', rfl, g1, g2, g3⟩
  rw [g1.bool_inv]
  have hb := g3.below fun b e he => hro b e he
  have hlen : ds.length = fn.params.toList.length := (Go.trodAll_length hA).2
  have hsp := hspec ds hlen
  refine ⟨_, rfl, post_of_below (pa := p) (pv := []) hW' (fun _ _ _ => ?_) (fun sp hsp2 => ?_) (fun _ _ => ?_) rfl hb (ok_one T.res rfl (okWide_bool_mk T.bool _))⟩
  · rw [List.append_nil, hsp, T.res]
    exact trodAll_cons_mk (shut_bool T.bool _) trodAll_mk0
  · rw [List.append_nil, hsp]
    exact trodAll_stays T.laid T.reads hA (fun x hx => hb.same (hW'.lt x (by simp [hx]))) (fun x hx => hsp2 x (by simp [hx]))
  · rw [List.append_nil, hsp, hs]
    rfl
end
end Go.Ax
