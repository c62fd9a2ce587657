/- A call that only reads: its answer is looked up by what it is handed, numbered anew, and nothing is left behind. -/
import Derived.Test.YtlfmiplojpcklaaAxMain
set_option linter.unusedSimpArgs false
set_option linter.unusedVariables false
namespace Go.Ax

def idxOf (b : Nat) : List Nat → Option Nat
  | [] => none
  | a :: r => match Nat.beq a b with | true => some 0 | false => (match idxOf b r with | some k => some (k + 1) | none => none)
theorem idxOf_some {b : Nat} : ∀ {l : List Nat} {k : Nat}, idxOf b l = some k → l[k]? = some b := by
  intro l
  induction l with
  | nil => intro k h; cases h
  | cons a r ih =>
    intro k h
    simp only [idxOf] at h
    split at h
    · rename_i e
      simp only [Option.some.injEq] at h; subst h
      rw [Nat.eq_of_beq_eq_true e]; rfl
    · split at h
      · rename_i k' e
        simp only [Option.some.injEq] at h; subst h
        simpa using ih e
      · cases h

mutual
/-- Blocks numbered by their place in a list. -/
def ren (l : List Nat) : AVal → Option AVal
  | .ptr b i => (match idxOf b l with | some k => some (.ptr k i) | none => none)
  | .slice b i len cap es ex => (match cap with | 0 => some (.slice 0 i len 0 es ex) | c + 1 => (match idxOf b l with | some k => some (.slice k i len (c + 1) es ex) | none => none))
  | .map _ => none
  | .func f a c => (match renL l a, renL l c with | some a', some c' => some (.func f a' c') | _, _ => none)
  | .iface t v => (match ren l v with | some v' => some (.iface t v') | none => none)
  | .agg cs => (match renL l cs with | some c => some (.agg c) | none => none)
  | .tup cs => (match renL l cs with | some c => some (.tup c) | none => none)
  | v => some v
def renL (l : List Nat) : List AVal → Option (List AVal)
  | [] => some []
  | v :: r => (match ren l v, renL l r with | some v', some r' => some (v' :: r') | _, _ => none)
end

def Emb.via (φ : Emb) (l : List Nat) : Emb := fun k => (l[k]?).bind φ
theorem Emb.via_some {φ : Emb} {l : List Nat} {k b : Nat} {e : Loc} (h : l[k]? = some b) (he : φ b = some e) : φ.via l k = some e := by simp [Emb.via, h, he]

mutual
theorem ren_rel {φ : Emb} {l : List Nat} : ∀ {v : AVal} {v' : Value} {u : AVal}, VRel φ v v' → ren l v = some u → VRel (φ.via l) u v'
  | .unk, _, u, h, e => by simp only [ren, Option.some.injEq] at e; subst e; exact .unk _
  | .bool b, _, u, h, e => by simp only [ren, Option.some.injEq] at e; subst e; rw [h.bool_inv]; exact .bool b
  | .int k n, _, u, h, e => by simp only [ren, Option.some.injEq] at e; subst e; rw [h.int_inv]; exact .int k n
  | .str s, _, u, h, e => by simp only [ren, Option.some.injEq] at e; subst e; rw [h.str_inv]; exact .str s
  | .nilPtr, _, u, h, e => by simp only [ren, Option.some.injEq] at e; subst e; rw [h.nilPtr_inv]; exact .nilPtr
  | .ptr b i, _, u, h, e => by
    obtain ⟨e', he, rfl⟩ := h.ptr_inv
    simp only [ren] at e
    split at e
    · rename_i k hk
      simp only [Option.some.injEq] at e; subst e
      exact .ptr k i e' (Emb.via_some (idxOf_some hk) he)
    · cases e
  | .nilSlice, _, u, h, e => by simp only [ren, Option.some.injEq] at e; subst e; rw [h.nilSlice_inv]; exact .nilSlice
  | .slice b i len cap es ex, _, u, h, e => by
    obtain ⟨a, cap', rfl, hc, hl, hx, hcap⟩ := h.slice_inv
    simp only [ren] at e
    split at e
    · simp only [Option.some.injEq] at e; subst e
      obtain rfl : len = 0 := by omega
      exact .sliceZ 0 i es ex a cap' hx
    · rename_i c
      split at e
      · rename_i k hk
        simp only [Option.some.injEq] at e; subst e
        obtain ⟨e', he, rfl, hN⟩ := hcap (by omega)
        exact .slice k i len (c + 1) es ex e' cap' (Emb.via_some (idxOf_some hk) he) (by omega) hl hc hx hN
      · cases e
  | .nilMap, _, u, h, e => by simp only [ren, Option.some.injEq] at e; subst e; rw [h.nilMap_inv]; exact .nilMap
  | .map b, _, u, h, e => by simp only [ren] at e; cases e
  | .func f a c, _, u, h, e => by
    obtain ⟨a', c', rfl, h1, h2⟩ := h.func_inv
    simp only [ren] at e
    split at e
    · rename_i x y hx hy
      simp only [Option.some.injEq] at e; subst e
      exact .func f x y a' c' (renL_rel h1 hx) (renL_rel h2 hy)
    · cases e
  | .nilFunc, _, u, h, e => by simp only [ren, Option.some.injEq] at e; subst e; cases h; exact .nilFunc
  | .nilIface, _, u, h, e => by simp only [ren, Option.some.injEq] at e; subst e; cases h; exact .nilIface
  | .iface t v, _, u, h, e => by
    simp only [ren] at e
    split at e
    · rename_i x hx
      simp only [Option.some.injEq] at e; subst e
      cases h with
      | iface _ _ v' h => exact .iface t x v' (ren_rel h hx)
    · cases e
  | .agg cs, _, u, h, e => by
    obtain ⟨l', rfl, h1⟩ := h.agg_inv
    simp only [ren] at e
    split at e
    · rename_i x hx
      simp only [Option.some.injEq] at e; subst e
      exact .agg x l' (renL_rel h1 hx)
    · cases e
  | .tup cs, _, u, h, e => by
    obtain ⟨l', rfl, h1⟩ := h.tup_inv
    simp only [ren] at e
    split at e
    · rename_i x hx
      simp only [Option.some.injEq] at e; subst e
      exact .tup x l' (renL_rel h1 hx)
    · cases e
theorem renL_rel {φ : Emb} {l : List Nat} : ∀ {vs : List AVal} {vs' : List Value} {us : List AVal}, VRels φ vs vs' → renL l vs = some us → VRels (φ.via l) us vs'
  | [], _, us, h, e => by simp only [renL, Option.some.injEq] at e; subst e; cases h; exact .nil
  | v :: r, _, us, h, e => by
    simp only [renL] at e
    split at e
    · rename_i x y hx hy
      simp only [Option.some.injEq] at e; subst e
      cases h with
      | cons h hl => exact .cons (ren_rel h hx) (renL_rel hl hy)
    · cases e
end

/-- Rows that are only read, the first of them first. -/
def roBlks : List (List AVal) → List Blk
  | [] => []
  | cs :: r => .cells cs .ro 0 :: roBlks r
theorem roBlks_eq (l : List (List AVal)) : roBlks l = l.map fun cs => .cells cs .ro 0 := by
  induction l with
  | nil => rfl
  | cons x l ih => simp [roBlks, ih]
def roHeap (rows : List (List AVal)) : Heap := ⟨(roBlks rows).reverse, rows.length, by simp [roBlks_eq]⟩
theorem roHeap_get (rows : List (List AVal)) (b : Nat) : (roHeap rows).get b = (rows[b]?).map fun cs => .cells cs .ro 0 := by
  rw [Heap.get_eq]
  show (if b < rows.length then (roBlks rows).reverse[rows.length - (b + 1)]? else none) = _
  split
  · rename_i hb
    rw [roBlks_eq, List.getElem?_reverse (by simp; omega)]
    simp only [List.length_map, List.getElem?_map]
    congr 2; omega
  · rename_i hb
    rw [List.getElem?_eq_none (by omega)]; rfl

/-- The rows of these blocks, numbered anew. -/
noncomputable def rowsOf (h : Heap) (all : List Nat) : List Nat → Option (List (List AVal))
  | [] => some []
  | b :: r => (match rowOf h b with | some cs => (match renL all cs, rowsOf h all r with | some c, some q => some (c :: q) | _, _ => none) | none => none)
theorem rowsOf_at {h : Heap} {all : List Nat} : ∀ {l : List Nat} {rows : List (List AVal)}, rowsOf h all l = some rows → rows.length = l.length ∧ ∀ (k : Nat) (cs : List AVal), rows[k]? = some cs → ∃ (b : Nat) (c : List AVal), l[k]? = some b ∧ rowOf h b = some c ∧ renL all c = some cs := by
  intro l
  induction l with
  | nil => intro rows h; simp only [rowsOf, Option.some.injEq] at h; subst h; exact ⟨rfl, fun k cs h => by simp at h⟩
  | cons b r ih =>
    intro rows h
    simp only [rowsOf] at h
    split at h
    · rename_i cs hcs
      split at h
      · rename_i c q hc hq
        simp only [Option.some.injEq] at h; subst h
        obtain ⟨h1, h2⟩ := ih hq
        refine ⟨by simp [h1], fun k cs' hk => ?_⟩
        cases k with
        | zero => simp only [List.getElem?_cons_zero, Option.some.injEq] at hk; subst hk; exact ⟨b, cs, rfl, hcs, hc⟩
        | succ k => simpa using h2 k cs' (by simpa using hk)
      · cases h
    · cases h

theorem renL_length {l : List Nat} : ∀ {vs us : List AVal}, renL l vs = some us → us.length = vs.length := by
  intro vs
  induction vs with
  | nil => intro us h; simp only [renL, Option.some.injEq] at h; subst h; rfl
  | cons v r ih =>
    intro us h
    simp only [renL] at h
    split at h
    · rename_i hx hy
      simp only [Option.some.injEq] at h; subst h
      simp [ih hy]
    · cases h
theorem renL_get {l : List Nat} : ∀ {vs us : List AVal}, renL l vs = some us → ∀ {i : Nat} {u : AVal}, us[i]? = some u → ∃ v, vs[i]? = some v ∧ ren l v = some u := by
  intro vs
  induction vs with
  | nil => intro us h i u hu; simp only [renL, Option.some.injEq] at h; subst h; simp at hu
  | cons v r ih =>
    intro us h i u hu
    simp only [renL] at h
    split at h
    · rename_i hx hy
      simp only [Option.some.injEq] at h; subst h
      cases i with
      | zero => simp only [List.getElem?_cons_zero, Option.some.injEq] at hu; subst hu; exact ⟨v, rfl, hx⟩
      | succ i => simpa using ih hy (by simpa using hu)
    · cases h

theorem canon_rel {φ : Emb} {h : Heap} {w : World} (hR : Rel φ h w) {all : List Nat} {rows : List (List AVal)} (hr : rowsOf h all all = some rows) : Rel (φ.via all) (roHeap rows) w := by
  obtain ⟨hlen, hat⟩ := rowsOf_at hr
  have via : ∀ k e, φ.via all k = some e → ∃ b, all[k]? = some b ∧ φ b = some e := fun k e hk => Option.bind_eq_some_iff.1 hk
  refine ⟨fun k e hk => ?_, fun k e x hk hx => ?_, fun k k' e e' x x' hk hk' hx hx' hl1 hl2 heq hne => ?_, ?_⟩
  · obtain ⟨b, hb, he⟩ := via k e hk
    have := (List.getElem?_eq_some_iff.1 hb).1
    exact ⟨by show k < rows.length; omega, (hR.dom b e he).2⟩
  · rw [roHeap_get] at hx
    obtain ⟨cs, hcs, rfl⟩ := Option.map_eq_some_iff.1 hx
    obtain ⟨b, c, hb, hrow, hren⟩ := hat k cs hcs
    obtain ⟨b', hb', he⟩ := via k e hk
    rw [hb] at hb'; simp only [Option.some.injEq] at hb'; subst hb'
    obtain ⟨m, l, hget⟩ := rowOf_some hrow
    obtain ⟨C, T, fr, h1, h2, h3, h4, _⟩ := hR.blk b e _ he hget
    refine ⟨C, T, fr, h1, h2, by rw [renL_length hren]; exact h3, fun i u hu => ?_, fun hm => absurd rfl hm⟩
    obtain ⟨v, hv, hru⟩ := renL_get hren hu
    obtain ⟨v', g1, g2⟩ := h4 i v hv
    exact ⟨v', g1, ren_rel g2 hru⟩
  · rw [roHeap_get] at hx hx'
    obtain ⟨cs, _, rfl⟩ := Option.map_eq_some_iff.1 hx
    obtain ⟨cs', _, rfl⟩ := Option.map_eq_some_iff.1 hx'
    exact .inl ⟨rfl, rfl⟩
  · have ro : ∀ b cs m l, (roHeap rows).get b = some (.cells cs m l) → m = .ro := by
      intro b cs m l hb
      rw [roHeap_get] at hb
      obtain ⟨c, _, e⟩ := Option.map_eq_some_iff.1 hb
      simp only [Blk.cells.injEq] at e
      exact e.2.1.symm
    refine ⟨fun b cs m l hb hm => absurd (ro b cs m l hb) hm, fun b cs l b' cs' m' hb => ?_, fun b cs l b' cs' m' hb => ?_⟩
    · have := ro b cs .own l hb; cases this
    · have := ro b cs .kin l hb; cases this

mutual
/-- No block in it. -/
def plainV : AVal → Bool
  | .bool _ => true
  | .int _ _ => true
  | .str _ => true
  | .tup l => plainL l
  | .agg l => plainL l
  | _ => false
def plainL : List AVal → Bool
  | [] => true
  | v :: r => plainV v && plainL r
end
mutual
theorem plain_rel {φ ψ : Emb} : ∀ {v : AVal} {v' : Value}, plainV v = true → VRel φ v v' → VRel ψ v v'
  | .bool b, _, _, h => by rw [h.bool_inv]; exact .bool b
  | .int k n, _, _, h => by rw [h.int_inv]; exact .int k n
  | .str s, _, _, h => by rw [h.str_inv]; exact .str s
  | .tup l, _, hp, h => by obtain ⟨l', rfl, h1⟩ := h.tup_inv; exact .tup l l' (plainL_rel (by simpa [plainV] using hp) h1)
  | .agg l, _, hp, h => by obtain ⟨l', rfl, h1⟩ := h.agg_inv; exact .agg l l' (plainL_rel (by simpa [plainV] using hp) h1)
  | .unk, _, hp, _ => by simp [plainV] at hp
  | .nilPtr, _, hp, _ => by simp [plainV] at hp
  | .ptr _ _, _, hp, _ => by simp [plainV] at hp
  | .nilSlice, _, hp, _ => by simp [plainV] at hp
  | .slice .., _, hp, _ => by simp [plainV] at hp
  | .nilMap, _, hp, _ => by simp [plainV] at hp
  | .map _, _, hp, _ => by simp [plainV] at hp
  | .func .., _, hp, _ => by simp [plainV] at hp
  | .nilFunc, _, hp, _ => by simp [plainV] at hp
  | .nilIface, _, hp, _ => by simp [plainV] at hp
  | .iface _ _, _, hp, _ => by simp [plainV] at hp
theorem plainL_rel {φ ψ : Emb} : ∀ {l : List AVal} {l' : List Value}, plainL l = true → VRels φ l l' → VRels ψ l l'
  | [], _, _, h => by cases h; exact .nil
  | v :: r, _, hp, h => by
    simp only [plainL, Bool.and_eq_true] at hp
    cases h with
    | cons h hl => exact .cons (plain_rel hp.1 h) (plainL_rel hp.2 hl)
end

/-- In a memory that is only read, nothing of what was there turns. -/
theorem ro_keeps {φ ψ ψ' : Emb} {h h2 : Heap} {rows : List (List AVal)} {w w' : World} (hR : Rel φ h w) (f : Fr ψ (roHeap rows) w ψ' h2 w') : Rel φ h w' ∧ Fr φ h w φ h w' := by
  have keep : ∀ B, B < w.heap.size → w'.heap[B]? = w.heap[B]? := by
    intro B hB
    refine f.keep B hB ?_
    rintro ⟨b, e, x, _, _, hx, hro⟩
    rw [roHeap_get] at hx
    obtain ⟨cs, _, rfl⟩ := Option.map_eq_some_iff.1 hx
    cases hro
  exact ⟨⟨fun b e hb => ⟨(hR.dom b e hb).1, Nat.lt_of_lt_of_le (hR.dom b e hb).2 f.size⟩, fun b e x hb hx => (hR.blk b e x hb hx).at (keep _ (hR.dom b e hb).2), hR.sep, hR.inv⟩,
    ⟨f.os, f.tape, f.output, f.size, Emb.le_refl φ, Nat.le_refl _, fun B hB _ => keep B hB, fun _ _ _ h => h, fun _ _ h => .inl h⟩⟩

/-- What a table holds: what is handed in, the rows it leads to, the answer. -/
structure Told where
  args : List AVal
  rows : List (List AVal)
  v : AVal
def sameRows : List (List AVal) → List (List AVal) → Bool
  | [], [] => true
  | a :: r, b :: s => (match sameL a b with | true => sameRows r s | false => false)
  | _, _ => false
theorem sameRows_eq : ∀ (a b : List (List AVal)), sameRows a b = true → a = b
  | [], [], _ => rfl
  | [], _ :: _, h => by cases h
  | _ :: _, [], h => by cases h
  | a :: r, b :: s, h => by
    simp only [sameRows] at h
    split at h
    · rename_i e; rw [sameL_eq a b e, sameRows_eq r s h]
    · cases h
def toldIn (args : List AVal) (rows : List (List AVal)) : List Told → Option AVal
  | [] => none
  | t :: r => (match sameL t.args args with | true => (match sameRows t.rows rows with | true => some t.v | false => toldIn args rows r) | false => toldIn args rows r)
theorem toldIn_some {args : List AVal} {rows : List (List AVal)} {v : AVal} : ∀ {l : List Told}, toldIn args rows l = some v → ∃ t ∈ l, t.args = args ∧ t.rows = rows ∧ t.v = v := by
  intro l
  induction l with
  | nil => intro h; cases h
  | cons t r ih =>
    intro h
    have rec' : toldIn args rows r = some v → ∃ u ∈ t :: r, u.args = args ∧ u.rows = rows ∧ u.v = v := fun h => let ⟨u, hu, hh⟩ := ih h; ⟨u, by simp [hu], hh⟩
    simp only [toldIn] at h
    split at h
    · rename_i e1
      split at h
      · rename_i e2
        simp only [Option.some.injEq] at h
        exact ⟨t, by simp, sameL_eq _ _ e1, sameRows_eq _ _ e2, h⟩
      · exact rec' h
    · exact rec' h

mutual
/-- The blocks that a value leads to at once. -/
noncomputable def blksV : AVal → List Nat
  | .ptr b _ => [b]
  | .slice b _ _ cap _ _ => (match cap with | 0 => [] | _ + 1 => [b])
  | .func _ a c => blksL a ++ blksL c
  | .iface _ v => blksV v
  | .agg l => blksL l
  | .tup l => blksL l
  | _ => []
noncomputable def blksL : List AVal → List Nat
  | [] => []
  | v :: r => appL (blksV v) (blksL r)
end
/-- All that is reached, each once, in the order in which it is met. -/
noncomputable def reach (h : Heap) : Nat → List Nat → List Nat → List Nat
  | 0, _, seen => seen
  | _ + 1, [], seen => seen
  | n + 1, b :: r, seen => (match hasN b seen with
    | true => reach h n r seen
    | false => (match rowOf h b with | some cs => reach h n (appL r (blksL cs)) (appL seen [b]) | none => reach h n r (appL seen [b])))
noncomputable def told (fuel : Nat) (tab : List Told) (args : List AVal) (h : Heap) : Option (AVal × Heap) :=
  let all := reach h fuel (blksL args) []
  match renL all args, rowsOf h all all with
  | some a, some rows => (match toldIn a rows tab with | some v => some (v, h) | none => none)
  | _, _ => none

theorem told_ok {P : Program} {X : Nat → Option XDef} (hm : P.follows .mixedOrders = true) (hX : XOk P X) {f fuel : Nat} {tab : List Told} (ht : ∀ t ∈ tab, plainV t.v = true ∧ ∃ k h', call X k f t.args (roHeap t.rows) = some (t.v, h')) : KnownOk P f (told fuel tab) := by
  intro args h v h' hg φ args' w hr hR o a K Q hK
  unfold told at hg
  simp only at hg
  split at hg
  · rename_i ar rows ha hrows
    split at hg
    · rename_i v2 hv2
      simp only [Option.some.injEq, Prod.mk.injEq] at hg
      obtain ⟨rfl, rfl⟩ := hg
      obtain ⟨t, htm, rfl, rfl, rfl⟩ := toldIn_some hv2
      obtain ⟨hp, k, h2, hc⟩ := ht t htm
      refine call_sound hm hX hc (renL_rel hr ha) (canon_rel hR hrows) o a K Q fun v' φ' w' g1 g2 g3 => ?_
      obtain ⟨r1, r2⟩ := ro_keeps hR g3
      exact hK v' φ w' (plain_rel hp g1) r1 r2
    · cases hg
  · cases hg
end Go.Ax
