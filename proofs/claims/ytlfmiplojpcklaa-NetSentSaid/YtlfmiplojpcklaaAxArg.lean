/- Arguments: whatever is handed in (numbers, bools, strings, structs and slices of these) has its abstract, in rows that are only read. -/
import Derived.Test.YtlfmiplojpcklaaAxTop
import Derived.Test.YtlfmiplojpcklaaAxSl
import Derived.ChangeArms
import Derived.Carry
set_option linter.unusedSimpArgs false
set_option linter.unusedVariables false
namespace Go.Ax
open Go.RowKit Go.WideShapes Go.ChangeShapes
def RoAll (φ : Emb) (h : Heap) : Prop := ∀ b e, φ b = some e → ∃ cs l, h.get b = some (.cells cs .ro l)
theorem Rel.pushRo {φ : Emb} {h : Heap} {w : World} (hR : Rel φ h w) (hro : RoAll φ h) {B o : Nat} {C : Array Value} {T : TypeId} {fr : Nat × Nat} {row : List AVal} (hB : w.heap[B]? = some (.cells C T fr)) (ho : o ≤ C.size) (hl : row.length ≤ C.size - o) (hc : CellsOk φ row C o) :
    Rel (φ.upd h.n ⟨B, o, C.size - o⟩) (h.push (.cells row .ro 0)) w ∧ RoAll (φ.upd h.n ⟨B, o, C.size - o⟩) (h.push (.cells row .ro 0)) ∧ φ.le (φ.upd h.n ⟨B, o, C.size - o⟩) := by
  have hle := hR.upd_le ⟨B, o, C.size - o⟩
  have hBn : B < w.heap.size := by
    rcases Nat.lt_or_ge B w.heap.size with h1 | h1
    · exact h1
    · rw [Array.getElem?_eq_none h1] at hB; cases hB
  have ro2 : RoAll (φ.upd h.n ⟨B, o, C.size - o⟩) (h.push (.cells row .ro 0)) := by
    intro b e hb
    rcases upd_inv hb with ⟨rfl, rfl⟩ | ⟨h1, h2⟩
    · exact ⟨row, 0, by rw [Heap.get_push, if_pos rfl]⟩
    · obtain ⟨cs, l, h3⟩ := hro b e h2
      exact ⟨cs, l, by rw [Heap.get_push, if_neg h1]; exact h3⟩
  refine ⟨⟨?_, ?_, ?_, hR.inv.push fun cs m l hx => by simp only [Blk.cells.injEq] at hx; exact .inl hx.2.1.symm⟩, ro2, hle⟩
  · intro b e hb
    rcases upd_inv hb with ⟨rfl, rfl⟩ | ⟨h1, h2⟩
    · exact ⟨by show h.n < h.n + 1; omega, hBn⟩
    · have := hR.dom b e h2; exact ⟨by show b < h.n + 1; omega, this.2⟩
  · intro b e y hb hy
    rw [Heap.get_push] at hy
    rcases upd_inv hb with ⟨rfl, rfl⟩ | ⟨h1, h2⟩
    · rw [if_pos rfl] at hy
      simp only [Option.some.injEq] at hy; subst hy
      exact ⟨C, T, fr, hB, by simp only; omega, hl, hc.mono hle, fun hh => absurd rfl hh⟩
    · rw [if_neg h1] at hy
      exact (hR.blk b e y h2 hy).mono hle
  · intro b b' e e' y y' hb hb' hy hy' _ _ _ _
    left
    obtain ⟨cs, l, h3⟩ := ro2 b e hb
    obtain ⟨cs', l', h3'⟩ := ro2 b' e' hb'
    rw [h3] at hy; rw [h3'] at hy'
    simp only [Option.some.injEq] at hy hy'
    subst hy; subst hy'
    exact ⟨rfl, rfl⟩

/-- What the type's cells read as, in the abstract. -/
def Reps (P : Program) (t : TypeId) {α : Type} (R : Heap → List AVal → α → Prop) : Prop :=
  ∀ {H : Type} (enc : TypeId × Value → H) (w : World) (fuel : Nat) (cs : List Value) (x : DataW H × List MemPlace), DataW.trod enc P w 0 (fun _ => true) true fuel t cs = some x → ∀ (φ : Emb) (h : Heap), Rel φ h w → RoAll φ h →
    ∃ φ' h' acs a, φ.le φ' ∧ Keeps h h' ∧ Rel φ' h' w ∧ RoAll φ' h' ∧ VRels φ' acs cs ∧ R h' acs a
def Mono {α : Type} (R : Heap → List AVal → α → Prop) : Prop := ∀ h h' acs a, Keeps h h' → R h acs a → R h' acs a

def RInt (k : IntKind) (_ : Heap) (acs : List AVal) (n : Int) : Prop := acs = [.int k n] ∧ (Lit.int k n).wf = true
def RBool (_ : Heap) (acs : List AVal) (b : Bool) : Prop := acs = [.bool b]
def RStr (_ : Heap) (acs : List AVal) (s : ByteArray) : Prop := acs = [.str s] ∧ s.size ≤ maxLen
section
variable {P : Program} {t : TypeId}
theorem reps_int {k : IntKind} (hu : P.underlying t = some (.int k)) : Reps P t (RInt k) := by
  intro H enc w fuel cs x hx φ h hR hro
  obtain ⟨n, rfl, _, hw⟩ := DataW.trod_int hu hx
  exact ⟨φ, h, _, n, Emb.le_refl φ, Keeps.refl h, hR, hro, .cons (.int k n) .nil, rfl, hw⟩
theorem reps_bool (hu : P.underlying t = some .bool) : Reps P t RBool := by
  intro H enc w fuel cs x hx φ h hR hro
  obtain ⟨b, rfl, _⟩ := DataW.trod_bool hu hx
  exact ⟨φ, h, _, b, Emb.le_refl φ, Keeps.refl h, hR, hro, .cons (.bool b) .nil, rfl⟩
theorem reps_str (hu : P.underlying t = some .string) : Reps P t RStr := by
  intro H enc w fuel cs x hx φ h hR hro
  obtain ⟨s, rfl, _, hs⟩ := DataW.trod_string hu hx
  exact ⟨φ, h, _, s, Emb.le_refl φ, Keeps.refl h, hR, hro, .cons (.str s) .nil, rfl, hs⟩
theorem mono_int {k : IntKind} : Mono (RInt k) := fun _ _ _ _ _ h => h
theorem mono_bool : Mono RBool := fun _ _ _ _ _ h => h
theorem mono_str : Mono RStr := fun _ _ _ _ _ h => h

/-! ### Structs: fields, one behind the other -/
def RepsF (P : Program) (fs : List Field) (o total : Nat) {α : Type} (R : Heap → List AVal → α → Prop) : Prop :=
  ∀ {H : Type} (enc : TypeId × Value → H) (w : World) (n : Nat) (cs : List Value), cs.length = total → (∀ f ∈ fs, ∃ x, DataW.trod enc P w 0 (fun _ => true) true n f.type ((cs.drop f.offset).take (P.cellsOf f.type)) = some x) → ∀ (φ : Emb) (h : Heap), Rel φ h w → RoAll φ h →
    ∃ φ' h' acs a, φ.le φ' ∧ Keeps h h' ∧ Rel φ' h' w ∧ RoAll φ' h' ∧ VRels φ' acs (cs.drop o) ∧ R h' acs a
def RNil (_ : Heap) (acs : List AVal) (_ : Unit) : Prop := acs = []
def RCons {α β : Type} (R : Heap → List AVal → α → Prop) (S : Heap → List AVal → β → Prop) (h : Heap) (acs : List AVal) (p : α × β) : Prop := ∃ l r, acs = l ++ r ∧ R h l p.1 ∧ S h r p.2
theorem repsF_nil {o : Nat} : RepsF P [] o o RNil := by
  intro H enc w n cs hcs _ φ h hR hro
  refine ⟨φ, h, [], (), Emb.le_refl φ, Keeps.refl h, hR, hro, ?_, rfl⟩
  rw [List.drop_of_length_le (by omega)]; exact .nil
theorem repsF_cons {f : Field} {fs : List Field} {o s total : Nat} {α β : Type} {R : Heap → List AVal → α → Prop} {S : Heap → List AVal → β → Prop} (hf : f.offset = o) (hs : P.cellsOf f.type = s) (h1 : Reps P f.type R) (hm : Mono R) (h2 : RepsF P fs (o + s) total S) : RepsF P (f :: fs) o total (RCons R S) := by
  intro H enc w n cs hcs hall φ h hR hro
  obtain ⟨x, hx⟩ := hall f (by simp)
  obtain ⟨φ1, g1, l, a, e1, k1, r1, o1, v1, p1⟩ := h1 enc w n _ x hx φ h hR hro
  obtain ⟨φ2, g2, r, b, e2, k2, r2, o2, v2, p2⟩ := h2 enc w n cs hcs (fun f' hf' => hall f' (by simp [hf'])) φ1 g1 r1 o1
  refine ⟨φ2, g2, l ++ r, (a, b), Emb.le_trans e1 e2, k1.trans k2, r2, o2, ?_, l, r, rfl, hm _ _ _ _ k2 p1, p2⟩
  rw [hf, hs] at v1
  have := (v1.mono e2).append v2
  rwa [← List.drop_drop, List.take_append_drop] at this
theorem reps_struct {fs : Array Field} {α : Type} {R : Heap → List AVal → α → Prop} (hu : P.underlying t = some (.struct fs)) (hf : RepsF P fs.toList 0 (P.cellsOf t) R) : Reps P t R := by
  intro H enc w fuel cs x hx φ h hR hro
  obtain ⟨xs, n, rfl, _, hl, hlen, hall⟩ := DataW.trod_struct hu hx
  have := hf enc w n cs hl (fun f hmem => by
    obtain ⟨i, hi, rfl⟩ := List.getElem_of_mem hmem
    have hi' : i < fs.size := by simpa using hi
    have h3 := hall i fs[i] (by simp [hi'])
    refine ⟨xs[i]'(by omega), ?_⟩
    rw [List.getElem?_eq_getElem (by omega)] at h3
    simpa using h3) φ h hR hro
  simpa using this
theorem mono_nil : Mono RNil := fun _ _ _ _ _ h => h
theorem mono_cons {α β : Type} {R : Heap → List AVal → α → Prop} {S : Heap → List AVal → β → Prop} (h1 : Mono R) (h2 : Mono S) : Mono (RCons R S) := by
  rintro h h' acs a hk ⟨l, r, rfl, p, q⟩
  exact ⟨l, r, rfl, h1 _ _ _ _ hk p, h2 _ _ _ _ hk q⟩

/-! ### Slices -/
/-- A slice reads as a list, its elements as they do. -/
def SlR (h : Heap) (k : Nat) {α : Type} (R : Heap → List AVal → α → Prop) (v : AVal) (l : List α) : Prop :=
  ∃ chunks : List (List AVal), Sl h k id v chunks ∧ chunks.length = l.length ∧ ∀ (i : Nat) (h1 : i < chunks.length) (h2 : i < l.length), R h chunks[i] l[i]
def RSl (k : Nat) {α : Type} (R : Heap → List AVal → α → Prop) (h : Heap) (acs : List AVal) (l : List α) : Prop := ∃ v, acs = [v] ∧ SlR h k R v l ∧ l.length ≤ maxLen
theorem mono_sl {k : Nat} {α : Type} {R : Heap → List AVal → α → Prop} (hm : Mono R) : Mono (RSl k R) := by
  rintro h h' acs l hk ⟨v, rfl, ⟨chunks, hs, hl, hR⟩, hlen⟩
  exact ⟨v, rfl, ⟨chunks, hs.keep hk, hl, fun i h1 h2 => hm _ _ _ _ hk (hR i h1 h2)⟩, hlen⟩

theorem cells?_get {w : World} {a : Addr} {k : Nat} {cs : List Value} (h : w.cells? 0 a k = some cs) : cs.length = k ∧ ∀ o, o < k → w.cell? (a.add o) = cs[o]? := by
  unfold World.cells? at h
  rw [if_pos (Nat.zero_le _)] at h
  have hl := mapM_some_length h
  refine ⟨by simpa using hl, fun o ho => ?_⟩
  have := mapM_some_get h o o (by simp [ho])
  exact this
theorem cell?_some {w : World} {a : Addr} {v : Value} (h : w.cell? a = some v) : a.spot = none ∧ ∃ C T fr, w.heap[a.block]? = some (.cells C T fr) ∧ C[a.off]? = some v := by
  unfold World.cell? at h
  split at h
  · rename_i C T fr hC
    split at h
    · cases h
    · rename_i hs
      exact ⟨by simpa using hs, C, T, fr, hC, h⟩
  · cases h

/-- Elements, one behind the other. -/
theorem reps_elems {e : TypeId} {k : Nat} {α : Type} {R : Heap → List AVal → α → Prop} (hk : P.cellsOf e = k) (hE : Reps P e R) (hm : Mono R) (hlen : ∀ h acs a, R h acs a → acs.length = k) {H : Type} (enc : TypeId × Value → H) (w : World) (n : Nat) (a : Addr) :
    ∀ (m : Nat), (∀ i, i < m → ∃ x, (w.cells? 0 (a.add (i * k)) k).bind (DataW.trod enc P w 0 (fun _ => true) true n e) = some x) → ∀ (φ : Emb) (h : Heap), Rel φ h w → RoAll φ h →
    ∃ (φ' : Emb) (h' : Heap) (chunks : List (List AVal)) (l : List α), φ.le φ' ∧ Keeps h h' ∧ Rel φ' h' w ∧ RoAll φ' h' ∧ chunks.length = m ∧ l.length = m ∧ (∀ c ∈ chunks, c.length = k) ∧ (∀ (i : Nat) (h1 : i < chunks.length) (h2 : i < l.length), R h' chunks[i] l[i]) ∧
      ∀ i o, i < m → o < k → ∃ v u, w.cell? ((a.add (i * k)).add o) = some v ∧ (chunks.flatten)[i * k + o]? = some u ∧ VRel φ' u v := by
  intro m
  induction m with
  | zero => intro _ φ h hR hro; exact ⟨φ, h, [], [], Emb.le_refl φ, Keeps.refl h, hR, hro, rfl, rfl, by simp, fun i h1 => by simp at h1, fun i o hi => by omega⟩
  | succ m ih =>
    intro hall φ h hR hro
    obtain ⟨φ1, g1, ch, l, e1, k1, r1, o1, c1, c2, c3, c4, c5⟩ := ih (fun i hi => hall i (by omega)) φ h hR hro
    obtain ⟨x, hx⟩ := hall m (by omega)
    obtain ⟨cs, hcs, hx⟩ := Option.bind_eq_some_iff.1 hx
    obtain ⟨φ2, g2, acs, b, e2, k2, r2, o2, v2, p2⟩ := hE enc w n cs x hx φ1 g1 r1 o1
    have hal := hlen _ _ _ p2
    have hfl : (ch.flatten).length = m * k := by
      rw [List.length_flatten]
      have : ch.map List.length = List.replicate m k := by
        rw [List.eq_replicate_iff]
        refine ⟨by simp [c1], fun y hy => ?_⟩
        obtain ⟨c, hc, rfl⟩ := List.mem_map.1 hy
        exact c3 c hc
      rw [this]; simp
    refine ⟨φ2, g2, ch ++ [acs], l ++ [b], Emb.le_trans e1 e2, k1.trans k2, r2, o2, by simp [c1], by simp [c2], ?_, ?_, ?_⟩
    · intro c hc
      rcases List.mem_append.1 hc with hc | hc
      · exact c3 c hc
      · simp only [List.mem_singleton] at hc; rw [hc]; exact hal
    · intro i h1 h2
      by_cases him : i < m
      · rw [List.getElem_append_left (by omega), List.getElem_append_left (by omega)]
        exact hm _ _ _ _ k2 (c4 i (by omega) (by omega))
      · have : i = m := by simp at h1; omega
        subst this
        have q1 : (ch ++ [acs])[i] = acs := by rw [List.getElem_append_right (by omega)]; simp [c1]
        have q2 : (l ++ [b])[i] = b := by rw [List.getElem_append_right (by omega)]; simp [c2]
        rw [q1, q2]; exact p2
    · intro i o hi ho
      rw [List.flatten_append, List.flatten_singleton]
      by_cases him : i < m
      · obtain ⟨v, u, q1, q2, q3⟩ := c5 i o him ho
        refine ⟨v, u, q1, ?_, q3.mono e2⟩
        rw [List.getElem?_append_left ((List.getElem?_eq_some_iff.1 q2).1)]; exact q2
      · have : i = m := by omega
        subst this
        obtain ⟨q1, q2⟩ := cells?_get hcs
        rw [q2 o ho, List.getElem?_append_right (by omega), hfl, show i * k + o - i * k = o by omega]
        have ho2 : o < acs.length := by omega
        obtain ⟨v', q3, q4⟩ := v2.get o acs[o] (List.getElem?_eq_getElem ho2)
        exact ⟨v', acs[o], q3, List.getElem?_eq_getElem ho2, q4⟩
theorem add_add (a : Addr) (x y : Nat) : (a.add x).add y = a.add (x + y) := by
  unfold Addr.add
  by_cases hx : x = 0
  · subst hx; simp
  · by_cases hy : y = 0
    · subst hy; simp [hx]
    · simp [hx, hy, Nat.add_assoc]
theorem add_block (a : Addr) (x : Nat) : (a.add x).block = a.block := by unfold Addr.add; split <;> rfl
theorem add_off (a : Addr) (x : Nat) : (a.add x).off = a.off + x := by unfold Addr.add; split <;> simp_all
theorem reps_slice {e : TypeId} {k : Nat} {α : Type} {R : Heap → List AVal → α → Prop} (hu : P.underlying t = some (.slice e)) (hk : P.cellsOf e = k) (h0 : 0 < k) (hE : Reps P e R) (hm : Mono R) (hlen : ∀ h acs a, R h acs a → acs.length = k) : Reps P t (RSl k R) := by
  intro H enc w fuel cs x hx φ h hR hro
  rcases DataW.trod_slice hu hx with ⟨rfl, rfl⟩ | ⟨a, len, cap, elems, rest, n, rfl, rfl, rfl, _, hlc, hcm, hel, hat, hsp, _⟩
  · exact ⟨φ, h, [.nilSlice], [], Emb.le_refl φ, Keeps.refl h, hR, hro, .cons .nilSlice .nil, .nilSlice, rfl, ⟨[], .nil, rfl, fun i h1 => by simp at h1⟩, by simp⟩
  · obtain ⟨hrl, hrat⟩ := hsp rfl
    rw [hk] at hat hrat
    rcases Nat.eq_zero_or_pos len with hz | hpos
    · subst hz
      exact ⟨φ, h, [.slice 0 0 0 0 k false], [], Emb.le_refl φ, Keeps.refl h, hR, hro, .cons (.sliceZ 0 0 k false a cap (fun hh => by cases hh)) .nil, _, rfl, ⟨[], .zero 0 0 0 false (.inl rfl), rfl, fun i h1 => by simp at h1⟩, by simp⟩
    · obtain ⟨φ1, g1, ch, l, e1, k1, r1, o1, c1, c2, c3, c4, c5⟩ := reps_elems hk hE hm hlen enc w n a len (fun i hi => ⟨elems[i]'(by omega), by rw [hat i hi, List.getElem?_eq_getElem (by omega)]⟩) φ h hR hro
      obtain ⟨v0, u0, q1, q2, q3⟩ := c5 0 0 hpos h0
      rw [Nat.zero_mul] at q1
      have hadd0 : (a.add 0).add 0 = a := rfl
      rw [hadd0] at q1
      obtain ⟨hspot, C, T, fr, hC, hC0⟩ := cell?_some q1
      have inC : ∀ {j v}, w.cell? (a.add j) = some v → C[a.off + j]? = some v := by
        intro j v hj
        obtain ⟨_, C2, T2, fr2, hC2, hj2⟩ := cell?_some hj
        rw [add_block, hC] at hC2
        simp only [Option.some.injEq, Obj.cells.injEq] at hC2
        obtain ⟨rfl, _, _⟩ := hC2
        rw [add_off] at hj2; exact hj2
      have hcap : a.off + cap * k ≤ C.size := by
        have hlast : ∃ v, w.cell? (a.add ((cap - 1) * k + (k - 1))) = some v := by
          by_cases hh : cap - 1 < len
          · obtain ⟨v, u, q1, _⟩ := c5 (cap - 1) (k - 1) hh (by omega)
            rw [add_add] at q1; exact ⟨v, q1⟩
          · have h3 := hrat (cap - 1 - len) (by omega)
            rw [show len + (cap - 1 - len) = cap - 1 by omega, List.getElem?_eq_getElem (by omega)] at h3
            obtain ⟨cs2, hcs2, _⟩ := Option.bind_eq_some_iff.1 h3
            obtain ⟨q4, q5⟩ := cells?_get hcs2
            have := q5 (k - 1) (by omega)
            rw [add_add, List.getElem?_eq_getElem (by omega)] at this
            exact ⟨_, this⟩
        obtain ⟨v, hv⟩ := hlast
        have := inC hv
        have hlt : a.off + ((cap - 1) * k + (k - 1)) < C.size := by
          rcases Nat.lt_or_ge (a.off + ((cap - 1) * k + (k - 1))) C.size with h1 | h1
          · exact h1
          · rw [Array.getElem?_eq_none h1] at this; cases this
        have : cap * k = (cap - 1) * k + k := by
          have : cap = (cap - 1) + 1 := by omega
          rw [this, Nat.succ_mul]; simp
        omega
      have hlk : len * k ≤ cap * k := Nat.mul_le_mul_right k hlc
      have hfl : (ch.flatten).length = len * k := by
        rw [List.length_flatten]
        have : ch.map List.length = List.replicate len k := by
          rw [List.eq_replicate_iff]
          refine ⟨by simp [c1], fun y hy => ?_⟩
          obtain ⟨c, hc, rfl⟩ := List.mem_map.1 hy
          exact c3 c hc
        rw [this]; simp
      have hcells : CellsOk φ1 ch.flatten C a.off := by
        intro i c hi
        have hil : i < len * k := by rw [← hfl]; exact (List.getElem?_eq_some_iff.1 hi).1
        have hdiv : i / k < len := by rw [Nat.div_lt_iff_lt_mul h0]; exact hil
        obtain ⟨v, u, q1, q2, q3⟩ := c5 (i / k) (i % k) hdiv (Nat.mod_lt _ h0)
        rw [add_add, Nat.div_add_mod'] at q1
        rw [Nat.div_add_mod', hi] at q2
        simp only [Option.some.injEq] at q2; subst q2
        exact ⟨v, inC q1, q3⟩
      obtain ⟨r2, o2, e2⟩ := r1.pushRo o1 (o := a.off) hC (by omega) (by rw [hfl]; omega) hcells
      refine ⟨_, _, [.slice g1.n 0 len len k false], l, Emb.le_trans e1 e2, k1.push' _, r2, o2, ?_, _, rfl, ⟨ch, ?_, by omega, fun i h1 h2 => hm _ _ _ _ (Keeps.push _ _) (c4 i h1 h2)⟩, by rw [c2]; omega⟩
      · have hv := VRel.slice (φ := φ1.upd g1.n ⟨a.block, a.off, C.size - a.off⟩) g1.n 0 len len k false ⟨a.block, a.off, C.size - a.off⟩ cap (Emb.upd_self _ _ _) hpos (Nat.le_refl _) hlc (fun hh => by cases hh) (by simp only; omega)
        have ha : (⟨a.block, a.off + 0, none⟩ : Addr) = a := by cases a; simp only at hspot; subst hspot; rfl
        rw [ha] at hv
        exact .cons hv .nil
      · have := Sl.mk (enc := id) (k := k) g1.n 0 len false ch.flatten .ro 0 ch (s_get_push_eq _ _) hpos (by omega) (by rw [c1, hfl]; omega) (by rw [List.drop_zero, List.take_of_length_le (by rw [hfl, c1]; omega), List.flatMap_id])
        rw [c1] at this
        exact this
end

/-! ### Parameters -/
def argV (agg : Bool) (acs : List AVal) (v : AVal) : Prop := if agg then v = .agg acs else acs = [v]
def RepsA (P : Program) (ts : List TypeId) {α : Type} (R : Heap → List AVal → α → Prop) : Prop :=
  ∀ {H : Type} (enc : TypeId × Value → H) (w : World) (vs : List Value) (ds : List (DataW H)) (ps : List MemPlace), DataW.TrodAll enc P w 0 (fun _ => true) true ts vs ds ps → (∀ (j : Nat) t v, ts[j]? = some t → vs[j]? = some v → Value.okWide P w .any 0 t v) → ∀ (φ : Emb) (h : Heap), Rel φ h w → RoAll φ h →
    ∃ φ' h' as a, φ.le φ' ∧ Keeps h h' ∧ Rel φ' h' w ∧ RoAll φ' h' ∧ VRels φ' as vs ∧ R h' as a
/-- The first parameter, the others. -/
def RArg {α β : Type} (agg : Bool) (R : Heap → List AVal → α → Prop) (S : Heap → List AVal → β → Prop) (h : Heap) (as : List AVal) (p : α × β) : Prop := ∃ v r acs, as = v :: r ∧ argV agg acs v ∧ R h acs p.1 ∧ S h r p.2
section
variable {P : Program}
theorem repsA_nil : RepsA P [] RNil := by
  intro H enc w vs ds ps hT _ φ h hR hro
  obtain ⟨rfl, _, _⟩ := trodAll_nil hT
  exact ⟨φ, h, [], (), Emb.le_refl φ, Keeps.refl h, hR, hro, .nil, rfl⟩
theorem repsA_cons {t : TypeId} {ts : List TypeId} {α β : Type} {R : Heap → List AVal → α → Prop} {S : Heap → List AVal → β → Prop} {agg : Bool} (ha : (match P.underlying t with | some (.struct _) | some (.array _ _) => true | _ => false) = agg) (h1 : Reps P t R) (hm : Mono R) (hone : agg = false → ∀ h acs a, R h acs a → acs.length = 1) (h2 : RepsA P ts S) : RepsA P (t :: ts) (RArg agg R S) := by
  intro H enc w vs ds ps hT hok φ h hR hro
  obtain ⟨v, vs1, d, ds1, p, q, rfl, rfl, rfl, ⟨fuel, hx⟩, hT2⟩ := trodAll_cons hT
  obtain ⟨φ1, g1, l, a, e1, k1, r1, o1, v1, p1⟩ := h1 enc w fuel _ _ hx φ h hR hro
  obtain ⟨φ2, g2, r, b, e2, k2, r2, o2, v2, p2⟩ := h2 enc w vs1 ds1 q hT2 (fun j t' v' hj hv => hok (j + 1) t' v' (by simpa using hj) (by simpa using hv)) φ1 g1 r1 o1
  have hv := hok 0 t v rfl rfl
  have p1' := hm _ _ _ _ k2 p1
  unfold Value.okWide at hv
  have key : ∃ u, argV agg l u ∧ VRel φ1 u v := by
    split at hv
    · rename_i hu
      obtain ⟨cs, rfl, _, _⟩ := hv
      rw [hu] at ha; subst ha
      exact ⟨.agg l, by simp [argV], .agg l cs v1⟩
    · rename_i hu
      obtain ⟨cs, rfl, _, _⟩ := hv
      rw [hu] at ha; subst ha
      exact ⟨.agg l, by simp [argV], .agg l cs v1⟩
    · rename_i hu1 hu2
      have hag : agg = false := by
        subst ha
        split
        · rename_i hh; exact absurd hh (hu1 _)
        · rename_i hh; exact absurd hh (hu2 _ _)
        · rfl
      subst hag
      have hl1 := hone rfl _ _ _ p1
      match l, hl1, v1 with
      | [u], _, v1 =>
        refine ⟨u, by simp [argV], ?_⟩
        have hcell : v.cells.toList = [v] ∨ ∃ cs, v = .agg cs := by
          cases v <;> first | (left; rfl) | (right; exact ⟨_, rfl⟩)
        rcases hcell with hc | ⟨cs, rfl⟩
        · rw [hc] at v1
          cases v1 with
          | cons h3 _ => exact h3
        · exfalso
          unfold Cell.okWide at hv
          split at hv
          all_goals first | (simp_all; done) | (unfold Cell.ok at hv; split at hv <;> simp_all)
  obtain ⟨u, hu1, hu2⟩ := key
  exact ⟨φ2, g2, u :: r, (a, b), Emb.le_trans e1 e2, k1.trans k2, r2, o2, .cons (hu2.mono e2) v2, u, r, l, rfl, hu1, p1', p2⟩
end
theorem flat_chunks {α : Type} {enc : α → List AVal} : ∀ {ch : List (List AVal)} {l : List α}, ch.length = l.length → (∀ (i : Nat) (h1 : i < ch.length) (h2 : i < l.length), ch[i] = enc l[i]) → ch.flatMap id = l.flatMap enc
  | [], [], _, _ => rfl
  | c :: ch, x :: l, hl, h => by
    rw [List.flatMap_cons, List.flatMap_cons, flat_chunks (by simpa using hl) (fun i h1 h2 => by have := h (i + 1) (by simpa using h1) (by simpa using h2); simpa using this)]
    have := h 0 (by simp) (by simp)
    simp only [List.getElem_cons_zero] at this
    rw [this]; rfl
/-- Numbers handed in. -/
theorem slR_int {h : Heap} {kd : IntKind} {v : AVal} {l : List Int} (hs : SlR h 1 (RInt kd) v l) : Sl h 1 (fun n => [.int kd n]) v l ∧ ∀ n ∈ l, (Lit.int kd n).wf = true := by
  obtain ⟨ch, hs, hl, hR⟩ := hs
  have hw : ∀ n ∈ l, (Lit.int kd n).wf = true := fun n hn => by
    obtain ⟨i, hi, rfl⟩ := List.mem_iff_getElem.1 hn
    exact (hR i (by omega) hi).2
  have hf := flat_chunks (enc := fun n : Int => [AVal.int kd n]) hl fun i h1 h2 => (hR i h1 h2).1
  refine ⟨?_, hw⟩
  cases hs with
  | nil =>
    have : l = [] := List.eq_nil_of_length_eq_zero hl.symm
    subst this; exact .nil
  | zero b i cap ex hz =>
    have : l = [] := List.eq_nil_of_length_eq_zero hl.symm
    subst this; exact .zero b i cap ex hz
  | mk b i cap ex cs m ln _ hb h0 hc hi hr =>
    rw [hl] at hc hi hr ⊢
    exact .mk b i cap ex cs m ln l hb h0 hc hi (by rw [hr, hf])
end Go.Ax
