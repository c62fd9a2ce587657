/- Slices in the abstract: what they read as. -/
import Derived.Test.YtlfmiplojpcklaaAxS
set_option linter.unusedSimpArgs false
set_option linter.unusedVariables false
namespace Go.Ax
/-- A slice of elements of k cells each reads as a list. -/
inductive Sl (h : Heap) (k : Nat) {α : Type} (enc : α → List AVal) : AVal → List α → Prop where
  | nil : Sl h k enc .nilSlice []
  | zero (b i cap : Nat) (ex : Bool) (hz : cap = 0 ∨ ∃ cs m ln, h.get b = some (.cells cs m ln) ∧ i ≤ cs.length) : Sl h k enc (.slice b i 0 cap k ex) []
  | mk (b i cap : Nat) (ex : Bool) (cs : List AVal) (m : Mode) (ln : Nat) (l : List α) (hb : h.get b = some (.cells cs m ln)) (h0 : 0 < cap) (hc : l.length ≤ cap) (hi : i + l.length * k ≤ cs.length)
      (hr : (cs.drop i).take (l.length * k) = l.flatMap enc) : Sl h k enc (.slice b i l.length cap k ex) l
section
variable {α : Type} {enc : α → List AVal} {k : Nat} {h h' : Heap} {v : AVal} {l : List α}
theorem Sl.keep (hs : Sl h k enc v l) (hk : Keeps h h') : Sl h' k enc v l := by
  cases hs with
  | nil => exact .nil
  | zero b i cap ex hz => exact .zero b i cap ex (hz.imp id fun ⟨cs, m, ln, e, hi⟩ => ⟨cs, m, ln, hk.some e, hi⟩)
  | mk b i cap ex cs m ln l hb h0 hc hi hr => exact .mk b i cap ex cs m ln l (hk.some hb) h0 hc hi hr
theorem Sl.len (hs : Sl h k enc v l) : oLen v = some (.int .i64 l.length) := by cases hs <;> rfl
theorem flat_get (henc : ∀ x, (enc x).length = k) : ∀ (l : List α) (j o : Nat) (hj : j < l.length), o < k → (l.flatMap enc)[j * k + o]? = (enc l[j])[o]? := by
  intro l
  induction l with
  | nil => intro j o hj; simp at hj
  | cons x l ih =>
    intro j o hj ho
    rw [List.flatMap_cons]
    cases j with
    | zero => rw [Nat.zero_mul, Nat.zero_add, List.getElem?_append_left (by rw [henc]; exact ho)]; rfl
    | succ j =>
      rw [List.getElem?_append_right (by rw [henc, Nat.succ_mul]; omega), henc, show (j + 1) * k + o - k = j * k + o by rw [Nat.succ_mul]; omega]
      exact ih j o (by simpa using hj) ho
theorem flat_length (henc : ∀ x, (enc x).length = k) (l : List α) : (l.flatMap enc).length = l.length * k := by
  induction l with
  | nil => simp
  | cons x l ih => rw [List.flatMap_cons, List.length_append, henc, ih, List.length_cons, Nat.succ_mul]; omega
/-- An element's place, and what lies there. -/
theorem Sl.at (henc : ∀ x, (enc x).length = k) (hs : Sl h k enc v l) {j : Nat} (hj : j < l.length) : ∃ b i m ln cs, (∀ kd, oIA k v (.int kd (j : Int)) = some (.ptr b i)) ∧ h.get b = some (.cells cs m ln) ∧ i + k ≤ cs.length ∧ ∀ o, o < k → cs[i + o]? = (enc l[j])[o]? := by
  cases hs with
  | nil => simp at hj
  | zero => simp at hj
  | mk b i cap ex cs m ln l hb h0 hc hi hr =>
    have h1 : (j + 1) * k ≤ l.length * k := Nat.mul_le_mul_right k hj
    rw [Nat.succ_mul] at h1
    refine ⟨b, i + j * k, m, ln, cs, fun kd => ?_, hb, by omega, fun o ho => ?_⟩
    · rw [s_oIA (by omega) (by omega) h0]; simp
    · have := flat_get henc l j o hj ho
      rw [← hr, List.getElem?_take, if_pos (by omega), List.getElem?_drop] at this
      rw [← this]; congr 1; omega
theorem Sl.lt (hs : Sl h k enc v l) (hl : l ≠ []) : ∃ b i cap ex, v = .slice b i l.length cap k ex ∧ b < h.n ∧ 0 < cap := by
  cases hs with
  | nil => exact absurd rfl hl
  | zero => exact absurd rfl hl
  | mk b i cap ex cs m ln l hb h0 hc hi hr => exact ⟨b, i, cap, ex, rfl, Heap.get_lt hb, h0⟩
end
end Go.Ax
namespace Go.Ax
/-- It answers so, and leaves all that was. -/
def PostC (r : AVal) (h : Heap) (v : AVal) (h' : Heap) : Prop := v = r ∧ Keeps h h'
def GivesC (X : Nat → Option XDef) (f : Nat) (args : List AVal) (h : Heap) (r : AVal) : Prop := FnC X f args h (PostC r h)
theorem GivesC.use {X : Nat → Option XDef} {f : Nat} {args : List AVal} {h : Heap} {r : AVal} (H : GivesC X f args h r) {K : AVal → Heap → Prop} (hk : ∀ h', Keeps h h' → K r h') : FnC X f args h K := H.mono fun v h' ⟨e, p⟩ => e ▸ hk h' p
end Go.Ax
