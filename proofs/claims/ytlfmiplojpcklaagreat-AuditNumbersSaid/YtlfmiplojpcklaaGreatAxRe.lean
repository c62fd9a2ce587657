/- The same memory, told otherwise: rows whose room is told, rows cut down, blocks forgotten. -/
import Derived.Test.YtlfmiplojpcklaaGreatAxMain
set_option linter.unusedSimpArgs false
set_option linter.unusedVariables false
namespace Go.Ax
section
variable {φ : Emb} {h h2 : Heap} {w : World}
theorem Fr.abs (hn : h2.n = h.n) (hro : ∀ b cs l, h.get b = some (.cells cs .ro l) → h2.get b = some (.cells cs .ro l)) : Fr φ h w φ h2 w :=
  ⟨rfl, rfl, rfl, Nat.le_refl _, Emb.le_refl φ, by omega, fun _ _ _ => rfl, hro, fun _ _ h => .inl h⟩
theorem Rel.dead (hR : Rel φ h w) (hn : h2.n = h.n) (hg : ∀ c, h2.get c = h.get c ∨ h2.get c = some .dead) : Rel φ h2 w := by
  have bk : ∀ c y, h2.get c = some y → y.live = true → h.get c = some y := by
    intro c y hy hl
    rcases hg c with h1 | h1
    · rw [← h1]; exact hy
    · rw [h1] at hy; simp only [Option.some.injEq] at hy; subst hy; cases hl
  refine ⟨fun c e hc => by rw [hn]; exact hR.dom c e hc, fun c e y hc hy => ?_, fun c c' e e' y y' hc hc' hy hy' hl hl' => hR.sep c c' e e' y y' hc hc' (bk c y hy hl) (bk c' y' hy' hl') hl hl', ⟨?_, ?_, ?_⟩⟩
  · cases hl : y.live with
    | true => exact hR.blk c e y hc (bk c y hy hl)
    | false => cases y <;> simp [Blk.live] at hl <;> trivial
  · intro c cs m l hc hm
    rw [hn]; exact hR.inv.lt c cs m l (bk c _ hc rfl) hm
  · intro c cs l c' cs' m' hc hc' hm
    exact hR.inv.own c cs l c' cs' m' (bk c _ hc rfl) (bk c' _ hc' rfl) hm
  · intro c cs l c' cs' m' hc hc' hm hne
    exact hR.inv.tip c cs l c' cs' m' (bk c _ hc rfl) (bk c' _ hc' rfl) hm hne
/-- A row told otherwise: what is told is so; a row that others share is told no shorter. -/
theorem Rel.reread (hR : Rel φ h w) {b : Nat} {e : Loc} {cs cs' : List AVal} {m : Mode} {l : Nat} (he : φ b = some e) (hb : h.get b = some (.cells cs m l)) (hm : m = .own ∨ (m = .kin ∧ cs.length ≤ cs'.length))
    (hc : ∀ (i : Nat) (c : AVal), cs'[i]? = some c → cs[i]? = some c ∨ c = AVal.unk) (hl : cs'.length ≤ e.N) : Rel φ (h.set b (.cells cs' m l)) w := by
  have hlt := Heap.get_lt hb
  have hne : m ≠ .ro := by rcases hm with rfl | ⟨rfl, _⟩ <;> decide
  have gs : (h.set b (.cells cs' m l)).get b = some (.cells cs' m l) := by rw [Heap.get_set, if_pos ⟨rfl, hlt⟩]
  have go : ∀ c, c ≠ b → (h.set b (.cells cs' m l)).get c = h.get c := fun c hc => by rw [Heap.get_set, if_neg (fun e => hc e.1)]
  -- whatever is a row behind was a row of that mode and lineage
  have bk : ∀ c cs2 m2 l2, (h.set b (.cells cs' m l)).get c = some (.cells cs2 m2 l2) → ∃ cs3, h.get c = some (.cells cs3 m2 l2) := by
    intro c cs2 m2 l2 hg
    by_cases hcb : c = b
    · subst hcb; rw [gs] at hg; simp only [Option.some.injEq, Blk.cells.injEq] at hg; obtain ⟨rfl, rfl, rfl⟩ := hg; exact ⟨cs, hb⟩
    · rw [go c hcb] at hg; exact ⟨cs2, hg⟩
  -- with another block in the same place
  have apart : ∀ c e2 y, c ≠ b → φ c = some e2 → h.get c = some y → y.live = true → e.B = e2.B → Shares e e2 (.cells cs' m l) y := by
    intro c e2 y hcb he2 hy hlive heq
    rcases hR.sep b c e e2 _ y he he2 hb hy rfl hlive heq (Ne.symm hcb) with ⟨h3, _⟩ | ⟨cs1, m1, l1, cs2, m2, h3, h4, h5, h6, h7, h8⟩
    · cases m <;> simp [Blk.isRo] at h3
      exact absurd rfl hne
    · simp only [Blk.cells.injEq] at h3
      obtain ⟨rfl, rfl, rfl⟩ := h3
      subst h4
      rcases hm with rfl | ⟨rfl, hge⟩
      · exact absurd (hR.inv.own b _ _ c cs2 m2 hb hy h6) hcb
      · have hold := hR.inv.tip b _ _ c cs2 m2 hb hy h6 hcb
        subst hold
        refine .inr ⟨cs', .kin, l, cs2, .old, rfl, rfl, h5, h6, fun _ => ?_, fun hh => by rcases hh with hh | hh <;> cases hh⟩
        have := h7 (.inr rfl); omega
  refine ⟨fun c e2 hc2 => by rw [Heap.set_n]; exact hR.dom c e2 hc2, ?_, ?_, ⟨?_, ?_, ?_⟩⟩
  · intro c e2 y hc2 hy
    by_cases hcb : c = b
    · subst hcb
      rw [gs] at hy; simp only [Option.some.injEq] at hy; subst hy
      rw [he] at hc2; simp only [Option.some.injEq] at hc2; subst hc2
      obtain ⟨C, T, fr, g1, g2, g3, g4, g5⟩ := hR.blk c e _ he hb
      refine ⟨C, T, fr, g1, g2, hl, fun i v hi => ?_, g5⟩
      rcases hc i v hi with h3 | rfl
      · exact g4 i v h3
      · have : i < cs'.length := (List.getElem?_eq_some_iff.1 hi).1
        exact ⟨_, Array.getElem?_eq_getElem (by omega), .unk _⟩
    · rw [go c hcb] at hy; exact hR.blk c e2 y hc2 hy
  · intro c c' e2 e2' y y' hc2 hc2' hy hy' hl1 hl2 heq hcc
    by_cases hcb : c = b
    · subst hcb
      rw [gs] at hy; simp only [Option.some.injEq] at hy; subst hy
      rw [he] at hc2; simp only [Option.some.injEq] at hc2; subst hc2
      rw [go c' (Ne.symm hcc)] at hy'
      exact apart c' e2' y' (Ne.symm hcc) hc2' hy' hl2 heq
    · rw [go c hcb] at hy
      by_cases hcb' : c' = b
      · subst hcb'
        rw [gs] at hy'; simp only [Option.some.injEq] at hy'; subst hy'
        rw [he] at hc2'; simp only [Option.some.injEq] at hc2'; subst hc2'
        exact (apart c e2 y hcb hc2 hy hl1 heq.symm).symm
      · rw [go c' hcb'] at hy'
        exact hR.sep c c' e2 e2' y y' hc2 hc2' hy hy' hl1 hl2 heq hcc
  · intro c cs2 m2 l2 hg hm2
    obtain ⟨cs3, h3⟩ := bk c cs2 m2 l2 hg
    rw [Heap.set_n]; exact hR.inv.lt c cs3 m2 l2 h3 hm2
  · intro c cs2 l2 c' cs2' m2' hg hg' hm2
    obtain ⟨cs3, h3⟩ := bk c cs2 _ l2 hg
    obtain ⟨cs4, h4⟩ := bk c' cs2' _ l2 hg'
    exact hR.inv.own c cs3 l2 c' cs4 m2' h3 h4 hm2
  · intro c cs2 l2 c' cs2' m2' hg hg' hm2 hne2
    obtain ⟨cs3, h3⟩ := bk c cs2 _ l2 hg
    obtain ⟨cs4, h4⟩ := bk c' cs2' _ l2 hg'
    exact hR.inv.tip c cs3 l2 c' cs4 m2' h3 h4 hm2 hne2
end
end Go.Ax
