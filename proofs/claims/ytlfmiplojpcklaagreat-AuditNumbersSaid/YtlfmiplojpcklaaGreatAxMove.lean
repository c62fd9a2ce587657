/- A row of one's own under a new number. -/
import Derived.Test.YtlfmiplojpcklaaGreatAxOvl
set_option linter.unusedSimpArgs false
set_option linter.unusedVariables false
namespace Go.Ax
section
variable {φ : Emb} {h : Heap} {w : World}
theorem Rel.kill (hR : Rel φ h w) {b : Nat} {x : Blk} (hb : h.get b = some x) : Rel φ (h.set b .dead) w := by
  have hlt := Heap.get_lt hb
  have gs : (h.set b .dead).get b = some .dead := by rw [Heap.get_set, if_pos ⟨rfl, hlt⟩]
  have go : ∀ c, c ≠ b → (h.set b .dead).get c = h.get c := fun c hc => by rw [Heap.get_set, if_neg (fun e => hc e.1)]
  have bk : ∀ c y, (h.set b .dead).get c = some y → y.live = true → c ≠ b ∧ h.get c = some y := by
    intro c y hy hl
    by_cases hc : c = b
    · subst hc; rw [gs] at hy; simp only [Option.some.injEq] at hy; subst hy; cases hl
    · rw [go c hc] at hy; exact ⟨hc, hy⟩
  refine ⟨fun c e hc => by rw [Heap.set_n]; exact hR.dom c e hc, fun c e y hc hy => ?_, fun c c' e e' y y' hc hc' hy hy' hl hl' => hR.sep c c' e e' y y' hc hc' (bk c y hy hl).2 (bk c' y' hy' hl').2 hl hl', ⟨?_, ?_, ?_⟩⟩
  · cases hl : y.live with
    | true => exact hR.blk c e y hc (bk c y hy hl).2
    | false => cases y <;> simp [Blk.live] at hl <;> trivial
  · intro c cs m l hc hm
    rw [Heap.set_n]; exact hR.inv.lt c cs m l (bk c _ hc rfl).2 hm
  · intro c cs l c' cs' m' hc hc' hm
    exact hR.inv.own c cs l c' cs' m' (bk c _ hc rfl).2 (bk c' _ hc' rfl).2 hm
  · intro c cs l c' cs' m' hc hc' hm hne
    exact hR.inv.tip c cs l c' cs' m' (bk c _ hc rfl).2 (bk c' _ hc' rfl).2 hm hne

theorem Rel.move (hR : Rel φ h w) {b o : Nat} {e : Loc} {cs : List AVal} {l : Nat} (he : φ b = some e) (hb : h.get b = some (.cells cs .own l)) (ho : o ≤ cs.length) :
    Rel (φ.upd h.n ⟨e.B, e.o + o, e.N - o⟩) ((h.set b .dead).push (.cells (cs.drop o) .own h.n)) w ∧ Fr φ h w (φ.upd h.n ⟨e.B, e.o + o, e.N - o⟩) ((h.set b .dead).push (.cells (cs.drop o) .own h.n)) w := by
  have hlt := Heap.get_lt hb
  have hK := hR.kill hb
  have hn : (h.set b .dead).n = h.n := Heap.set_n _ _ _
  have hle := hR.upd_le ⟨e.B, e.o + o, e.N - o⟩
  have apart : ∀ c e2 y, c ≠ b → φ c = some e2 → h.get c = some y → y.live = true → e2.B ≠ e.B := by
    intro c e2 y hc he2 hy hlive heq
    rcases hR.sep b c e e2 _ y he he2 hb hy rfl hlive heq.symm (Ne.symm hc) with ⟨h3, _⟩ | ⟨cs1, m1, l1, cs2, m2, h3, h4, _, h6, _⟩
    · cases h3
    · simp only [Blk.cells.injEq] at h3
      obtain ⟨_, _, rfl⟩ := h3
      subst h4
      exact hc (hR.inv.own b cs _ c cs2 m2 hb hy h6)
  have other : ∀ c y, c ≠ h.n → ((h.set b .dead).push (.cells (cs.drop o) .own h.n)).get c = some y → y.live = true → c ≠ b ∧ h.get c = some y := by
    intro c y hc hy hl
    rw [ext_get hlt, if_neg hc] at hy
    split at hy
    · simp only [Option.some.injEq] at hy; subst hy; cases hl
    · exact ⟨by assumption, hy⟩
  refine ⟨⟨?_, ?_, ?_, ?_⟩, ?_⟩
  · intro c e2 hc
    show c < (h.set b .dead).n + 1 ∧ _
    rw [hn]
    rcases upd_inv hc with ⟨rfl, rfl⟩ | ⟨h1, h2⟩
    · exact ⟨by omega, (hR.dom b e he).2⟩
    · have := hR.dom c e2 h2; exact ⟨by omega, this.2⟩
  · intro c e2 y hc hy
    rcases upd_inv hc with ⟨rfl, rfl⟩ | ⟨h1, h2⟩
    · rw [ext_get hlt, if_pos rfl] at hy
      simp only [Option.some.injEq] at hy; subst hy
      obtain ⟨C, T, fr, g1, g2, g3, g4, g5⟩ := hR.blk b e _ he hb
      refine ⟨C, T, fr, g1, by simp only; omega, by simp; omega, fun k v hk => ?_, fun _ => g5 (by decide)⟩
      rw [List.getElem?_drop] at hk
      obtain ⟨v', q1, q2⟩ := g4 _ _ hk
      exact ⟨v', by rw [Nat.add_assoc]; exact q1, q2.mono hle⟩
    · cases hl : y.live with
      | true => exact (hR.blk c e2 y h2 (other c y h1 hy hl).2).mono hle
      | false => cases y <;> simp [Blk.live] at hl <;> trivial
  · intro c c' e2 e2' y y' hc hc' hy hy' hl hl' heq hne
    rcases upd_inv hc with ⟨rfl, rfl⟩ | ⟨h1, h2⟩
    · rcases upd_inv hc' with ⟨rfl, rfl⟩ | ⟨h1', h2'⟩
      · exact absurd rfl hne
      · obtain ⟨g1, g2⟩ := other c' y' h1' hy' hl'
        exact absurd heq.symm (apart c' e2' y' g1 h2' g2 hl')
    · rcases upd_inv hc' with ⟨rfl, rfl⟩ | ⟨h1', h2'⟩
      · obtain ⟨g1, g2⟩ := other c y h1 hy hl
        exact absurd heq (apart c e2 y g1 h2 g2 hl)
      · exact hR.sep c c' e2 e2' y y' h2 h2' (other c y h1 hy hl).2 (other c' y' h1' hy' hl').2 hl hl' heq hne
  · have := hK.inv.push (x := .cells (cs.drop o) .own h.n) (by rw [hn]; exact ownCells)
    exact this
  · refine ⟨rfl, rfl, rfl, Nat.le_refl _, hle, by show h.n ≤ (h.set b .dead).n + 1; rw [hn]; omega, fun _ _ _ => rfl, ?_, ?_⟩
    · intro c cs3 l3 hx
      rw [ext_get hlt, if_neg (by have := Heap.get_lt hx; omega)]
      split
      · rename_i hcb
        subst hcb
        rw [hb] at hx; simp only [Option.some.injEq, Blk.cells.injEq] at hx
        cases hx.2.1
      · exact hx
    · intro c e2 hc
      rcases upd_inv hc with ⟨rfl, rfl⟩ | ⟨h1, h2⟩
      · exact .inr ⟨by omega, .inr ⟨b, e, _, he, rfl, hb, rfl⟩⟩
      · exact .inl h2
end
end Go.Ax
