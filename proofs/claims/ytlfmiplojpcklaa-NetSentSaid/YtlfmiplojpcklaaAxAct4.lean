/- append: a row that grows, in its own memory or in new one. -/
import Derived.Test.YtlfmiplojpcklaaAxAct3
set_option linter.unusedSimpArgs false
set_option linter.unusedVariables false
namespace Go.Ax
open Go (run_underlying)
section
variable {P : Program} {φ : Emb} {t : Tmps} {a : Act} {h h' : Heap} {w : World}

theorem ext_get {b : Nat} {x y : Blk} (hb : b < h.n) (c : Nat) : ((h.set b x).push y).get c = if c = h.n then some y else if c = b then some x else h.get c := by
  rw [Heap.get_push, Heap.set_n, Heap.get_set]
  by_cases hc : c = b
  · subst hc; rw [if_neg (by omega), if_pos ⟨rfl, hb⟩, if_neg (by omega), if_pos rfl]
  · rw [if_neg (show ¬ (c = b ∧ b < h.n) from fun e => hc e.1), if_neg hc]

theorem ext_inv (hi : HInv h) {b : Nat} {cs cs2 : List AVal} {m : Mode} {l : Nat} (hb : h.get b = some (.cells cs m l)) (hm : m = .own ∨ m = .kin) : HInv ((h.set b (.cells cs .old l)).push (.cells cs2 .kin l)) := by
  have hlt := Heap.get_lt hb
  have hmr : m ≠ .ro := by rcases hm with rfl | rfl <;> decide
  have hn : ((h.set b (.cells cs .old l)).push (.cells cs2 .kin l)).n = h.n + 1 := by show (h.set b _).n + 1 = _; rw [Heap.set_n]
  have inv : ∀ c cs3 m3 l3, ((h.set b (.cells cs .old l)).push (.cells cs2 .kin l)).get c = some (.cells cs3 m3 l3) → (c = h.n ∧ m3 = .kin ∧ l3 = l) ∨ (c = b ∧ m3 = .old ∧ l3 = l) ∨ (c ≠ h.n ∧ c ≠ b ∧ h.get c = some (.cells cs3 m3 l3)) := by
    intro c cs3 m3 l3 hc
    rw [ext_get hlt] at hc
    split at hc
    · rename_i e
      simp only [Option.some.injEq, Blk.cells.injEq] at hc
      exact .inl ⟨e, hc.2.1.symm, hc.2.2.symm⟩
    · split at hc
      · rename_i e
        simp only [Option.some.injEq, Blk.cells.injEq] at hc
        exact .inr (.inl ⟨e, hc.2.1.symm, hc.2.2.symm⟩)
      · exact .inr (.inr ⟨by assumption, by assumption, hc⟩)
  have noOwn : ∀ c cs3 m3, c ≠ b → h.get c = some (.cells cs3 m3 l) → m3 ≠ .ro → m3 = .old := by
    intro c cs3 m3 hcb hc hm3
    rcases hm with rfl | rfl
    · exact absurd (hi.own b cs l c cs3 m3 hb hc hm3) hcb
    · exact hi.tip b cs l c cs3 m3 hb hc hm3 hcb
  refine ⟨?_, ?_, ?_⟩
  · intro c cs3 m3 l3 hc hm3
    rw [hn]
    rcases inv c _ _ _ hc with ⟨_, _, rfl⟩ | ⟨_, _, rfl⟩ | ⟨_, _, h3⟩
    · have := hi.lt b _ _ _ hb hmr; omega
    · have := hi.lt b _ _ _ hb hmr; omega
    · have := hi.lt c _ _ _ h3 hm3; omega
  · intro c cs3 l3 c' cs3' m' hc hc' hm'
    rcases inv c _ _ _ hc with ⟨_, h2, _⟩ | ⟨_, h2, _⟩ | ⟨h1, h2, h3⟩
    · cases h2
    · cases h2
    · rcases inv c' _ _ _ hc' with ⟨_, _, rfl⟩ | ⟨_, _, rfl⟩ | ⟨_, _, h3'⟩
      · have := noOwn c _ _ h2 h3 (by decide); cases this
      · have := noOwn c _ _ h2 h3 (by decide); cases this
      · exact hi.own c _ _ c' _ _ h3 h3' hm'
  · intro c cs3 l3 c' cs3' m' hc hc' hm' hne
    rcases inv c _ _ _ hc with ⟨h1, h2, rfl⟩ | ⟨_, h2, _⟩ | ⟨h1, h2, h3⟩
    · rcases inv c' _ _ _ hc' with ⟨h1', _, _⟩ | ⟨_, h2', _⟩ | ⟨_, h2', h3'⟩
      · exact absurd (h1'.trans h1.symm) hne
      · exact h2'
      · exact noOwn c' _ _ h2' h3' hm'
    · cases h2
    · rcases inv c' _ _ _ hc' with ⟨_, _, rfl⟩ | ⟨_, h2', rfl⟩ | ⟨_, _, h3'⟩
      · have := noOwn c _ _ h2 h3 (by decide); cases this
      · exact h2'
      · exact hi.tip c _ _ c' _ _ h3 h3' hm' hne

theorem upd_inv {n : Nat} {e1 : Loc} {b : Nat} {e : Loc} (hb : φ.upd n e1 b = some e) : (b = n ∧ e = e1) ∨ (b ≠ n ∧ φ b = some e) := by
  unfold Emb.upd at hb
  split at hb
  · exact .inl ⟨by assumption, by simpa using hb.symm⟩
  · exact .inr ⟨by assumption, hb⟩

theorem Rel.extendIn (hR : Rel φ h w) {b i : Nat} {e : Loc} {cs new : List AVal} {m : Mode} {l : Nat} {C C' : Array Value} {T : TypeId} {fr : Nat × Nat} (he : φ b = some e) (hb : h.get b = some (.cells cs m l)) (hm : m = .own ∨ m = .kin)
    (hC : w.heap[e.B]? = some (.cells C T fr)) (hs : C'.size = C.size) (hCs : C.size = e.o + e.N) (hi : i ≤ cs.length) (hN : cs.length + new.length ≤ e.N) (hsame : ∀ k, k < e.o + cs.length → C'[k]? = C[k]?) (hok : CellsOk (φ.upd h.n ⟨e.B, e.o + i, e.N - i⟩) (cs.drop i ++ new) C' (e.o + i)) :
    Rel (φ.upd h.n ⟨e.B, e.o + i, e.N - i⟩) ((h.set b (.cells cs .old l)).push (.cells (cs.drop i ++ new) .kin l)) (setBlk w e.B (.cells C' T fr)) ∧
    Fr φ h w (φ.upd h.n ⟨e.B, e.o + i, e.N - i⟩) ((h.set b (.cells cs .old l)).push (.cells (cs.drop i ++ new) .kin l)) (setBlk w e.B (.cells C' T fr)) := by
  have hmr : m ≠ .ro := by rcases hm with rfl | rfl <;> decide
  have hlt := Heap.get_lt hb
  have hle := hR.upd_le ⟨e.B, e.o + i, e.N - i⟩
  have hn : ((h.set b (.cells cs .old l)).push (.cells (cs.drop i ++ new) .kin l)).n = h.n + 1 := by show (h.set b _).n + 1 = _; rw [Heap.set_n]
  have hfr : Unfrozen fr C.size := by
    obtain ⟨C2, T2, fr2, h1, _, _, _, h5⟩ := hR.blk b e _ he hb
    rw [hC] at h1
    simp only [Option.some.injEq, Obj.cells.injEq] at h1
    obtain ⟨rfl, rfl, rfl⟩ := h1
    exact h5 hmr
  have share : ∀ c e2 x, c ≠ b → φ c = some e2 → h.get c = some x → x.live = true → e2.B = e.B → ∃ cs2 m2, x = .cells cs2 m2 l ∧ m2 = .old ∧ e2.o + cs2.length ≤ e.o + cs.length := by
    intro c e2 x hcb he2 hx hl heq
    rcases hR.sep b c e e2 _ x he he2 hb hx rfl hl heq.symm (Ne.symm hcb) with ⟨h3, _⟩ | ⟨cs1, m1, l1, cs2, m2, h3, h4, h5, h6, h7, _⟩
    · cases m <;> simp_all [Blk.isRo]
    · simp only [Blk.cells.injEq] at h3
      obtain ⟨rfl, rfl, rfl⟩ := h3
      subst h4
      refine ⟨cs2, m2, rfl, ?_, h7 hm⟩
      rcases hm with rfl | rfl
      · exact absurd (hR.inv.own b _ _ c _ _ hb hx h6) hcb
      · exact hR.inv.tip b _ _ c _ _ hb hx h6 hcb
  refine ⟨⟨?_, ?_, ?_, ext_inv hR.inv hb hm⟩, ?_⟩
  · intro c e2 hc
    rw [hn, setBlk_size]
    rcases upd_inv hc with ⟨rfl, rfl⟩ | ⟨h1, h2⟩
    · exact ⟨by omega, (hR.dom b e he).2⟩
    · have := hR.dom c e2 h2; exact ⟨by omega, this.2⟩
  · intro c e2 x hc hx
    rw [ext_get hlt] at hx
    rcases upd_inv hc with ⟨rfl, rfl⟩ | ⟨h1, h2⟩
    · rw [if_pos rfl] at hx
      simp only [Option.some.injEq] at hx; subst hx
      exact ⟨C', T, fr, setBlk_self hC, by simp only [hs, hCs]; omega, by simp; omega, hok, fun _ => by rw [hs]; exact hfr⟩
    · rw [if_neg h1] at hx
      split at hx
      · rename_i hcb
        subst hcb
        simp only [Option.some.injEq] at hx; subst hx
        rw [he] at h2; simp only [Option.some.injEq] at h2; subst h2
        obtain ⟨C2, T2, fr2, g1, g2, g3, g4, _⟩ := hR.blk _ _ _ he hb
        rw [hC] at g1
        simp only [Option.some.injEq, Obj.cells.injEq] at g1
        obtain ⟨rfl, rfl, rfl⟩ := g1
        refine ⟨C', T, fr, setBlk_self hC, by rw [hs, hCs], g3, fun k v hk => ?_, fun _ => by rw [hs]; exact hfr⟩
        obtain ⟨v', hv1, hv2⟩ := g4 k v hk
        have := (List.getElem?_eq_some_iff.1 hk).1
        exact ⟨v', by rw [hsame _ (by omega)]; exact hv1, hv2.mono hle⟩
      · rename_i hcb
        by_cases hB : e2.B = e.B
        · by_cases hlive : x.live = true
          · obtain ⟨cs2, m2, rfl, hm2, hle2⟩ := share c e2 x hcb h2 hx hlive hB
            obtain ⟨C2, T2, fr2, g1, g2, g3, g4, _⟩ := hR.blk _ _ _ h2 hx
            rw [hB, hC] at g1
            simp only [Option.some.injEq, Obj.cells.injEq] at g1
            obtain ⟨rfl, rfl, rfl⟩ := g1
            refine ⟨C', T, fr, by rw [hB]; exact setBlk_self hC, by rw [hs]; exact g2, g3, fun k v hk => ?_, fun _ => by rw [hs]; exact hfr⟩
            obtain ⟨v', hv1, hv2⟩ := g4 k v hk
            have := (List.getElem?_eq_some_iff.1 hk).1
            exact ⟨v', by rw [hsame _ (by omega)]; exact hv1, hv2.mono hle⟩
          · cases x <;> simp [Blk.live] at hlive <;> trivial
        · exact ((hR.blk c e2 x h2 hx).mono hle).at (setBlk_other hB)
  · intro c c' e2 e2' x x' hc hc' hx hx' hl1 hl2 heq hne
    rw [ext_get hlt] at hx hx'
    -- one of the two is the new one, or b, or none is
    have newShare : ∀ c2 e3 y, c2 ≠ h.n → φ c2 = some e3 → (if c2 = b then some (Blk.cells cs .old l) else h.get c2) = some y → y.live = true → e3.B = e.B → Shares ⟨e.B, e.o + i, e.N - i⟩ e3 (.cells (cs.drop i ++ new) .kin l) y := by
      intro c2 e3 y hc2 he3 hy hly hB
      split at hy
      · rename_i hcb
        subst hcb
        rw [he] at he3; simp only [Option.some.injEq] at he3; subst he3
        simp only [Option.some.injEq] at hy; subst hy
        refine .inr ⟨_, _, _, _, _, rfl, rfl, by decide, by decide, fun _ => by simp; omega, fun hh => ?_⟩
        rcases hh with hh | hh <;> cases hh
      · rename_i hcb
        obtain ⟨cs2, m2, rfl, rfl, hle2⟩ := share c2 e3 y hcb he3 hy hly hB
        refine .inr ⟨_, _, _, _, _, rfl, rfl, by decide, by decide, fun _ => by simp; omega, fun hh => ?_⟩
        rcases hh with hh | hh <;> cases hh
    rcases upd_inv hc with ⟨rfl, rfl⟩ | ⟨h1, h2⟩
    · rcases upd_inv hc' with ⟨rfl, rfl⟩ | ⟨h1', h2'⟩
      · exact absurd rfl hne
      · rw [if_pos rfl] at hx; rw [if_neg h1'] at hx'
        simp only [Option.some.injEq] at hx; subst hx
        exact newShare c' e2' x' h1' h2' hx' hl2 heq.symm
    · rcases upd_inv hc' with ⟨rfl, rfl⟩ | ⟨h1', h2'⟩
      · rw [if_pos rfl] at hx'; rw [if_neg h1] at hx
        simp only [Option.some.injEq] at hx'; subst hx'
        exact (newShare c e2 x h1 h2 hx hl1 heq).symm
      · rw [if_neg h1] at hx; rw [if_neg h1'] at hx'
        have bShare : ∀ c2 e3 y, c2 ≠ b → φ c2 = some e3 → h.get c2 = some y → y.live = true → e3.B = e.B → Shares e e3 (.cells cs .old l) y := by
          intro c2 e3 y hcb he3 hy hly hB
          obtain ⟨cs2, m2, rfl, rfl, hle2⟩ := share c2 e3 y hcb he3 hy hly hB
          refine .inr ⟨_, _, _, _, _, rfl, rfl, by decide, by decide, fun hh => ?_, fun hh => ?_⟩
          · rcases hh with hh | hh <;> cases hh
          · rcases hh with hh | hh <;> cases hh
        by_cases hcb : c = b
        · subst hcb
          rw [he] at h2; simp only [Option.some.injEq] at h2; subst h2
          rw [if_pos rfl] at hx; rw [if_neg (Ne.symm hne)] at hx'
          simp only [Option.some.injEq] at hx; subst hx
          exact bShare c' e2' x' (Ne.symm hne) h2' hx' hl2 heq.symm
        · rw [if_neg hcb] at hx
          by_cases hcb' : c' = b
          · subst hcb'
            rw [he] at h2'; simp only [Option.some.injEq] at h2'; subst h2'
            rw [if_pos rfl] at hx'
            simp only [Option.some.injEq] at hx'; subst hx'
            exact (bShare c e2 x hcb h2 hx hl1 heq).symm
          · rw [if_neg hcb'] at hx'
            exact hR.sep c c' e2 e2' x x' h2 h2' hx hx' hl1 hl2 heq hne
  · have hro : (Blk.cells cs m l).isRo = false := by cases m <;> simp_all [Blk.isRo]
    refine ⟨rfl, rfl, rfl, by rw [setBlk_size]; omega, hle, by omega, ?_, ?_, ?_⟩
    · intro B hB ht
      exact setBlk_other fun heq => ht ⟨b, e, _, he, heq.symm, hb, hro⟩
    · intro c cs3 l3 hx
      rw [ext_get hlt, if_neg (by have := Heap.get_lt hx; omega)]
      split
      · rename_i hcb
        subst hcb
        rw [hb] at hx; simp only [Option.some.injEq, Blk.cells.injEq] at hx
        exact absurd hx.2.1 hmr
      · exact hx
    · intro c e2 hc
      rcases upd_inv hc with ⟨rfl, rfl⟩ | ⟨h1, h2⟩
      · exact .inr ⟨by omega, .inr ⟨b, e, _, he, rfl, hb, hro⟩⟩
      · exact .inl h2

theorem Rel.extendOut (hR : Rel φ h w) {b : Nat} {e : Loc} {cs cs2 : List AVal} {m : Mode} {l : Nat} {C : Array Value} {T : TypeId} {w' : World} (he : φ b = some e) (hb : h.get b = some (.cells cs m l)) (hm : m = .own ∨ m = .kin)
    (hw : w'.heap = w.heap.push (.cells C T)) (h1 : w'.os = w.os) (h2 : w'.tape = w.tape) (h3 : w'.output = w.output) (hlen : cs2.length ≤ C.size) (hok : CellsOk (φ.upd h.n ⟨w.heap.size, 0, C.size⟩) cs2 C 0) :
    Rel (φ.upd h.n ⟨w.heap.size, 0, C.size⟩) ((h.set b (.cells cs .old l)).push (.cells cs2 .kin l)) w' ∧
    Fr φ h w (φ.upd h.n ⟨w.heap.size, 0, C.size⟩) ((h.set b (.cells cs .old l)).push (.cells cs2 .kin l)) w' := by
  have hmr : m ≠ .ro := by rcases hm with rfl | rfl <;> decide
  have hlt := Heap.get_lt hb
  have hle := hR.upd_le ⟨w.heap.size, 0, C.size⟩
  have hn : ((h.set b (.cells cs .old l)).push (.cells cs2 .kin l)).n = h.n + 1 := by show (h.set b _).n + 1 = _; rw [Heap.set_n]
  have old : ∀ B, B < w.heap.size → w'.heap[B]? = w.heap[B]? := fun B hB => by rw [hw, Array.getElem?_push, if_neg (by omega)]
  refine ⟨⟨?_, ?_, ?_, ext_inv hR.inv hb hm⟩, ?_⟩
  · intro c e2 hc
    rw [hn, hw, Array.size_push]
    rcases upd_inv hc with ⟨rfl, rfl⟩ | ⟨g1, g2⟩
    · exact ⟨by omega, by simp⟩
    · have := hR.dom c e2 g2; exact ⟨by omega, by omega⟩
  · intro c e2 x hc hx
    rw [ext_get hlt] at hx
    rcases upd_inv hc with ⟨rfl, rfl⟩ | ⟨g1, g2⟩
    · rw [if_pos rfl] at hx
      simp only [Option.some.injEq] at hx; subst hx
      exact ⟨C, T, (0, 0), by rw [hw]; simp, by simp, hlen, hok, fun _ => rfl⟩
    · rw [if_neg g1] at hx
      split at hx
      · rename_i hcb
        subst hcb
        simp only [Option.some.injEq] at hx; subst hx
        obtain ⟨C2, T2, fr2, k1, k2, k3, k4, k5⟩ := hR.blk c e2 _ g2 hb
        exact ⟨C2, T2, fr2, by rw [old _ (hR.dom c e2 g2).2]; exact k1, k2, k3, k4.mono hle, fun _ => k5 hmr⟩
      · exact ((hR.blk c e2 x g2 hx).mono hle).at (old _ (hR.dom c e2 g2).2)
  · intro c c' e2 e2' x x' hc hc' hx hx' hl1 hl2 heq hne
    rw [ext_get hlt] at hx hx'
    rcases upd_inv hc with ⟨rfl, rfl⟩ | ⟨g1, g2⟩
    · rcases upd_inv hc' with ⟨rfl, rfl⟩ | ⟨g1', g2'⟩
      · exact absurd rfl hne
      · have := (hR.dom c' e2' g2').2; simp only at heq; omega
    · rcases upd_inv hc' with ⟨rfl, rfl⟩ | ⟨g1', g2'⟩
      · have := (hR.dom c e2 g2).2; simp only at heq; omega
      · rw [if_neg g1] at hx; rw [if_neg g1'] at hx'
        have bShare : ∀ c2 e3 e4 y, c2 ≠ b → φ b = some e4 → φ c2 = some e3 → h.get c2 = some y → y.live = true → e4.B = e3.B → Shares e4 e3 (.cells cs .old l) y := by
          intro c2 e3 e4 y hcb he4 he3 hy hly hB
          rcases hR.sep b c2 e4 e3 _ y he4 he3 hb hy rfl hly hB (Ne.symm hcb) with ⟨k3, _⟩ | ⟨cs1, m1, l1, cs3, m2, k3, k4, k5, k6, k7, k8⟩
          · cases m <;> simp_all [Blk.isRo]
          · simp only [Blk.cells.injEq] at k3
            obtain ⟨rfl, rfl, rfl⟩ := k3
            refine .inr ⟨cs, .old, l, cs3, m2, rfl, k4, by decide, k6, fun hh => ?_, k8⟩
            rcases hh with hh | hh <;> cases hh
        by_cases hcb : c = b
        · subst hcb
          rw [if_pos rfl] at hx; rw [if_neg (Ne.symm hne)] at hx'
          simp only [Option.some.injEq] at hx; subst hx
          exact bShare c' e2' e2 x' (Ne.symm hne) g2 g2' hx' hl2 heq
        · rw [if_neg hcb] at hx
          by_cases hcb' : c' = b
          · subst hcb'
            rw [if_pos rfl] at hx'
            simp only [Option.some.injEq] at hx'; subst hx'
            exact (bShare c e2 e2' x hcb g2' g2 hx hl1 heq.symm).symm
          · rw [if_neg hcb'] at hx'
            exact hR.sep c c' e2 e2' x x' g2 g2' hx hx' hl1 hl2 heq hne
  · refine ⟨h1, h2, h3, by rw [hw]; simp, hle, by omega, fun B hB _ => old B hB, ?_, ?_⟩
    · intro c cs3 l3 hx
      rw [ext_get hlt, if_neg (by have := Heap.get_lt hx; omega)]
      split
      · rename_i hcb
        subst hcb
        rw [hb] at hx; simp only [Option.some.injEq, Blk.cells.injEq] at hx
        exact absurd hx.2.1 hmr
      · exact hx
    · intro c e2 hc
      rcases upd_inv hc with ⟨rfl, rfl⟩ | ⟨g1, g2⟩
      · exact .inr ⟨by omega, .inl (Nat.le_refl _)⟩
      · exact .inl g2
end
end Go.Ax
