/- Rows that are written. -/
import Derived.Test.YtlfmiplojpcklaaAxMake
set_option linter.unusedSimpArgs false
set_option linter.unusedVariables false
namespace Go.Ax
open Go (run_underlying)

def putAt : Array Value → Nat → List Value → Array Value
  | C, _, [] => C
  | C, o, v :: r => putAt (C.setIfInBounds o v) (o + 1) r
theorem putAt_size : ∀ (vs : List Value) (C : Array Value) (o : Nat), (putAt C o vs).size = C.size
  | [], _, _ => rfl
  | v :: r, C, o => by rw [putAt, putAt_size r]; simp
theorem putAt_get : ∀ (vs : List Value) (C : Array Value) (o k : Nat), o + vs.length ≤ C.size → (putAt C o vs)[k]? = if o ≤ k ∧ k < o + vs.length then vs[k - o]? else C[k]?
  | [], C, o, k, h => by simp only [putAt, List.length_nil]; rw [if_neg (by omega)]
  | v :: r, C, o, k, h => by
    simp only [List.length_cons] at h
    rw [putAt, putAt_get r _ _ _ (by simp; omega)]
    by_cases h1 : o + 1 ≤ k ∧ k < o + 1 + r.length
    · rw [if_pos h1, if_pos (by simp only [List.length_cons]; omega), show k - o = (k - (o + 1)) + 1 by omega]; rfl
    · rw [if_neg h1]
      by_cases h2 : k = o
      · subst h2
        rw [if_pos (by simp only [List.length_cons]; omega)]
        simp only [Nat.sub_self, List.getElem?_cons_zero]
        rw [Array.getElem?_setIfInBounds_self_of_lt (by omega)]
      · rw [if_neg (by simp only [List.length_cons]; omega), Array.getElem?_setIfInBounds_ne (by omega)]

def setBlk (w : World) (B : Nat) (o : Obj) : World := { w with heap := w.heap.setIfInBounds B o }
theorem setBlk_self {w : World} {B : Nat} {o o' : Obj} (h : w.heap[B]? = some o') : (setBlk w B o).heap[B]? = some o := by
  have := (Array.getElem?_eq_some_iff.1 h).1
  simp [setBlk, this]
theorem setBlk_other {w : World} {B B' : Nat} {o : Obj} (h : B' ≠ B) : (setBlk w B o).heap[B']? = w.heap[B']? := by
  simp [setBlk, Ne.symm h]
theorem setBlk_size (w : World) (B : Nat) (o : Obj) : (setBlk w B o).heap.size = w.heap.size := by simp [setBlk]
theorem setBlk_setBlk (w : World) (B : Nat) (o o' : Obj) : setBlk (setBlk w B o) B o' = setBlk w B o' := by
  simp [setBlk]
theorem setBlk_same {w : World} {B : Nat} {o : Obj} (h : w.heap[B]? = some o) : setBlk w B o = w := by
  have hlt := (Array.getElem?_eq_some_iff.1 h).1
  have : w.heap.setIfInBounds B o = w.heap := by
    apply Array.ext_getElem?
    intro i
    by_cases e : i = B
    · subst e
      rw [Array.getElem?_setIfInBounds_self_of_lt hlt, h]
    · simp [Ne.symm e]
  cases w; simp only [setBlk] at *; rw [this]
theorem setCell_blk {w : World} {B k : Nat} {C : Array Value} {T : TypeId} {fr : Nat × Nat} (h : w.heap[B]? = some (.cells C T fr)) (v : Value) : w.setCell ⟨B, k, none⟩ v = setBlk w B (.cells (C.setIfInBounds k v) T fr) := by
  have hlt := (Array.getElem?_eq_some_iff.1 h).1
  unfold World.setCell setBlk
  congr 1
  apply Array.ext_getElem?
  intro i
  rw [Array.getElem?_modify]
  by_cases e : B = i
  · subst e
    rw [if_pos rfl, Array.getElem?_setIfInBounds_self_of_lt hlt, h]; rfl
  · rw [if_neg e, Array.getElem?_setIfInBounds_ne e]
theorem frozen_not {w : World} {B k : Nat} {C : Array Value} {T : TypeId} {fr : Nat × Nat} (h : w.heap[B]? = some (.cells C T fr)) (hf : Unfrozen fr C.size) (hk : k < C.size) : w.frozen? ⟨B, k, none⟩ = false := by
  simp only [World.frozen?, h]
  rw [Bool.eq_false_iff]
  simp only [ne_eq, Bool.and_eq_true, decide_eq_true_eq]
  unfold Unfrozen at hf
  omega
theorem storeCells_run {P : Program} {B : Nat} {T : TypeId} {fr : Nat × Nat} : ∀ (vs : List Value) (i o : Nat) (C : Array Value) (w : World), w.heap[B]? = some (.cells C T fr) → Unfrozen fr C.size → o + i + vs.length ≤ C.size → (∀ v ∈ vs, v.oneCell' = true) →
    (storeCells ⟨B, o, none⟩ vs i).run P w = .ok () (setBlk w B (.cells (putAt C (o + i) vs) T fr)) := by
  intro vs
  induction vs with
  | nil => intro i o C w h _ _ _; simp only [storeCells, Sem.run_pure, putAt]; rw [setBlk_same h]
  | cons v r ih =>
    intro i o C w h hf hle h1
    simp only [List.length_cons] at hle
    have hk : o + i < C.size := by omega
    have hc : w.cell? ⟨B, o + i, none⟩ = some C[o + i] := by simp [World.cell?, h, hk]
    simp only [storeCells, Sem.run_bind]
    rw [addr_add, run_store P w _ v _ (h1 v (by simp)), hc]
    simp only [frozen_not h hf hk, Bool.false_eq_true, if_false, Result.andThen_ok]
    rw [setCell_blk h]
    rw [ih (i + 1) o (C.setIfInBounds (o + i) v) _ (setBlk_self h) (by simpa using hf) (by simp; omega) (fun u hu => h1 u (by simp [hu]))]
    rw [setBlk_setBlk, putAt, Nat.add_assoc]

theorem oneCell_rel {φ : Emb} {v : AVal} {v' : Value} (h : VRel φ v v') (hk : cellOk v = true) : v'.oneCell' = true := by
  cases h <;> first | rfl | simp [cellOk] at hk
theorem oneCells_rel {φ : Emb} : ∀ {l : List AVal} {L : List Value}, VRels φ l L → l.all cellOk = true → ∀ v ∈ L, v.oneCell' = true := by
  intro l
  induction l with
  | nil => intro L h _ v hv; cases h; simp at hv
  | cons x l ih =>
    intro L h hk v hv
    cases h with
    | cons h hl =>
      simp only [List.all_cons, Bool.and_eq_true] at hk
      rcases List.mem_cons.1 hv with rfl | hv
      · exact oneCell_rel h hk.1
      · exact ih hl hk.2 v hv

/-- Heap h' is h with row b written. -/
structure Wrote (h : Heap) (b : Nat) (l : Nat) (cs' : List AVal) (h' : Heap) : Prop where
  n : h'.n = h.n
  self : h'.get b = some (.cells cs' .own l)
  other : ∀ c x, c ≠ b → h'.get c = some x → x = .dead ∨ (h.get c = some x ∧ ∀ cs2 m2, x = .cells cs2 m2 l → m2 = .ro)
  ro : ∀ c cs l, c ≠ b → h.get c = some (.cells cs .ro l) → h'.get c = some (.cells cs .ro l)
theorem writeRow_some {h h' : Heap} {b : Nat} {f : List AVal → Option (List AVal)} (hi : HInv h) (hw : writeRow h b f = some h') : ∃ cs m l cs', h.get b = some (.cells cs m l) ∧ (m = .own ∨ m = .kin) ∧ f cs = some cs' ∧ Wrote h b l cs' h' := by
  unfold writeRow at hw
  split at hw
  · rename_i cs l hb
    obtain ⟨cs', hf, rfl⟩ := Option.map_eq_some_iff.1 hw
    have hlt := Heap.get_lt hb
    refine ⟨cs, .own, l, cs', hb, .inl rfl, hf, Heap.set_n _ _ _, by rw [Heap.get_set, if_pos ⟨rfl, hlt⟩], ?_, ?_⟩
    · intro c x hc hx
      rw [Heap.get_set, if_neg (fun e => hc e.1)] at hx
      refine .inr ⟨hx, fun cs2 m2 e => ?_⟩
      subst e
      by_cases hm : m2 = .ro
      · exact hm
      · exact absurd (hi.own b cs l c cs2 m2 hb hx hm) hc
    · intro c cs2 l2 hc hx
      rw [Heap.get_set, if_neg (fun e => hc e.1)]; exact hx
  · rename_i cs l hb
    obtain ⟨cs', hf, rfl⟩ := Option.map_eq_some_iff.1 hw
    have hlt := Heap.get_lt hb
    refine ⟨cs, .kin, l, cs', hb, .inr rfl, hf, Heap.set_n _ _ _, by rw [Heap.get_set, if_pos ⟨rfl, hlt⟩], ?_, ?_⟩
    · intro c x hc hx
      rw [Heap.get_set, if_neg (fun e => hc e.1), Heap.get_kill] at hx
      obtain ⟨y, hy, hxy⟩ := Option.map_eq_some_iff.1 hx
      cases y with
      | cells cs2 m2 l2 =>
        simp only [Heap.killOne] at hxy
        split at hxy
        · exact .inl hxy.symm
        · rename_i hn
          subst hxy
          refine .inr ⟨hy, fun cs3 m3 e => ?_⟩
          simp only [Blk.cells.injEq] at e
          obtain ⟨_, rfl, rfl⟩ := e
          by_cases hm : m2 = .ro
          · exact hm
          · exact absurd ⟨rfl, hc, hm⟩ hn
      | map es => simp only [Heap.killOne] at hxy; subst hxy; exact .inr ⟨hy, fun _ _ e => by cases e⟩
      | iter s p => simp only [Heap.killOne] at hxy; subst hxy; exact .inr ⟨hy, fun _ _ e => by cases e⟩
      | dead => simp only [Heap.killOne] at hxy; exact .inl hxy.symm
      | absent => simp only [Heap.killOne] at hxy; subst hxy; exact .inr ⟨hy, fun _ _ e => by cases e⟩
    · intro c cs2 l2 hc hx
      rw [Heap.get_set, if_neg (fun e => hc e.1), Heap.get_kill, hx]
      simp [Heap.killOne]
  · cases hw

theorem Rel.write {φ : Emb} {h h' : Heap} {w : World} (hR : Rel φ h w) {b : Nat} {e : Loc} {cs cs' : List AVal} {m : Mode} {l : Nat} {C C' : Array Value} {T : TypeId} {fr fr' : Nat × Nat} (he : φ b = some e) (hb : h.get b = some (.cells cs m l))
    (hm : m = .own ∨ m = .kin) (hw : Wrote h b l cs' h') (hC : w.heap[e.B]? = some (.cells C T fr)) (hs : C'.size = C.size) (hl : cs'.length ≤ e.N) (hok : CellsOk φ cs' C' e.o) (hf : Unfrozen fr' C'.size) (hCs : C.size = e.o + e.N) :
    Rel φ h' (setBlk w e.B (.cells C' T fr')) ∧ Fr φ h w φ h' (setBlk w e.B (.cells C' T fr')) := by
  have hmr : m ≠ .ro := by rcases hm with rfl | rfl <;> decide
  have apart : ∀ c e2 x, c ≠ b → φ c = some e2 → h'.get c = some x → x.live = true → e2.B ≠ e.B := by
    intro c e2 x hc he2 hx hlive heq
    rcases hw.other c x hc hx with rfl | ⟨h1, h2⟩
    · simp [Blk.live] at hlive
    · rcases hR.sep b c e e2 _ x he he2 hb h1 rfl hlive heq.symm (Ne.symm hc) with ⟨h3, _⟩ | ⟨cs1, m1, l1, cs2, m2, h3, h4, h5, h6, _⟩
      · cases m <;> simp_all [Blk.isRo]
      · simp only [Blk.cells.injEq] at h3
        obtain ⟨_, _, rfl⟩ := h3
        exact h6 (h2 cs2 m2 h4)
  refine ⟨⟨?_, ?_, ?_, ?_⟩, ?_⟩
  · intro c e2 hc
    rw [hw.n, setBlk_size]; exact hR.dom c e2 hc
  · intro c e2 x hc hx
    by_cases hcb : c = b
    · subst hcb
      rw [hw.self] at hx
      simp only [Option.some.injEq] at hx; subst hx
      rw [he] at hc; simp only [Option.some.injEq] at hc; subst hc
      exact ⟨C', T, fr', setBlk_self hC, by rw [hs, hCs], hl, hok, fun _ => hf⟩
    · by_cases hlive : x.live = true
      · rcases hw.other c x hcb hx with rfl | ⟨h1, h2⟩
        · simp [Blk.live] at hlive
        · exact (hR.blk c e2 x hc h1).at (setBlk_other (apart c e2 x hcb hc hx hlive))
      · cases x <;> simp [Blk.live] at hlive <;> trivial
  · intro c c' e2 e2' x x' hc hc' hx hx' hl1 hl2 heq hne
    by_cases hcb : c = b
    · subst hcb
      rw [he] at hc; simp only [Option.some.injEq] at hc; subst hc
      exact absurd heq.symm (apart c' e2' x' (Ne.symm hne) hc' hx' hl2)
    · by_cases hcb' : c' = b
      · subst hcb'
        rw [he] at hc'; simp only [Option.some.injEq] at hc'; subst hc'
        exact absurd heq (apart c e2 x hcb hc hx hl1)
      · rcases hw.other c x hcb hx with rfl | ⟨h1, h2⟩
        · simp [Blk.live] at hl1
        · rcases hw.other c' x' hcb' hx' with rfl | ⟨h1', h2'⟩
          · simp [Blk.live] at hl2
          · exact hR.sep c c' e2 e2' x x' hc hc' h1 h1' hl1 hl2 heq hne
  · have bk : ∀ c x, h'.get c = some x → ∀ cs2 m2 l2, x = .cells cs2 m2 l2 → m2 ≠ .ro → (c = b ∧ l2 = l ∧ m2 = .own) ∨ (c ≠ b ∧ l2 ≠ l ∧ h.get c = some x) := by
      intro c x hx cs2 m2 l2 e hm2
      by_cases hcb : c = b
      · subst hcb
        rw [hw.self] at hx
        simp only [Option.some.injEq] at hx; subst hx
        simp only [Blk.cells.injEq] at e
        exact .inl ⟨rfl, e.2.2.symm, e.2.1.symm⟩
      · rcases hw.other c x hcb hx with rfl | ⟨h1, h2⟩
        · cases e
        · refine .inr ⟨hcb, fun hll => ?_, h1⟩
          subst hll
          exact hm2 (h2 cs2 m2 e)
    refine ⟨?_, ?_, ?_⟩
    · intro c cs2 m2 l2 hx hm2
      rw [hw.n]
      rcases bk c _ hx _ _ _ rfl hm2 with ⟨rfl, rfl, _⟩ | ⟨h1, h2, h3⟩
      · exact hR.inv.lt _ _ _ _ hb hmr
      · exact hR.inv.lt c _ _ _ h3 hm2
    · intro c cs2 l2 c' cs2' m' hx hx' hm'
      rcases bk c _ hx _ _ _ rfl (by decide) with ⟨h1, h2, _⟩ | ⟨h1, h2, h3⟩
      · rcases bk c' _ hx' _ _ _ rfl hm' with ⟨h1', h2', _⟩ | ⟨h1', h2', h3'⟩
        · rw [h1, h1']
        · exact absurd h2 h2'
      · rcases bk c' _ hx' _ _ _ rfl hm' with ⟨h1', h2', _⟩ | ⟨h1', h2', h3'⟩
        · exact absurd h2' h2
        · exact hR.inv.own c _ _ c' _ _ h3 h3' hm'
    · intro c cs2 l2 c' cs2' m' hx hx' hm' hne
      rcases bk c _ hx _ _ _ rfl (by decide) with ⟨h1, h2, h3⟩ | ⟨h1, h2, h3⟩
      · cases h3
      · rcases bk c' _ hx' _ _ _ rfl hm' with ⟨h1', h2', _⟩ | ⟨h1', h2', h3'⟩
        · exact absurd h2' h2
        · exact hR.inv.tip c _ _ c' _ _ h3 h3' hm' hne
  · refine ⟨rfl, rfl, rfl, by rw [setBlk_size]; omega, Emb.le_refl φ, by rw [hw.n]; omega, ?_, ?_, fun b e h => .inl h⟩
    · intro B hB ht
      refine setBlk_other fun heq => ht ⟨b, e, _, he, heq.symm, hb, ?_⟩
      cases m <;> simp_all [Blk.isRo]
    · intro c cs2 l2 hx
      by_cases hcb : c = b
      · subst hcb
        rw [hb] at hx
        simp only [Option.some.injEq, Blk.cells.injEq] at hx
        exact absurd hx.2.1 hmr
      · exact hw.ro c cs2 l2 hcb hx

/-- Cells written into a row: the row's picture after. -/
theorem putCells_some {i : Nat} {vs cs cs' : List AVal} (h : putCells i vs cs = some cs') : i + vs.length ≤ cs.length ∧ vs.all cellOk = true ∧ cs' = cs.take i ++ vs ++ cs.drop (i + vs.length) := by
  unfold putCells at h
  split at h
  · rename_i hc
    rw [lenL_eq, lenL_eq, allL_eq] at hc
    simp only [Option.some.injEq, takeL_eq, dropL_eq, appL_eq, lenL_eq] at h
    exact ⟨hc.1, hc.2, by rw [← h, List.append_assoc]⟩
  · cases h
theorem cellsOk_put {φ : Emb} {cs vs : List AVal} {C : Array Value} {o i : Nat} {L : List Value} (h : CellsOk φ cs C o) (hr : VRels φ vs L) (hi : i + vs.length ≤ cs.length) (hC : o + cs.length ≤ C.size) :
    CellsOk φ (cs.take i ++ vs ++ cs.drop (i + vs.length)) (putAt C (o + i) L) o := by
  have hl := hr.length
  intro k c hc
  rw [putAt_get _ _ _ _ (by omega)]
  rw [List.append_assoc, List.getElem?_append] at hc
  have ht : (cs.take i).length = i := by simp; omega
  rw [ht] at hc
  split at hc
  · rename_i hk
    rw [if_neg (by omega)]
    rw [List.getElem?_take, if_pos hk] at hc
    exact h k c hc
  · rename_i hk
    rw [List.getElem?_append] at hc
    split at hc
    · rename_i hk2
      rw [if_pos (by omega), show o + k - (o + i) = k - i by omega]
      exact hr.get _ _ hc
    · rename_i hk2
      rw [if_neg (by omega)]
      rw [List.getElem?_drop] at hc
      have := h _ _ hc
      rwa [show i + vs.length + (k - i - vs.length) = k by omega] at this

/-- A row's cells stored, through writeRow. -/
theorem write_run {P : Program} {φ : Emb} {h h' : Heap} {w : World} (hR : Rel φ h w) {b i : Nat} {e : Loc} {vs : List AVal} {L : List Value} (he : φ b = some e) (hr : VRels φ vs L) (hw : writeRow h b (putCells i vs) = some h') :
    ∃ w', (storeCells ⟨e.B, e.o + i, none⟩ L).run P w = .ok () w' ∧ Rel φ h' w' ∧ Fr φ h w φ h' w' := by
  obtain ⟨cs, m, l, cs', hb, hm, hf, hwr⟩ := writeRow_some hR.inv hw
  obtain ⟨h1, h2, rfl⟩ := putCells_some hf
  obtain ⟨C, T, fr, hC, hsz, hle, hok, hfr⟩ := hR.blk b e _ he hb
  have hl := hr.length
  have hmr : m ≠ .ro := by rcases hm with rfl | rfl <;> decide
  have hrun := storeCells_run (P := P) L 0 (e.o + i) C w hC (hfr hmr) (by omega) (oneCells_rel hr h2)
  refine ⟨_, hrun, ?_⟩
  exact hR.write he hb hm hwr hC (putAt_size _ _ _) (by simp; omega) (cellsOk_put hok hr h1 (by omega)) (by rw [putAt_size]; exact hfr hmr) hsz
end Go.Ax
