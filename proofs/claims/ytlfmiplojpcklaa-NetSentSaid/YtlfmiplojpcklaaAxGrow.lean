/- Rows of one's own, rows that grow; what a call leaves as it was. -/
import Derived.Test.YtlfmiplojpcklaaAxSa
set_option linter.unusedSimpArgs false
set_option linter.unusedVariables false
namespace Go.Ax
/-! ### Frames -/
/-- All that was, but these, is as it was. -/
structure Ext (S : Nat → Prop) (h h' : Heap) : Prop where
  n : h.n ≤ h'.n
  get : ∀ b, b < h.n → ¬ S b → h'.get b = h.get b
section
variable {S S' : Nat → Prop} {h h1 h2 h' : Heap}
theorem Ext.refl (S : Nat → Prop) (h : Heap) : Ext S h h := ⟨Nat.le_refl _, fun _ _ _ => rfl⟩
theorem Ext.trans (a : Ext S h h1) (b : Ext S' h1 h2) (hs : ∀ c, c < h.n → S' c → S c) : Ext S h h2 :=
  ⟨Nat.le_trans a.n b.n, fun c hc hn => (b.get c (Nat.lt_of_lt_of_le hc a.n) fun h => hn (hs c hc h)).trans (a.get c hc hn)⟩
theorem Ext.mono (a : Ext S h h1) (hs : ∀ c, c < h.n → S c → S' c) : Ext S' h h1 := ⟨a.n, fun c hc hn => a.get c hc fun h => hn (hs c hc h)⟩
theorem Ext.of (a : Keeps h h1) (S : Nat → Prop) : Ext S h h1 := ⟨a.n, fun c hc _ => a.get c hc⟩
theorem Ext.keeps (a : Ext S h h1) (hs : ∀ c, c < h.n → ¬ S c) : Keeps h h1 := ⟨a.n, fun c hc => a.get c hc (hs c hc)⟩
theorem Ext.push (a : Ext S h h1) (x : Blk) : Ext S h (h1.push x) := a.trans (Ext.of (Keeps.push _ _) (fun _ => False)) (fun _ _ h => h.elim)
theorem Ext.set (a : Ext S h h1) {b : Nat} (x : Blk) (hb : b < h.n → S b) : Ext S h (h1.set b x) :=
  ⟨by rw [Heap.set_n]; exact a.n, fun c hc hn => by rw [s_get_set_ne (fun e => hn (by subst e; exact hb hc))]; exact a.get c hc hn⟩
theorem Ext.some (a : Ext S h h') {b : Nat} {x : Blk} (e : h.get b = some x) (hs : ¬ S b) : h'.get b = some x := by rw [a.get b (Heap.get_lt e) hs]; exact e
theorem Ext.keepsTrans (a : Ext S h h1) (b : Keeps h1 h2) : Ext S h h2 := a.trans (Ext.of b (fun _ => False)) (fun _ _ h => h.elim)
end
/-- What was read is read still. -/
def RdK (h h' : Heap) : Prop := ∀ b cs m l, h.get b = some (.cells cs m l) → ∃ m' l', h'.get b = some (.cells cs m' l')
theorem RdK.refl (h : Heap) : RdK h h := fun b cs m l e => ⟨m, l, e⟩
theorem RdK.trans {h h1 h2 : Heap} (a : RdK h h1) (b : RdK h1 h2) : RdK h h2 := fun c cs m l e => by obtain ⟨_, _, e1⟩ := a c cs m l e; exact b c cs _ _ e1
theorem RdK.of {h h1 : Heap} (a : Keeps h h1) : RdK h h1 := fun b cs m l e => ⟨m, l, a.some e⟩
theorem Sl.rd {α : Type} {enc : α → List AVal} {k : Nat} {h h' : Heap} {v : AVal} {l : List α} (hs : Sl h k enc v l) (hk : RdK h h') : Sl h' k enc v l := by
  cases hs with
  | nil => exact .nil
  | zero b i cap ex hz => exact .zero b i cap ex (hz.imp id fun ⟨cs, m, ln, e, hi⟩ => by obtain ⟨m', l', e'⟩ := hk b cs m ln e; exact ⟨cs, m', l', e', hi⟩)
  | mk b i cap ex cs m ln l hb h0 hc hi hr => obtain ⟨m', l', e⟩ := hk b cs m ln hb; exact .mk b i cap ex cs m' l' l e h0 hc hi hr
/-- The block of a slice. -/
def OnB (v : AVal) (b : Nat) : Prop := match v with | .slice c _ _ _ _ _ => b = c | _ => False
theorem onB_nil (b : Nat) : OnB .nilSlice b = False := of_rfl rfl
theorem onB_slice (c i n m k : Nat) (ex : Bool) (b : Nat) : OnB (.slice c i n m k ex) b = (b = c) := of_rfl rfl
theorem Sl.ext {α : Type} {enc : α → List AVal} {k : Nat} {h h' : Heap} {v : AVal} {l : List α} {S : Nat → Prop} (hs : Sl h k enc v l) (hk : Ext S h h') (hn : ∀ b, OnB v b → ¬ S b) : Sl h' k enc v l := by
  cases hs with
  | nil => exact .nil
  | zero b i cap ex hz => exact .zero b i cap ex (hz.imp id fun ⟨cs, m, ln, e, hi⟩ => ⟨cs, m, ln, hk.some e (hn b rfl), hi⟩)
  | mk b i cap ex cs m ln l hb h0 hc hi hr => exact .mk b i cap ex cs m ln l (hk.some hb (hn b rfl)) h0 hc hi hr
/-! ### A row of one's own -/
inductive Own (h : Heap) (k : Nat) : AVal → List AVal → Prop where
  | nil : Own h k .nilSlice []
  | mk (B n : Nat) (cs : List AVal) (hb : h.get B = some (.cells cs .own B)) (hn : cs.length = n * k) (h0 : 0 < n) : Own h k (.slice B 0 n n k false) cs
/-- A row that can be appended to. -/
inductive Grow (h : Heap) (k : Nat) : AVal → List AVal → Prop where
  | nil : Grow h k .nilSlice []
  | mk (B n : Nat) (cs : List AVal) (m : Mode) (l : Nat) (hb : h.get B = some (.cells cs m l)) (hm : m = .own ∨ m = .kin) (hn : cs.length = n * k) (h0 : 0 < n) : Grow h k (.slice B 0 n n k false) cs
section
variable {S : Nat → Prop} {h h' : Heap} {k bytes N : Nat} {v : AVal} {cs new : List AVal}
theorem Own.ext (ho : Own h k v cs) (he : Ext S h h') (hn : ∀ b, OnB v b → ¬ S b) : Own h' k v cs := by
  cases ho with
  | nil => exact .nil
  | mk B n cs hb hl h0 => exact .mk B n cs (he.some hb (hn B rfl)) hl h0
theorem Own.keep (ho : Own h k v cs) (he : Keeps h h') : Own h' k v cs := ho.ext (Ext.of he (fun _ => False)) fun _ _ h => h
theorem Own.lt (ho : Own h k v cs) : ∀ b, OnB v b → b < h.n := by
  cases ho with
  | nil => intro b h; cases h
  | mk B n cs hb hl h0 => rintro b rfl; exact Heap.get_lt hb
theorem Own.len (ho : Own h 1 v cs) : oLen v = some (.int .i64 cs.length) := by
  cases ho with
  | nil => rfl
  | mk B n cs hb hl h0 => rw [s_len, hl, Nat.mul_one]
theorem Own.isNil (ho : Own h k v cs) : (v = .nilSlice ∧ cs = []) ∨ ∃ B n, v = .slice B 0 n n k false ∧ h.get B = some (.cells cs .own B) ∧ cs.length = n * k ∧ 0 < n := by
  cases ho with
  | nil => exact .inl ⟨rfl, rfl⟩
  | mk B n cs hb hl h0 => exact .inr ⟨B, n, rfl, hb, hl, h0⟩
theorem Own.src (ho : Own h 1 v cs) : srcCells h 1 v = some (cs.length, cs) := by
  cases ho with
  | nil => rfl
  | mk B n cs hb hl h0 => rw [srcCells_of hb h0 (by omega), List.drop_zero, List.take_of_length_le (by omega)]; rw [hl, Nat.mul_one]
theorem Own.cell (ho : Own h k v cs) : cellOk v = true ∧ isUnk v = false ∧ valCells v = [v] := by cases ho <;> exact ⟨rfl, rfl, rfl⟩
theorem Own.grow (ho : Own h k v cs) : Grow h k v cs := by
  cases ho with
  | nil => exact .nil
  | mk B n cs hb hl h0 => exact .mk B n cs _ _ hb (.inl rfl) hl h0
theorem Own.sl (ho : Own h 1 v cs) : Sl h 1 (fun x => [x]) v cs := by
  cases ho with
  | nil => exact .nil
  | mk B n cs hb hl h0 =>
    rw [Nat.mul_one] at hl; subst hl
    exact .mk B 0 _ false cs _ _ cs hb h0 (Nat.le_refl _) (by omega) (by simp)
theorem Grow.ext (ho : Grow h k v cs) (he : Ext S h h') (hn : ∀ b, OnB v b → ¬ S b) : Grow h' k v cs := by
  cases ho with
  | nil => exact .nil
  | mk B n cs m l hb hm hl h0 => exact .mk B n cs m l (he.some hb (hn B rfl)) hm hl h0
theorem Grow.keep (ho : Grow h k v cs) (he : Keeps h h') : Grow h' k v cs := ho.ext (Ext.of he (fun _ => False)) fun _ _ h => h
theorem Grow.lt (ho : Grow h k v cs) : ∀ b, OnB v b → b < h.n := by
  cases ho with
  | nil => intro b h; cases h
  | mk B n cs m l hb hm hl h0 => rintro b rfl; exact Heap.get_lt hb
theorem Grow.cell (ho : Grow h k v cs) : cellOk v = true ∧ isUnk v = false ∧ valCells v = [v] := by cases ho <;> exact ⟨rfl, rfl, rfl⟩
theorem Grow.sl {α : Type} {enc : α → List AVal} {l : List α} (henc : ∀ x, (enc x).length = k) (h0 : 0 < k) (ho : Grow h k v cs) (hc : cs = l.flatMap enc) : Sl h k enc v l := by
  cases ho with
  | nil =>
    have : l = [] := by
      cases l with
      | nil => rfl
      | cons x l => have := congrArg List.length hc; rw [flat_length henc] at this; simp [Nat.succ_mul] at this; omega
    subst this; exact .nil
  | mk B n cs m lb hb hm hl hp =>
    have hll : l.length = n := by
      have := congrArg List.length hc; rw [flat_length henc, hl] at this
      exact (Nat.eq_of_mul_eq_mul_right h0 this).symm
    subst hll
    exact .mk B 0 _ false cs _ _ l hb hp (Nat.le_refl _) (by omega) (by rw [List.drop_zero, List.take_of_length_le (by omega)]; exact hc)
/-- One more. -/
theorem Grow.app (ho : Grow h k v cs) (hk : 0 < k) (hnew : new.length = k) (hok : new.all cellOk = true) (hcs : cs.all cellOk = true) (hN : cs.length = N * k) (hbig : (N + 1) * bytes ≤ 35184372088832) :
    ∃ v' h', appendN h k bytes v 1 new = some (v', h') ∧ Grow h' k v' (cs ++ new) ∧ Ext (OnB v) h h' ∧ RdK h h' ∧ (∀ b, OnB v' b → h.n ≤ b) := by
  have hok' : (!new.all cellOk) = false := by rw [hok]; rfl
  cases ho with
  | nil =>
    refine ⟨.slice h.n 0 1 1 k false, h.push (.cells new .own h.n), ?_, .mk h.n 1 _ _ _ (s_get_push_eq _ _) (.inl rfl) (by simpa using hnew) (by omega), Ext.of (Keeps.push _ _) _, RdK.of (Keeps.push _ _), fun b hb => ?_⟩
    · unfold appendN
      rw [allL_eq, hok']
      simp only [Bool.false_eq_true, if_false]
      have hN0 : N = 0 := (Nat.mul_eq_zero.1 (show N * k = 0 from hN.symm)).resolve_right (by omega)
      subst hN0
      rw [if_neg (by decide), if_pos ⟨by omega, hk⟩]
    · exact Nat.le_of_eq hb.symm
  | mk B n cs m l hb hm hl h0 =>
    have hnN : n = N := Nat.eq_of_mul_eq_mul_right hk (hl ▸ hN)
    subst hnN
    have hlt := Heap.get_lt hb
    have hn2 : (h.set B (.cells cs .old l)).n = h.n := Heap.set_n _ _ _
    refine ⟨.slice h.n 0 (n + 1) (n + 1) k false, (h.set B (.cells cs .old l)).push (.cells (cs ++ new) .kin l), ?_, ?_, ?_, ?_, fun b hb => ?_⟩
    · unfold appendN
      rw [allL_eq, hok']
      simp only [Bool.false_eq_true, if_false]
      rw [if_neg (by decide), if_neg (by omega), if_neg (by omega), hb]
      simp only [lenL_eq, allL_eq, hcs, appL_eq, dropL_eq, List.drop_zero]
      rw [if_pos ⟨by omega, h0, hm, trivial⟩]
    · refine .mk h.n (n + 1) _ .kin l ?_ (.inr rfl) (by rw [List.length_append, hl, hnew, Nat.succ_mul]) (by omega)
      have := s_get_push_eq (h.set B (.cells cs .old l)) (.cells (cs ++ new) .kin l)
      rw [hn2] at this; exact this
    · exact ((Ext.refl (OnB (.slice B 0 n n k false)) h).set _ fun _ => (rfl : B = B)).push _
    · intro b cs' m' l' hb'
      have hne : b ≠ (h.set B (.cells cs .old l)).n := by rw [hn2]; have := Heap.get_lt hb'; omega
      rw [s_get_push_ne hne]
      by_cases e : b = B
      · subst e
        rw [hb] at hb'; simp only [Option.some.injEq, Blk.cells.injEq] at hb'
        obtain ⟨rfl, rfl, rfl⟩ := hb'
        rw [s_get_set_eq hlt]; exact ⟨_, _, rfl⟩
      · rw [s_get_set_ne e]; exact ⟨_, _, hb'⟩
    · exact Nat.le_of_eq hb.symm
/-- A row of its own: a copy of what is read. -/
theorem copy_own {n : Nat} (hs : srcCells h k v = some (n, cs)) (hk : 0 < k) (hl : cs.length = n * k) (hok : cs.all cellOk = true) (hbig : n * bytes ≤ 35184372088832) :
    ∃ v' h', appendA h k bytes .nilSlice v = some (v', h') ∧ Own h' k v' cs ∧ Keeps h h' ∧ (∀ b, OnB v' b → h.n ≤ b) := by
  have hok' : (!cs.all cellOk) = false := by rw [hok]; rfl
  unfold appendA
  rw [hs]
  simp only
  unfold appendN
  rw [allL_eq, hok']
  simp only [Bool.false_eq_true, if_false]
  by_cases h0 : n = 0
  · subst h0
    rw [if_pos rfl]
    have : cs = [] := List.eq_nil_of_length_eq_zero (by simpa using hl)
    subst this
    exact ⟨_, _, rfl, .nil, Keeps.refl _, fun b hb => by cases hb⟩
  · rw [if_neg h0, if_pos ⟨hbig, hk⟩]
    exact ⟨_, _, rfl, .mk _ _ _ (s_get_push_eq _ _) hl (by omega), Keeps.push _ _, fun b hb => Nat.le_of_eq hb.symm⟩
end
/-! ### Lists of parts -/
theorem s_oBSl0 {h : Heap} {k : Nat} {z : List AVal} (hk : 0 < k) : oBSl h 0 k z [] = some (.slice h.n 0 0 0 k true, h.push (.cells [] .own h.n)) := by
  have : m_buildSlice .leaf h.n 0 k z (vP []) = some (.slice h.n 0 0 0 k true, .cells [] .own h.n) := by
    unfold m_buildSlice
    simp only [repCells, vP, mapL, fillA, allL_eq, List.all_nil, lenL_eq, List.length_nil, Nat.zero_mul]
    rw [if_pos ⟨by trivial, hk, by trivial⟩]
  unfold oBSl; rw [this]; rfl
theorem s_oBSl1 {h : Heap} {k : Nat} {z : List AVal} {x : AVal} (hk : 0 < k) (hz : z.length = k) (hu : isUnk x = false) (hl : (valCells x).length = k) (hok : (valCells x).all cellOk = true) :
    oBSl h 1 k z [(0, k, x)] = some (.slice h.n 0 1 1 k true, h.push (.cells (valCells x) .own h.n)) := by
  have : m_buildSlice .leaf h.n 1 k z (vP [(0, k, x)]) = some (.slice h.n 0 1 1 k true, .cells (valCells x) .own h.n) := by
    have e0 : vP [(0, k, x)] = [(0, k, .val x)] := rfl
    have e1 : (mapL (fun p : Nat × Nat × Arg => (p.1, p.2.1, p.2.2.eval .leaf)) [(0, k, .val x)]) = [(0, k, x)] := rfl
    unfold m_buildSlice
    rw [e0, e1]
    have e2 : fillA (repCells z 1) [(0, k, x)] = some (valCells x) := by
      have hr : (repCells z 1).length = k := by rw [rep_len]; omega
      unfold fillA
      rw [lenL_eq, lenL_eq, if_pos ⟨hu, hl, by omega⟩]
      unfold fillA
      rw [takeL_eq, appL_eq, appL_eq, dropL_eq, List.take_zero, List.drop_of_length_le (by omega), List.append_nil, List.nil_append]
    rw [e2]
    simp only [allL_eq, lenL_eq]
    rw [if_pos ⟨hok, hk, by omega⟩]
  unfold oBSl; rw [this]; rfl
/-- One more, as the code writes it. -/
theorem grow_one {h : Heap} {k bytes N : Nat} {v x : AVal} {cs : List AVal} (ho : Grow h k v cs) (hk : 0 < k) (hl : (valCells x).length = k) (hok : (valCells x).all cellOk = true) (hcs : cs.all cellOk = true) (hN : cs.length = N * k) (hbig : (N + 1) * bytes ≤ 35184372088832) :
    ∃ v' h', appendA (h.push (.cells (valCells x) .own h.n)) k bytes v (.slice h.n 0 1 1 k true) = some (v', h') ∧ Grow h' k v' (cs ++ valCells x) ∧ Ext (OnB v) h h' ∧ RdK h h' ∧ (∀ b, OnB v' b → h.n ≤ b) := by
  obtain ⟨v', h', e, g1, g2, g3, g4⟩ := (ho.keep (Keeps.push h (.cells (valCells x) .own h.n))).app (bytes := bytes) hk hl hok hcs hN hbig
  refine ⟨v', h', ?_, g1, (Ext.of (Keeps.push _ _) _).trans g2 (fun _ _ h => h), (RdK.of (Keeps.push _ _)).trans g3, fun b hb => Nat.le_trans (Nat.le_succ _) (g4 b hb)⟩
  unfold appendA
  rw [srcCells_of (s_get_push_eq _ _) (by omega) (by omega)]
  simp only [List.drop_zero]
  rw [List.take_of_length_le (by omega)]
  exact e
end Go.Ax
namespace Go.Ax
/-! ### Steps to a heap that is known by what it holds -/
section
variable {h : Heap} {b i l n : Nat} {cs vs : List AVal} {v : AVal} {K : AVal → Heap → Prop}
theorem t_store (e : h.get b = some (.cells cs .own l)) (hi : i < cs.length) (hv : cellOk v = true) (hc : valCells v = [v]) (k : ∀ h', h'.get b = some (.cells (cs.set i v) .own l) → Ext (fun c => c = b) h h' → K und h') : ok2 (oStore h 1 (.ptr b i) v) K := by
  rw [s_store1 e hi hv hc]
  exact k _ (s_get_set_eq (Heap.get_lt e)) ((Ext.refl _ _).set _ fun _ => rfl)
theorem t_storeN (e : h.get b = some (.cells cs .own l)) (hn : vs.length = n) (hl : cs.length = n) (hv : vs.all cellOk = true) (k : ∀ h', h'.get b = some (.cells vs .own l) → Ext (fun c => c = b) h h' → K und h') : ok2 (oStore h n (.ptr b 0) (.agg vs)) K := by
  rw [s_storeN e hn (by omega) hv]
  refine k _ ?_ ((Ext.refl _ _).set _ fun _ => rfl)
  rw [s_get_set_eq (Heap.get_lt e), List.take_zero, List.nil_append, List.drop_of_length_le (by omega), List.append_nil]
theorem t_alloc (z : List AVal) (k : ∀ h', h'.get h.n = some (.cells z .own h.n) → Keeps h h' → h'.n = h.n + 1 → K (.ptr h.n 0) h') : ok2 (oAlloc h z) K := by
  rw [s_oAlloc]
  exact k _ (s_get_push_eq _ _) (Keeps.push _ _) (s_n_push _ _)
theorem t_box (hv : vs.all cellOk = true) (k : ∀ h', h'.get h.n = some (.cells vs .own h.n) → Keeps h h' → h'.n = h.n + 1 → K (.ptr h.n 0) h') : ok2 (oBox h (.agg vs)) K := by
  rw [s_oBox (x := .agg vs) hv]
  exact k _ (s_get_push_eq _ _) (Keeps.push _ _) (s_n_push _ _)
theorem t_box1 (hv : cellOk v = true) (hc : valCells v = [v]) (k : ∀ h', h'.get h.n = some (.cells [v] .own h.n) → Keeps h h' → h'.n = h.n + 1 → K (.ptr h.n 0) h') : ok2 (oBox h v) K := by
  rw [s_oBox (x := v) (by rw [hc]; simp [hv]), hc]
  exact k _ (s_get_push_eq _ _) (Keeps.push _ _) (s_n_push _ _)
end
end Go.Ax
namespace Go.Ax
/-! ### Bytes that are only read -/
inductive Rd (h : Heap) : AVal → List AVal → Prop where
  | nil : Rd h .nilSlice []
  | mk (b i n cap : Nat) (ex : Bool) (row cs : List AVal) (m : Mode) (l : Nat) (hb : h.get b = some (.cells row m l)) (h0 : 0 < n) (hc : n ≤ cap) (hi : i + n ≤ row.length) (hr : (row.drop i).take n = cs) : Rd h (.slice b i n cap 1 ex) cs
section
variable {h h' : Heap} {v : AVal} {cs : List AVal} {S : Nat → Prop}
theorem Rd.ext (hr : Rd h v cs) (he : Ext S h h') (hn : ∀ b, OnB v b → ¬ S b) : Rd h' v cs := by
  cases hr with
  | nil => exact .nil
  | mk b i n cap ex row cs m l hb h0 hc hi hr => exact .mk b i n cap ex row cs m l (he.some hb (hn b rfl)) h0 hc hi hr
theorem Rd.keep (hr : Rd h v cs) (he : Keeps h h') : Rd h' v cs := hr.ext (Ext.of he (fun _ => False)) fun _ _ h => h
theorem Rd.src (hr : Rd h v cs) : srcCells h 1 v = some (cs.length, cs) := by
  cases hr with
  | nil => rfl
  | mk b i n cap ex row cs m l hb h0 hc hi hr =>
    rw [srcCells_of hb (by omega) (by omega), Nat.mul_one, hr, ← hr, List.length_take, List.length_drop]
    congr 2; omega
theorem Rd.len (hr : Rd h v cs) : oLen v = some (.int .i64 cs.length) := by
  cases hr with
  | nil => rfl
  | mk b i n cap ex row cs m l hb h0 hc hi hr => rw [s_len, ← hr, List.length_take, List.length_drop]; congr 2; omega
theorem Rd.cell (hr : Rd h v cs) : cellOk v = true ∧ isUnk v = false ∧ valCells v = [v] := by cases hr <;> exact ⟨rfl, rfl, rfl⟩
theorem Rd.lt (hr : Rd h v cs) : ∀ b, OnB v b → b < h.n := by
  cases hr with
  | nil => intro b h; cases h
  | mk b i n cap ex row cs m l hb h0 hc hi hr => rintro c rfl; exact Heap.get_lt hb
theorem Rd.isNil (hr : Rd h v cs) : (v = .nilSlice ∧ cs = []) ∨ ∃ b i n cap ex, v = .slice b i n cap 1 ex ∧ cs.length = n ∧ 0 < n := by
  cases hr with
  | nil => exact .inl ⟨rfl, rfl⟩
  | mk b i n cap ex row cs m l hb h0 hc hi hr => exact .inr ⟨b, i, n, cap, ex, rfl, by rw [← hr, List.length_take, List.length_drop]; omega, h0⟩
theorem Rd.noStr (hr : Rd h v cs) : ∀ s, v ≠ .str s := by cases hr <;> (intro s h; cases h)
theorem Own.rd (ho : Own h 1 v cs) : Rd h v cs := by
  cases ho with
  | nil => exact .nil
  | mk B n cs hb hl h0 => exact .mk B 0 n n false cs cs _ _ hb h0 (Nat.le_refl _) (by omega) (by rw [List.drop_zero, List.take_of_length_le (by omega)])
theorem Rd.sl (hr : Rd h v cs) : Sl h 1 (fun x => [x]) v cs := by
  cases hr with
  | nil => exact .nil
  | mk b i n cap ex row cs m l hb h0 hc hi hr =>
    have hl : cs.length = n := by rw [← hr, List.length_take, List.length_drop]; omega
    subst hl
    exact .mk b i cap ex row m l cs hb (by omega) hc (by omega) (by rw [Nat.mul_one, hr]; simp)
end
end Go.Ax
namespace Go.Ax
section
variable {h : Heap} {α : Type} {enc : α → List AVal} {k : Nat} {v : AVal} {l : List α}
theorem flat_take (henc : ∀ x, (enc x).length = k) (l : List α) (j : Nat) (hj : j ≤ l.length) : (l.flatMap enc).take (j * k) = (l.take j).flatMap enc := by
  induction l generalizing j with
  | nil => simp
  | cons x l ih =>
    cases j with
    | zero => simp
    | succ j =>
      rw [List.flatMap_cons, List.take_succ_cons, List.flatMap_cons, List.take_append, henc, Nat.succ_mul, List.take_of_length_le (by rw [henc]; omega), show j * k + k - k = j * k by omega, ih j (by simpa using hj)]
/-- The first of a slice. -/
theorem sl_hi (henc : ∀ x, (enc x).length = k) (hs : Sl h k enc v l) {j : Nat} (hj : j ≤ l.length) {kd : IntKind} : ∃ v', oSl k v none (some (.int kd (j : Int))) none = some v' ∧ Sl h k enc v' (l.take j) ∧ ∀ b, OnB v' b → OnB v b := by
  cases hs with
  | nil =>
    have : j = 0 := by simpa using hj
    subst this
    exact ⟨.nilSlice, rfl, .nil, fun b h => h⟩
  | zero b i cap ex hz =>
    have : j = 0 := by simpa using hj
    subst this
    exact ⟨_, s_sl_hi (Nat.zero_le _), .zero b i cap ex hz, fun b h => h⟩
  | mk b i cap ex cs m ln l hb h0 hc hi hr =>
    refine ⟨_, s_sl_hi (by omega), ?_, fun b h => h⟩
    rcases Nat.eq_zero_or_pos j with rfl | hp
    · rw [List.take_zero]; exact .zero b i cap ex (.inr ⟨cs, m, ln, hb, by omega⟩)
    · have hlt : (l.take j).length = j := by rw [List.length_take]; omega
      have hjk : j * k ≤ l.length * k := Nat.mul_le_mul_right k hj
      have := Sl.mk (enc := enc) (k := k) b i cap ex cs m ln (l.take j) hb h0 (by omega) (by rw [hlt]; omega) (by rw [hlt, ← flat_take henc l j hj, ← hr, List.take_take, Nat.min_eq_left hjk])
      rw [hlt] at this; exact this
theorem sl_src (henc : ∀ x, (enc x).length = k) (hs : Sl h k enc v l) : srcCells h k v = some (l.length, l.flatMap enc) := by
  cases hs with
  | nil => rfl
  | zero b i cap ex hz =>
    rcases hz with rfl | ⟨cs, m, ln, e, hi⟩
    · rfl
    · rcases Nat.eq_zero_or_pos cap with rfl | hp
      · rfl
      · rw [srcCells_of e hp (by omega)]; simp
  | mk b i cap ex cs m ln l hb h0 hc hi hr => rw [srcCells_of hb h0 hi, hr]
theorem Sl.noStr (hs : Sl h k enc v l) : ∀ s, v ≠ .str s := by cases hs <;> (intro s h; cases h)
theorem Sl.lt' (hs : Sl h k enc v l) (hl : l ≠ []) : ∀ b, OnB v b → b < h.n := by
  cases hs with
  | nil => intro b h; cases h
  | zero b i cap ex hz => exact absurd rfl hl
  | mk b i cap ex cs m ln l hb h0 hc hi hr => rintro c rfl; exact Heap.get_lt hb
end
end Go.Ax
/- Rewriting, new blocks by name. -/
namespace Go.Ax
theorem g0 (a : AVal) (l : List AVal) : (a :: l)[0]? = some a := of_rfl rfl
theorem g1 (a b : AVal) (l : List AVal) : (a :: b :: l)[1]? = some b := of_rfl rfl
theorem g2 (a b c : AVal) (l : List AVal) : (a :: b :: c :: l)[2]? = some c := of_rfl rfl
theorem g3 (a b c d : AVal) (l : List AVal) : (a :: b :: c :: d :: l)[3]? = some d := of_rfl rfl
attribute [go_sem] true_and and_true Nat.zero_add Nat.add_zero g0 g1 g2 g3 Bool.not_true Bool.not_false
end Go.Ax
/- A list that grows and is written. -/
set_option linter.unusedSimpArgs false
set_option linter.unusedVariables false
namespace Go.Ax
/-- All that was is as it was, but these, and but what is of one row's elders. -/
structure ExtG (S : Nat → Prop) (l : Nat) (h h' : Heap) : Prop where
  n : h.n ≤ h'.n
  get : ∀ b x, h.get b = some x → ¬ S b → (∀ cs m, x = .cells cs m l → m = .ro) → h'.get b = some x
section
variable {h h' : Heap} {S : Nat → Prop} {l k : Nat} {v : AVal} {cs : List AVal}
theorem ExtG.own (x : ExtG S l h h') (ho : Own h k v cs) (hn : ∀ b, OnB v b → ¬ S b ∧ b ≠ l) : Own h' k v cs := by
  cases ho with
  | nil => exact .nil
  | mk B n cs hb hl h0 => exact .mk B n cs (x.get B _ hb (hn B rfl).1 fun cs' m e => by simp only [Blk.cells.injEq] at e; exact absurd e.2.2 (hn B rfl).2) hl h0
theorem ExtG.cells (x : ExtG S l h h') {B : Nat} (hb : h.get B = some (.cells cs .own B)) (h1 : ¬ S B) (h2 : B ≠ l) : h'.get B = some (.cells cs .own B) :=
  x.get B _ hb h1 fun cs' m e => by simp only [Blk.cells.injEq] at e; exact absurd e.2.2 h2
theorem ExtG.map (x : ExtG S l h h') {B : Nat} {es : List (AVal × AVal)} (hb : h.get B = some (.map es)) (h1 : ¬ S B) : h'.get B = some (.map es) :=
  x.get B _ hb h1 fun cs' m e => by cases e
/-- The old heap is as it was: no row of its is of the group. -/
theorem ExtG.keeps {h0 : Heap} (k0 : Keeps h0 h) (hi : HInv h0) (x : ExtG S l h h') (hs : ∀ b, S b → h0.n ≤ b) (hl : h0.n ≤ l) : Keeps h0 h' := by
  refine ⟨Nat.le_trans k0.n x.n, fun b hb => ?_⟩
  obtain ⟨blk, hx⟩ := Heap.get_some hb
  rw [hx]
  refine x.get b blk (k0.some hx) (fun h => by have := hs b h; omega) fun cs m e => ?_
  subst e
  by_cases hm : m = .ro
  · exact hm
  · have := hi.lt b cs m l hx hm; omega
end
theorem ExtG.of {S : Nat → Prop} {l : Nat} {h h' : Heap} (x : Ext S h h') : ExtG S l h h' := ⟨x.n, fun b y e hn _ => x.some e hn⟩
/-- Numbers, grown by one at a time and written. -/
inductive Cop (h : Heap) : AVal → List Int → Nat → Prop where
  | nil (l : Nat) : Cop h .nilSlice [] l
  | mk (B : Nat) (cp : List Int) (m : Mode) (l : Nat) (hb : h.get B = some (.cells (cp.map fun n => .int .i64 n) m l)) (hm : m = .own ∨ m = .kin) (h0 : 0 < cp.length) : Cop h (.slice B 0 cp.length cp.length 1 false) cp l
section
variable {h h' : Heap} {S : Nat → Prop} {l : Nat} {v : AVal} {cp : List Int}
theorem Cop.ext (c : Cop h v cp l) (x : Ext S h h') (hn : ∀ b, OnB v b → ¬ S b) : Cop h' v cp l := by
  cases c with
  | nil l => exact .nil l
  | mk B cp m l hb hm h0 => exact .mk B cp m l (x.some hb (hn B rfl)) hm h0
theorem Cop.keep (c : Cop h v cp l) (x : Keeps h h') : Cop h' v cp l := c.ext (Ext.of x fun _ => False) fun _ _ h => h
theorem Cop.len (c : Cop h v cp l) : oLen v = some (.int .i64 cp.length) := by cases c <;> rfl
theorem Cop.lt (c : Cop h v cp l) : ∀ b, OnB v b → b < h.n := by
  cases c with
  | nil l => intro b h; cases h
  | mk B cp m l hb hm h0 => rintro b rfl; exact Heap.get_lt hb
theorem ints_ok (cp : List Int) : (cp.map fun n => AVal.int .i64 n).all cellOk = true := by
  rw [List.all_eq_true]; intro x hx; obtain ⟨n, _, rfl⟩ := List.mem_map.1 hx; rfl
/-- One more. -/
theorem Cop.app (c : Cop h v cp l) {x : Int} (hbig : cp.length < 1000000) {K : AVal → Heap → Prop}
    (k : ∀ v' h' l', Cop h' v' (cp ++ [x]) l' → Ext (OnB v) h h' → (l' = l ∧ cp ≠ [] ∨ (h.n ≤ l' ∧ l' < h'.n)) → (∀ b, OnB v' b → h.n ≤ b) → K v' h') :
    ok2 (oBSl h 1 1 [.int .i64 0] [(0, 1, .int .i64 x)]) fun u h1 => ok2 (appendA h1 1 8 v u) K := by
  rw [s_oBSl1 (k := 1) (x := .int .i64 x) (by omega) rfl rfl rfl rfl]
  simp only [s_ok2]
  have hsrc : srcCells (h.push (.cells (valCells (.int .i64 x)) .own h.n)) 1 (.slice h.n 0 1 1 1 true) = some (1, [.int .i64 x]) := by
    rw [srcCells_of (s_get_push_eq _ _) (by omega) (by simp [valCells])]; rfl
  unfold appendA
  rw [hsrc]
  simp only
  have kp := Keeps.push h (.cells (valCells (.int .i64 x)) .own h.n)
  cases c with
  | nil l =>
    have e : appendN (h.push (.cells (valCells (.int .i64 x)) .own h.n)) 1 8 .nilSlice 1 [.int .i64 x] = some (.slice (h.n + 1) 0 1 1 1 false, (h.push (.cells (valCells (.int .i64 x)) .own h.n)).push (.cells [.int .i64 x] .own (h.n + 1))) := rfl
    rw [e]
    simp only [s_ok2]
    exact k _ _ (h.n + 1) (.mk (h.n + 1) [x] .own (h.n + 1) (by have := s_get_push_eq (h.push (.cells (valCells (.int .i64 x)) .own h.n)) (.cells [.int .i64 x] .own (h.n + 1)); exact this) (.inl rfl) (by simp)) (Ext.of (kp.push' _) _) (.inr ⟨by omega, Nat.lt_succ_self _⟩) fun b hb => by have : b = h.n + 1 := hb; omega
  | mk B cp m l hb hm h0 =>
    have hb' := kp.some hb
    have e : appendN (h.push (.cells (valCells (.int .i64 x)) .own h.n)) 1 8 (.slice B 0 cp.length cp.length 1 false) 1 [.int .i64 x] = some (.slice (h.n + 1) 0 (cp.length + 1) (cp.length + 1) 1 false, ((h.push (.cells (valCells (.int .i64 x)) .own h.n)).set B (.cells (cp.map fun n => .int .i64 n) .old l)).push (.cells ((cp.map fun n => .int .i64 n) ++ [.int .i64 x]) .kin l)) := by
      unfold appendN
      have h1 : (!allL cellOk [AVal.int .i64 x]) = false := rfl
      rw [h1]
      simp only [Bool.false_eq_true, if_false]
      rw [if_neg (by decide), if_neg (by omega), if_neg (by omega), hb']
      simp only [lenL_eq, allL_eq, ints_ok, appL_eq, dropL_eq, List.drop_zero, List.length_map, s_n_push]
      rw [if_pos ⟨by omega, h0, hm, trivial⟩]
    rw [e]
    simp only [s_ok2]
    have hn2 : ((h.push (.cells (valCells (.int .i64 x)) .own h.n)).set B (.cells (cp.map fun n => .int .i64 n) .old l)).n = h.n + 1 := Heap.set_n _ _ _
    have hl : (cp ++ [x]).length = cp.length + 1 := by simp
    refine k _ _ l ?_ ?_ (.inl ⟨rfl, by intro e; rw [e] at h0; cases h0⟩) fun b hb => by have : b = h.n + 1 := hb; omega
    · rw [← hl]
      refine .mk (h.n + 1) (cp ++ [x]) .kin l ?_ (.inr rfl) (by omega)
      have := s_get_push_eq ((h.push (.cells (valCells (.int .i64 x)) .own h.n)).set B (.cells (cp.map fun n => .int .i64 n) .old l)) (.cells ((cp.map fun n => .int .i64 n) ++ [.int .i64 x]) .kin l)
      rw [hn2] at this
      rw [this, List.map_append]; rfl
    · exact (((Ext.of kp (OnB (.slice B 0 cp.length cp.length 1 false))).set _ fun _ => (rfl : B = B))).push _
theorem Cop.at (c : Cop h v cp l) {j : Nat} (hj : j < cp.length) : ∃ b, OnB v b ∧ oIA 1 v (.int .i64 (j : Int)) = some (.ptr b j) ∧ oLoad h none (.ptr b j) = some (.int .i64 cp[j]) := by
  cases c with
  | nil l => cases hj
  | mk B cp m l hb hm h0 => exact ⟨B, rfl, by rw [s_oIA (by omega) (by omega) h0]; simp, by rw [s_load1 hb, List.getElem?_map, List.getElem?_eq_getElem hj]; rfl⟩
/-- One is written. -/
theorem Cop.set (c : Cop h v cp l) {j : Nat} (hj : j < cp.length) {x : Int} {b : Nat} (hb : OnB v b) {K : AVal → Heap → Prop}
    (k : ∀ h', Cop h' v (cp.set j x) l → ExtG (OnB v) l h h' → K und h') : ok2 (oStore h 1 (.ptr b j) (.int .i64 x)) K := by
  cases c with
  | nil l => cases hj
  | mk B cp m l hB hm h0 =>
    have : b = B := hb
    subst this
    have hlt := Heap.get_lt hB
    have hl : (cp.set j x).length = cp.length := List.length_set
    have hc : ∀ h', h'.get b = some (.cells ((cp.map fun n => AVal.int .i64 n).set j (.int .i64 x)) .own l) → Cop h' (.slice b 0 cp.length cp.length 1 false) (cp.set j x) l := by
      intro h' e
      rw [← hl]
      exact .mk b (cp.set j x) .own l (by rw [e, List.map_set]) (.inl rfl) (by omega)
    rcases hm with rfl | rfl
    · rw [s_store1 hB (by rw [List.length_map]; exact hj) rfl rfl]
      simp only [s_ok2]
      exact k _ (hc _ (s_get_set_eq hlt)) (ExtG.of ((Ext.refl _ _).set _ fun _ => (rfl : b = b)))
    · have hp : putCells j [AVal.int .i64 x] (cp.map fun n => AVal.int .i64 n) = some ((cp.map fun n => AVal.int .i64 n).set j (.int .i64 x)) := by
        rw [s_putCells (by rw [List.length_map]; show j + 1 ≤ _; omega) rfl]
        congr 1
        rw [List.set_eq_take_append_cons_drop, if_pos (by rw [List.length_map]; exact hj)]; rfl
      have hs : oStore h 1 (.ptr b j) (.int .i64 x) = some (und, (h.kill l b).set b (.cells ((cp.map fun n => AVal.int .i64 n).set j (.int .i64 x)) .own l)) :=
        s_store rfl (s_writeRow_kin hB hp)
      rw [hs]
      simp only [s_ok2]
      have hkn : (h.kill l b).n = h.n := rfl
      refine k _ (hc _ (s_get_set_eq (by rw [hkn]; exact hlt))) ⟨by rw [Heap.set_n, hkn]; exact Nat.le_refl _, fun c y e hn hg => ?_⟩
      have hcb : c ≠ b := fun e => hn e
      rw [s_get_set_ne hcb, Heap.get_kill, e]
      simp only [Option.map_some, Option.some.injEq]
      cases y with
      | cells cs' m' l' =>
        show (if l' = l ∧ c ≠ b ∧ m' ≠ .ro then Blk.dead else .cells cs' m' l') = .cells cs' m' l'
        rw [if_neg]
        rintro ⟨rfl, _, h3⟩
        exact h3 (hg cs' m' rfl)
      | _ => rfl
end
end Go.Ax
