/- Strings' bytes; append: the model's side. -/
import Derived.Test.YtlfmiplojpcklaaAxAct2
set_option linter.unusedSimpArgs false
set_option linter.unusedVariables false
namespace Go.Ax
open Go (run_underlying)
section
variable {P : Program} {φ : Emb} {t : Tmps} {a : Act} {h h' : Heap} {w : World}

/-- A row of one's own that is frozen: from here on it is only read. -/
theorem Rel.refreeze (hR : Rel φ h w) {b : Nat} {e : Loc} {cs : List AVal} {l : Nat} {C : Array Value} {T : TypeId} {fr fr' : Nat × Nat} (he : φ b = some e) (hb : h.get b = some (.cells cs .own l)) (hC : w.heap[e.B]? = some (.cells C T fr)) :
    Rel φ (h.set b (.cells cs .ro l)) (setBlk w e.B (.cells C T fr')) ∧ Fr φ h w φ (h.set b (.cells cs .ro l)) (setBlk w e.B (.cells C T fr')) := by
  have hlt := Heap.get_lt hb
  have gs : (h.set b (.cells cs .ro l)).get b = some (.cells cs .ro l) := by rw [Heap.get_set, if_pos ⟨rfl, hlt⟩]
  have go : ∀ c, c ≠ b → (h.set b (.cells cs .ro l)).get c = h.get c := fun c hc => by rw [Heap.get_set, if_neg (fun e => hc e.1)]
  have apart : ∀ c e2 y, c ≠ b → φ c = some e2 → h.get c = some y → y.live = true → e2.B ≠ e.B := by
    intro c e2 y hc he2 hy hlive heq
    rcases hR.sep b c e e2 _ y he he2 hb hy rfl hlive heq.symm (Ne.symm hc) with ⟨h3, _⟩ | ⟨cs1, m1, l1, cs2, m2, h3, h4, _, h6, _⟩
    · cases h3
    · simp only [Blk.cells.injEq] at h3
      obtain ⟨_, _, rfl⟩ := h3
      subst h4
      exact hc (hR.inv.own b cs _ c cs2 m2 hb hy h6)
  have bk : ∀ c cs2 m2 l2, (h.set b (.cells cs .ro l)).get c = some (.cells cs2 m2 l2) → m2 ≠ .ro → c ≠ b ∧ h.get c = some (.cells cs2 m2 l2) := by
    intro c cs2 m2 l2 hy hm2
    by_cases hcb : c = b
    · subst hcb
      rw [gs] at hy; simp only [Option.some.injEq, Blk.cells.injEq] at hy
      exact absurd hy.2.1.symm hm2
    · rw [go c hcb] at hy; exact ⟨hcb, hy⟩
  refine ⟨⟨fun c e2 hc => by rw [setBlk_size, Heap.set_n]; exact hR.dom c e2 hc, ?_, ?_, ?_⟩, ⟨rfl, rfl, rfl, by rw [setBlk_size]; omega, Emb.le_refl φ, by rw [Heap.set_n]; omega, ?_, ?_, fun _ _ h => .inl h⟩⟩
  · intro c e2 x hc hx
    by_cases hcb : c = b
    · subst hcb
      rw [gs] at hx; simp only [Option.some.injEq] at hx; subst hx
      rw [he] at hc; simp only [Option.some.injEq] at hc; subst hc
      obtain ⟨C2, T2, fr2, h1, h2, h3, h4, _⟩ := hR.blk c e _ he hb
      rw [hC] at h1
      simp only [Option.some.injEq, Obj.cells.injEq] at h1
      obtain ⟨rfl, rfl, rfl⟩ := h1
      exact ⟨C, T, fr', setBlk_self hC, h2, h3, h4, fun h => absurd rfl h⟩
    · rw [go c hcb] at hx
      by_cases hlive : x.live = true
      · exact (hR.blk c e2 x hc hx).at (setBlk_other (apart c e2 x hcb hc hx hlive))
      · cases x <;> simp [Blk.live] at hlive <;> trivial
  · intro c c' e2 e2' x x' hc hc' hx hx' hl1 hl2 heq hne
    by_cases hcb : c = b
    · subst hcb
      rw [he] at hc; simp only [Option.some.injEq] at hc; subst hc
      rw [go c' (Ne.symm hne)] at hx'
      exact absurd heq.symm (apart c' e2' x' (Ne.symm hne) hc' hx' hl2)
    · rw [go c hcb] at hx
      by_cases hcb' : c' = b
      · subst hcb'
        rw [he] at hc'; simp only [Option.some.injEq] at hc'; subst hc'
        exact absurd heq (apart c e2 x hcb hc hx hl1)
      · rw [go c' hcb'] at hx'
        exact hR.sep c c' e2 e2' x x' hc hc' hx hx' hl1 hl2 heq hne
  · refine ⟨?_, ?_, ?_⟩
    · intro c cs2 m2 l2 hy hm2
      rw [Heap.set_n]; exact hR.inv.lt c cs2 m2 l2 (bk _ _ _ _ hy hm2).2 hm2
    · intro c cs2 l2 c' cs2' m' hy hy' hm'
      exact hR.inv.own c cs2 l2 c' cs2' m' (bk _ _ _ _ hy (by decide)).2 (bk _ _ _ _ hy' hm').2 hm'
    · intro c cs2 l2 c' cs2' m' hy hy' hm' hne
      exact hR.inv.tip c cs2 l2 c' cs2' m' (bk _ _ _ _ hy (by decide)).2 (bk _ _ _ _ hy' hm').2 hm' hne
  · intro B hB ht
    exact setBlk_other fun heq => ht ⟨b, e, _, he, heq.symm, hb, rfl⟩
  · intro c cs2 l2 hx
    by_cases hcb : c = b
    · subst hcb
      rw [hb] at hx; simp only [Option.some.injEq, Blk.cells.injEq] at hx
      cases hx.2.1
    · rw [go c hcb]; exact hx

theorem freeze_blk {B : Nat} {C : Array Value} {T : TypeId} {lo hi : Nat} (hC : w.heap[B]? = some (.cells C T (lo, hi))) (n : Nat) : w.freeze { block := B, off := n } 1 = setBlk w B (.cells C T (if lo == hi then (n, n + 1) else (min lo n, max hi (n + 1)))) := by
  have hlt := (Array.getElem?_eq_some_iff.1 hC).1
  unfold World.freeze setBlk
  rw [if_neg (by omega)]
  congr 1
  apply Array.ext_getElem?
  intro i
  rw [Array.getElem?_modify]
  by_cases e : B = i
  · subst e
    rw [if_pos rfl, Array.getElem?_setIfInBounds_self_of_lt hlt, hC]; rfl
  · rw [if_neg e, Array.getElem?_setIfInBounds_ne e]
theorem stringish_run {B o : Nat} {C : Array Value} {T : TypeId} {fr : Nat × Nat} (hC : w.heap[B]? = some (.cells C T fr)) : (markStringish ⟨B, o, none⟩).run P w = .ok () (setBlk w B (.cells C T (if fr.1 == fr.2 then (C.size, C.size + 1) else (min fr.1 C.size, max fr.2 (C.size + 1))))) := by
  have hs : w.shape? B = some (T, C.size) := by simp [World.shape?, hC]
  obtain ⟨lo, hi⟩ := fr
  simp only [markStringish, Sem.run_bind, run_shape, hs, Result.andThen_ok, run_freeze, freeze_blk hC]
theorem mark_ok (ht : TRel φ t a.tmps) (hR : Rel φ h w) {src dst e1 e : TypeId} {x : Operand} {x' : Arg} {v : AVal} (hs : P.underlying src = some (.slice e1)) (hd : P.underlying dst = some (.slice e)) (he : (src == dst) = true) (hu : P.underlying e = some (.int .u8)) (hx : compArg x = some x')
    (hr : a_mark t h x' = some (v, h')) : OpOk P φ a h w (.convert src dst x) v h' := by
  have rx := compArg_rel ht hx
  unfold a_mark at hr
  split at hr
  · rename_i b i len cap es ex e2
    rw [e2] at rx
    have rv := rx
    obtain ⟨A, cap', hX, hc1, hl1, _, hcap⟩ := rx.slice_inv
    split at hr
    · cases hr
    · rename_i hc0
      obtain ⟨e', he', hA, hN⟩ := hcap (by omega)
      split at hr
      · rename_i cs l hb
        simp only [Option.some.injEq, Prod.mk.injEq] at hr
        obtain ⟨rfl, rfl⟩ := hr
        obtain ⟨C, T, fr, hC, hsz, hle, hok, hfr⟩ := hR.blk b e' _ he' hb
        obtain ⟨hR', hF⟩ := hR.refreeze (fr' := if fr.1 == fr.2 then (C.size, C.size + 1) else (min fr.1 C.size, max fr.2 (C.size + 1))) he' hb hC
        refine OpOk.value (s := convert src dst (a.eval x)) rv hR' hF ?_ fun _ _ _ _ _ => rfl
        rw [hX, hA]
        unfold convert
        simp only [Sem.run_bind, run_underlying hs, run_underlying hd, Result.andThen_ok, run_underlying hu, he, stringish_run hC, Sem.run_pure]
      · cases hr
  · cases hr

theorem push_set {α : Type} (H : Array α) (x y : α) : (H.push x).setIfInBounds H.size y = H.push y := by
  apply Array.ext_getElem?
  intro i
  by_cases e : H.size = i
  · subst e; rw [Array.getElem?_setIfInBounds_self_of_lt (by simp)]; simp
  · rw [Array.getElem?_setIfInBounds_ne e, Array.getElem?_push, Array.getElem?_push, if_neg (Ne.symm e), if_neg (Ne.symm e)]
theorem appendCap_run (need old : Nat) (T : TypeId) (w : World) : ∃ c, need ≤ c ∧ (choose (.appendCap need old T)).run P w = .ok c { w with drawn := w.drawn + 1 } :=
  ⟨_, Nat.le_add_right _ _, by rw [run_choose]; rfl⟩

theorem strBytes_ok (ht : TRel φ t a.tmps) (hR : Rel φ h w) {src dst e : TypeId} {x : Operand} {x' : Arg} {v : AVal} (hs : P.underlying src = some .string) (hd : P.underlying dst = some (.slice e)) (hu : P.underlying e = some (.int .u8)) (hx : compArg x = some x')
    (hr : a_strBytes t h x' = some (v, h')) : OpOk P φ a h w (.convert src dst x) v h' := by
  have rx := compArg_rel ht hx
  unfold a_strBytes at hr
  split at hr
  · rename_i s e1
    rw [e1] at rx
    split at hr
    · simp only [Option.some.injEq, Prod.mk.injEq, mapL_eq] at hr
      obtain ⟨rfl, rfl⟩ := hr
      obtain ⟨c, hc, hch⟩ := appendCap_run (P := P) s.size 0 e w
      obtain ⟨C, hCe⟩ : ∃ C : Array Value, C = (s.data.map fun b => Value.int .u8 b.toNat) ++ Array.replicate (c - s.size) (.int .u8 0) := ⟨_, rfl⟩
      have hds : s.data.size = s.size := rfl
      have hCs : C.size = c := by rw [hCe]; simp [hds]; omega
      let w1 : World := { w with drawn := w.drawn + 1 }
      have hget : (w1.alloc (.cells C e)).heap[w.heap.size]? = some (.cells C e) := alloc_get w1 _
      let w' := setBlk (w1.alloc (.cells C e)) w.heap.size (.cells C e (C.size, C.size + 1))
      have hw' : w'.heap = w.heap.push (.cells C e (C.size, C.size + 1)) := by
        show (w.heap.push (.cells C e)).setIfInBounds w.heap.size _ = _
        exact push_set _ _ _
      have hrel : BlkOk (φ.upd h.n ⟨w.heap.size, 0, C.size⟩) w' ⟨w.heap.size, 0, C.size⟩ (.cells (s.data.toList.map fun b => AVal.int .u8 b.toNat) .ro 0) := by
        refine ⟨C, e, (C.size, C.size + 1), by rw [hw']; simp, by simp, by simp [hCs]; omega, ?_, fun h => absurd rfl h⟩
        intro i v hv
        rw [List.getElem?_map] at hv
        obtain ⟨q, hq, rfl⟩ := Option.map_eq_some_iff.1 hv
        refine ⟨.int .u8 q.toNat, ?_, .int _ _⟩
        have hi := (List.getElem?_eq_some_iff.1 hq).1
        simp only [Array.length_toList] at hi
        rw [Array.getElem?_toList] at hq
        rw [hCe, Nat.zero_add, Array.getElem?_append_left (by simpa using hi), Array.getElem?_map, hq]
        rfl
      refine OpOk.value (s := convert src dst (a.eval x)) (φ' := φ.upd h.n ⟨w.heap.size, 0, C.size⟩) (w' := w') (v' := .slice (some ⟨w.heap.size, 0, none⟩) s.size c) ?_ (hR.push hw' hrel roCells) (Fr.push hR hw' rfl rfl rfl) ?_ fun _ _ _ _ _ => rfl
      · exact sliceRel (Emb.upd_self _ _ _) (Nat.le_refl _) hc (fun e => by cases e) (by omega)
      · rw [rx.str_inv]
        unfold convert
        have hnr : ∀ w2 : World, (newRow e C).run P w2 = .ok ⟨w2.heap.size, 0, none⟩ (w2.alloc (.cells C e)) := fun w2 => by
          simp only [newRow, Sem.run_bind, run_newObj, Result.andThen_ok, Sem.run_pure]; rfl
        simp only [Sem.run_bind, run_underlying hs, run_underlying hd, Result.andThen_ok, run_underlying hu, Conv.stringToBytes, hch, ← hCe, hnr]
        have h3 := stringish_run (P := P) (o := 0) hget
        simp only [beq_self_eq_true, if_true] at h3
        rw [show (({ w with drawn := w.drawn + 1 } : World).heap.size) = w.heap.size from rfl, h3]
        rfl
    · cases hr
  · cases hr

/-! ### append: what the model does -/
theorem growBy_le (newLen : Nat) : ∀ (r c : Nat), Builtin.growBy newLen r c ≤ max c (newLen + (newLen + 768) / 4) := by
  intro r
  induction r with
  | zero => intro c; simp only [Builtin.growBy]; omega
  | succ r ih =>
    intro c
    simp only [Builtin.growBy]
    split
    · omega
    · have := ih (c + (c + 768) / 4)
      omega
theorem nextcap_le {need cap : Nat} (h : cap < need) : Builtin.nextslicecap need cap ≤ 3 * need := by
  unfold Builtin.nextslicecap
  split
  · omega
  · split
    · omega
    · have := growBy_le need 4 cap
      omega

structure AppTypes (P : Program) (ats : Array TypeId) (e : TypeId) (i : TypeInfo) : Prop where
  t0 : ∃ u, ats[0]? = some u ∧ P.underlying u = some (.slice e)
  t1 : ∃ u d, ats[1]? = some u ∧ P.underlying u = some d ∧ ∀ k, d ≠ .int k
  info : P.info? e = some i
  bytes : 0 < i.bytes
  zero : (i.zero.map fun z => z.cells.size) = some i.size

theorem not_int {d : TypeDesc} (h : ∀ k, d ≠ .int k) : (match d with | .int _ => true | _ => false) = false := by
  cases d <;> first | rfl | (rename_i k; exact absurd rfl (h k))

theorem append_in {ats : Array TypeId} {e : TypeId} {i : TypeInfo} (T : AppTypes P ats e i) {base : Option Addr} {sLen sCap n : Nat} {x' : Value} {L : List Value} {w' : World} (hn : ∀ w, (Builtin.lenOf x').run P w = .ok n w) (hle : sLen + n ≤ sCap)
    (hf : (Builtin.firstCells i.size n x').run P w = .ok L.toArray w) (hst : ∀ A, base = some A → (storeCells (A.add (sLen * i.size)) L).run P w = .ok () w') (hno : base = none → w' = w) (ty : TypeId) :
    (Builtin.append_ ats ty #[.slice base sLen sCap, x']).run P w = .ok (.slice base (sLen + n) sCap) w' := by
  obtain ⟨⟨u, hu, hu'⟩, ⟨u2, d, hu2, hd, hnd⟩, hi, hb, hz⟩ := T
  have hsz : tSize P e = some i.size := by simp [tSize, hi]
  unfold Builtin.append_
  simp only [hu, hu2, List.getElem?_toArray, List.getElem?_cons_zero, List.getElem?_cons_succ, Sem.run_bind, run_underlying hu', run_underlying hd, Result.andThen_ok, runZ hsz, Sem.run_pure, not_int hnd, Bool.false_eq_true, if_false, hn, if_pos hle, Bool.not_false, if_true, hf]
  cases base with
  | none => rw [hno rfl]; rfl
  | some A => simp only [Sem.run_bind, hst A rfl, Result.andThen_ok, Sem.run_pure]

theorem append_out {ats : Array TypeId} {e : TypeId} {i : TypeInfo} (T : AppTypes P ats e i) {base : Option Addr} {sLen sCap n : Nat} {x' : Value} {L O : List Value} (hn : ∀ w, (Builtin.lenOf x').run P w = .ok n w) (hgt : sCap < sLen + n) (hbig : (sLen + n) * i.bytes ≤ 35184372088832)
    (hO : (Builtin.firstCells i.size sLen (.slice base sLen sCap)).run P { w with drawn := w.drawn + 1 } = .ok O.toArray { w with drawn := w.drawn + 1 })
    (hf : (Builtin.firstCells i.size n x').run P { w with drawn := w.drawn + 1 } = .ok L.toArray { w with drawn := w.drawn + 1 }) :
    ∃ c R, sLen + n ≤ c ∧ R.length = (c - (sLen + n)) * i.size ∧ ∀ ty, (Builtin.append_ ats ty #[.slice base sLen sCap, x']).run P w = .ok (.slice (some ⟨w.heap.size, 0, none⟩) (sLen + n) c) (({ w with drawn := w.drawn + 1 } : World).alloc (.cells (O ++ L ++ R).toArray e)) := by
  obtain ⟨⟨u, hu, hu'⟩, ⟨u2, d, hu2, hd, hnd⟩, hi, hb, hz⟩ := T
  have hsz : tSize P e = some i.size := by simp [tSize, hi]
  obtain ⟨zv, hzv, hzs⟩ := Option.map_eq_some_iff.1 hz
  obtain ⟨c, hc, hch⟩ := appendCap_run (P := P) (sLen + n) sCap e w
  have hzr : ∀ w, (zeroValue e).run P w = .ok zv w := fun w => by simp [zeroValue, runI hi, hzv]
  refine ⟨c, (Builtin.zeroCells zv.cells (c - (sLen + n))).toList, hc, by simp [Builtin.zeroCells, hzs], fun ty => ?_⟩
  have h1 : ¬ ((((sLen + n : Nat) : Int) > IntKind.i64.max) ∧ (False ∨ i.bytes = 0)) := by
    rintro ⟨_, h | h⟩
    · exact h
    · omega
  have h2 : ¬ (Builtin.nextslicecap (sLen + n) sCap * i.bytes > 2 ^ 48) := by
    have h3 := nextcap_le hgt
    have h4 : Builtin.nextslicecap (sLen + n) sCap * i.bytes ≤ 3 * (sLen + n) * i.bytes := Nat.mul_le_mul_right _ h3
    rw [Nat.mul_assoc] at h4
    omega
  unfold Builtin.append_
  simp only [hu, hu2, List.getElem?_toArray, List.getElem?_cons_zero, List.getElem?_cons_succ, Sem.run_bind, run_underlying hu', run_underlying hd, Result.andThen_ok, runZ hsz, Sem.run_pure, not_int hnd, hn, if_neg (show ¬ sLen + n ≤ sCap by omega), Bool.false_eq_true, if_false, Bool.not_false, if_true]
  simp only [runI hi, Result.andThen_ok]
  rw [if_neg h1]
  simp only [Sem.run_bind, runI hi, Result.andThen_ok]
  rw [if_neg h2]
  simp only [Sem.run_bind, hch, runI hi, Result.andThen_ok, run_askRoom, hO, hf, hzr, newRow, run_newObj, Sem.run_pure]
  have key : O.toArray ++ L.toArray ++ Builtin.zeroCells zv.cells (c - (sLen + n)) = (O ++ L ++ (Builtin.zeroCells zv.cells (c - (sLen + n))).toList).toArray := by
    apply Array.ext'; simp
  rw [key]
  rfl

/-! ### append of so many noughts -/
structure ZTypes (P : Program) (ats : Array TypeId) (e : TypeId) (i : TypeInfo) : Prop where
  t0 : ∃ u, ats[0]? = some u ∧ P.underlying u = some (.slice e)
  t1 : ∃ u k, ats[1]? = some u ∧ P.underlying u = some (.int k)
  info : P.info? e = some i
  bytes : 0 < i.bytes
  zero : (i.zero.map fun z => z.cells.size) = some i.size

theorem zero_part {n sz : Nat} {e : TypeId} {zv : Value} (hz : ∀ w, (zeroValue e).run P w = .ok zv w) (hs : zv.cells.size = sz) (w : World) :
    (if n * sz = 0 then pure #[] else do pure (Builtin.zeroCells (← zeroValue e).cells n) : Sem (Array Value)).run P w = .ok (Builtin.zeroCells zv.cells n) w := by
  by_cases h : n * sz = 0
  · rw [if_pos h]
    have : Builtin.zeroCells zv.cells n = #[] := by
      unfold Builtin.zeroCells
      rw [hs, h]; simp
    rw [this]; rfl
  · rw [if_neg h, Sem.run_bind, hz]; rfl

theorem small_nat {n b : Nat} (h : n * b ≤ 35184372088832) (hb : 0 < b) : n ≤ 35184372088832 := Nat.le_trans (Nat.le_mul_of_pos_right _ hb) h

theorem appendZ_in {ats : Array TypeId} {e : TypeId} {i : TypeInfo} (T : ZTypes P ats e i) {base : Option Addr} {sLen sCap n : Nat} {k : IntKind} {zv : Value} {w' : World} (hzv : i.zero = some zv) (hnb : n * i.bytes ≤ 35184372088832) (hle : sLen + n ≤ sCap)
    (hst : ∀ A, base = some A → (storeCells (A.add (sLen * i.size)) (Builtin.zeroCells zv.cells n).toList).run P w = .ok () w') (hno : base = none → w' = w) (ty : TypeId) :
    (Builtin.append_ ats ty #[.slice base sLen sCap, .int k (n : Int)]).run P w = .ok (.slice base (sLen + n) sCap) w' := by
  obtain ⟨⟨u, hu, hu'⟩, ⟨u2, k2, hu2, hd⟩, hi, hb, hz⟩ := T
  have hsz : tSize P e = some i.size := by simp [tSize, hi]
  have hzr : ∀ w, (zeroValue e).run P w = .ok zv w := fun w => by simp [zeroValue, runI hi, hzv]
  have hzs : zv.cells.size = i.size := by rw [hzv] at hz; simpa using hz
  have hns := small_nat hnb hb
  have hw : IntKind.i64.wrap (n : Int) = n := wrap_fits _ (by omega) (by omega)
  have h1 : ¬ ((n : Int) < 0) := by omega
  have h2 : ¬ ((n : Int) * (i.bytes : Int) > 2 ^ 48) := by
    have h4 : (2 : Int) ^ 48 = 281474976710656 := rfl
    rw [h4]
    have : ((n * i.bytes : Nat) : Int) = (n : Int) * (i.bytes : Int) := by simp
    omega
  unfold Builtin.append_
  simp only [hu, hu2, List.getElem?_toArray, List.getElem?_cons_zero, List.getElem?_cons_succ, Sem.run_bind, run_underlying hu', run_underlying hd, Result.andThen_ok, runZ hsz, Sem.run_pure, if_true, Go.asInt, Go.asIntOf, hw, if_neg h1, runI hi, if_neg h2, Int.toNat_natCast, if_pos hle, Bool.not_true, Bool.false_eq_true, if_false, zero_part hzr hzs]
  cases base with
  | none => rw [hno rfl]; rfl
  | some A => simp only [Sem.run_bind, hst A rfl, Result.andThen_ok, Sem.run_pure]

theorem appendZ_out {ats : Array TypeId} {e : TypeId} {i : TypeInfo} (T : ZTypes P ats e i) {base : Option Addr} {sLen sCap n : Nat} {k : IntKind} {zv : Value} {O : List Value} (hzv : i.zero = some zv) (hnb : n * i.bytes ≤ 35184372088832) (hgt : sCap < sLen + n) (hbig : (sLen + n) * i.bytes ≤ 35184372088832)
    (hO : (Builtin.firstCells i.size sLen (.slice base sLen sCap)).run P { w with drawn := w.drawn + 1 } = .ok O.toArray { w with drawn := w.drawn + 1 }) :
    ∃ c R, sLen + n ≤ c ∧ R.length = (c - (sLen + n)) * i.size ∧ ∀ ty, (Builtin.append_ ats ty #[.slice base sLen sCap, .int k (n : Int)]).run P w = .ok (.slice (some ⟨w.heap.size, 0, none⟩) (sLen + n) c) (({ w with drawn := w.drawn + 1 } : World).alloc (.cells (O ++ (Builtin.zeroCells zv.cells n).toList ++ R).toArray e)) := by
  obtain ⟨⟨u, hu, hu'⟩, ⟨u2, k2, hu2, hd⟩, hi, hb, hz⟩ := T
  have hsz : tSize P e = some i.size := by simp [tSize, hi]
  obtain ⟨c, hc, hch⟩ := appendCap_run (P := P) (sLen + n) sCap e w
  have hzr : ∀ w, (zeroValue e).run P w = .ok zv w := fun w => by simp [zeroValue, runI hi, hzv]
  have hzs : zv.cells.size = i.size := by rw [hzv] at hz; simpa using hz
  have hns := small_nat hnb hb
  have hbs := small_nat hbig hb
  have hw : IntKind.i64.wrap (n : Int) = n := wrap_fits _ (by omega) (by omega)
  have h0 : ¬ ((n : Int) < 0) := by omega
  have h0b : ¬ ((n : Int) * (i.bytes : Int) > 2 ^ 48) := by
    have h4 : (2 : Int) ^ 48 = 281474976710656 := rfl
    rw [h4]
    have : ((n * i.bytes : Nat) : Int) = (n : Int) * (i.bytes : Int) := by simp
    omega
  refine ⟨c, (Builtin.zeroCells zv.cells (c - (sLen + n))).toList, hc, by simp [Builtin.zeroCells, hzs], fun ty => ?_⟩
  have hmax : ((IntKind.i64.max : Int)) = 9223372036854775807 := rfl
  have h1 : ¬ ((((sLen + n : Nat) : Int) > IntKind.i64.max) ∧ (True ∨ i.bytes = 0)) := by
    rintro ⟨h, _⟩
    rw [hmax] at h; omega
  have h2 : ¬ (Builtin.nextslicecap (sLen + n) sCap * i.bytes > 2 ^ 48) := by
    have h3 := nextcap_le hgt
    have h4 : Builtin.nextslicecap (sLen + n) sCap * i.bytes ≤ 3 * (sLen + n) * i.bytes := Nat.mul_le_mul_right _ h3
    rw [Nat.mul_assoc] at h4
    omega
  unfold Builtin.append_
  simp only [hu, hu2, List.getElem?_toArray, List.getElem?_cons_zero, List.getElem?_cons_succ, Sem.run_bind, run_underlying hu', run_underlying hd, Result.andThen_ok, runZ hsz, Sem.run_pure, if_true, Go.asInt, Go.asIntOf, hw, if_neg h0, runI hi, if_neg h0b, Int.toNat_natCast, if_neg (show ¬ sLen + n ≤ sCap by omega), Bool.not_true, Bool.false_eq_true, if_false]
  rw [if_neg h1]
  simp only [Sem.run_bind, runI hi, Result.andThen_ok]
  rw [if_neg h2]
  simp only [Sem.run_bind, hch, runI hi, Result.andThen_ok, run_askRoom, hO, zero_part hzr hzs, hzr, newRow, run_newObj, Sem.run_pure]
  have key : O.toArray ++ Builtin.zeroCells zv.cells n ++ Builtin.zeroCells zv.cells (c - (sLen + n)) = (O ++ (Builtin.zeroCells zv.cells n).toList ++ (Builtin.zeroCells zv.cells (c - (sLen + n))).toList).toArray := by
    apply Array.ext'; simp
  rw [key]
  rfl
end
end Go.Ax
