/- What turns maps, iterators. -/
import Derived.Test.YtlfmiplojpcklaaAxAct
set_option linter.unusedSimpArgs false
set_option linter.unusedVariables false
namespace Go.Ax
open Go (run_underlying)
open Go.MapKept
section
variable {P : Program} {φ : Emb} {t : Tmps} {a : Act} {h h' : Heap} {w : World}

theorem Rel.turn (hR : Rel φ h w) {b : Nat} {e : Loc} {x x' : Blk} {o o' : Obj} (he : φ b = some e) (hb : h.get b = some x) (hx : ∀ cs m l, x ≠ .cells cs m l) (hlx : x.live = true) (hx' : ∀ cs m l, x' ≠ .cells cs m l) (hB : w.heap[e.B]? = some o)
    (hok : BlkOk φ (setBlk w e.B o') e x') : Rel φ (h.set b x') (setBlk w e.B o') ∧ Fr φ h w φ (h.set b x') (setBlk w e.B o') := by
  have hlt := Heap.get_lt hb
  have hro : x.isRo = false := by
    cases x with
    | cells cs m l => exact absurd rfl (hx cs m l)
    | _ => rfl
  have apart : ∀ c e2 y, c ≠ b → φ c = some e2 → h.get c = some y → y.live = true → e2.B ≠ e.B := by
    intro c e2 y hc he2 hy hlive heq
    rcases hR.sep b c e e2 _ y he he2 hb hy hlx hlive heq.symm (Ne.symm hc) with ⟨h3, _⟩ | ⟨cs1, m1, l1, cs2, m2, h3, _⟩
    · rw [hro] at h3; cases h3
    · exact hx _ _ _ h3
  have gs : (h.set b x').get b = some x' := by rw [Heap.get_set, if_pos ⟨rfl, hlt⟩]
  have go : ∀ c, c ≠ b → (h.set b x').get c = h.get c := fun c hc => by rw [Heap.get_set, if_neg (fun e => hc e.1)]
  refine ⟨⟨?_, ?_, ?_, ?_⟩, ?_⟩
  · intro c e2 hc
    rw [Heap.set_n, setBlk_size]; exact hR.dom c e2 hc
  · intro c e2 y hc hy
    by_cases hcb : c = b
    · subst hcb
      rw [gs] at hy
      simp only [Option.some.injEq] at hy; subst hy
      rw [he] at hc; simp only [Option.some.injEq] at hc; subst hc
      exact hok
    · rw [go c hcb] at hy
      by_cases hlive : y.live = true
      · exact (hR.blk c e2 y hc hy).at (setBlk_other (apart c e2 y hcb hc hy hlive))
      · cases y <;> simp [Blk.live] at hlive <;> trivial
  · intro c c' e2 e2' y y' hc hc' hy hy' hl1 hl2 heq hne
    by_cases hcb : c = b
    · subst hcb
      rw [he] at hc; simp only [Option.some.injEq] at hc; subst hc
      rw [go c' (Ne.symm hne)] at hy'
      exact absurd heq.symm (apart c' e2' y' (Ne.symm hne) hc' hy' hl2)
    · rw [go c hcb] at hy
      by_cases hcb' : c' = b
      · subst hcb'
        rw [he] at hc'; simp only [Option.some.injEq] at hc'; subst hc'
        exact absurd heq (apart c e2 y hcb hc hy hl1)
      · rw [go c' hcb'] at hy'
        exact hR.sep c c' e2 e2' y y' hc hc' hy hy' hl1 hl2 heq hne
  · have bk : ∀ c cs2 m2 l2, (h.set b x').get c = some (.cells cs2 m2 l2) → h.get c = some (.cells cs2 m2 l2) := by
      intro c cs2 m2 l2 hy
      by_cases hcb : c = b
      · subst hcb
        rw [gs] at hy; simp only [Option.some.injEq] at hy
        exact absurd hy (hx' _ _ _)
      · rwa [go c hcb] at hy
    refine ⟨?_, ?_, ?_⟩
    · intro c cs2 m2 l2 hy hm2
      rw [Heap.set_n]; exact hR.inv.lt c cs2 m2 l2 (bk _ _ _ _ hy) hm2
    · intro c cs2 l2 c' cs2' m' hy hy' hm'
      exact hR.inv.own c cs2 l2 c' cs2' m' (bk _ _ _ _ hy) (bk _ _ _ _ hy') hm'
    · intro c cs2 l2 c' cs2' m' hy hy' hm' hne
      exact hR.inv.tip c cs2 l2 c' cs2' m' (bk _ _ _ _ hy) (bk _ _ _ _ hy') hm' hne
  · refine ⟨rfl, rfl, rfl, by rw [setBlk_size]; omega, Emb.le_refl φ, by rw [Heap.set_n]; omega, ?_, ?_, fun b e h => .inl h⟩
    · intro B hB ht
      exact setBlk_other fun heq => ht ⟨b, e, _, he, heq.symm, hb, hro⟩
    · intro c cs2 l2 hy
      by_cases hcb : c = b
      · subst hcb
        rw [hb] at hy
        simp only [Option.some.injEq] at hy
        exact absurd hy (hx _ _ _)
      · rw [go c hcb]; exact hy

theorem find_none {k v : AVal} : ∀ {es : List (AVal × AVal)}, find k es = some none → mapSet k v es = es ++ [(k, v)] ∧ mapDel k es = es := by
  intro es
  induction es with
  | nil => intro _; exact ⟨rfl, rfl⟩
  | cons x es ih =>
    obtain ⟨k1, v1⟩ := x
    intro hf
    simp only [find] at hf
    split at hf
    · simp at hf
    · rename_i e
      obtain ⟨h1, h2⟩ := ih hf
      simp only [mapSet, mapDel, e, h1, h2, List.cons_append, and_self]
    · cases hf
theorem find_at {k v : AVal} : ∀ {es : List (AVal × AVal)} {i : Nat} {kk u : AVal}, es[i]? = some (kk, u) → keyEq k kk = some true → (∀ i' kk vv, i' < i → es[i']? = some (kk, vv) → keyEq k kk = some false) →
    mapSet k v es = es.set i (kk, v) ∧ mapDel k es = es.eraseIdx i := by
  intro es
  induction es with
  | nil => intro i kk u h; simp at h
  | cons x es ih =>
    obtain ⟨k1, v1⟩ := x
    intro i kk u hi hk hlt
    cases i with
    | zero =>
      simp only [List.getElem?_cons_zero, Option.some.injEq, Prod.mk.injEq] at hi
      obtain ⟨rfl, rfl⟩ := hi
      simp [mapSet, mapDel, hk]
    | succ i =>
      have e := hlt 0 k1 v1 (by omega) rfl
      obtain ⟨h1, h2⟩ := ih (i := i) (by simpa using hi) hk (fun i' kk vv h3 h4 => hlt (i' + 1) kk vv (by omega) (by simpa using h4))
      simp [mapSet, mapDel, e, h1, h2]
theorem keyEq_true {k k' : AVal} (h : keyEq k k' = some true) : k = k' := by
  unfold keyEq at h
  split at h
  · split at h
    · rename_i e; simp only [Option.some.injEq, beq_iff_eq] at h; rw [e, h]
    · cases h
  · rename_i q q'
    simp only [Option.some.injEq, beq_iff_eq] at h
    have : q = q' := by
      cases q; cases q'; rename_i x y; cases x; cases y; simp_all
    rw [this]
  · cases h

theorem keyStays_run {k : AVal} {k1 k2 : Value} {s : Bool} (hs : keyIs s k = true) (h1 : VRel φ k k1) (h2 : VRel φ k k2) (w : World) : (Instr.keyThatStays k1 k2).run P w = .ok k2 w := by
  have : k1 = k2 := by
    unfold keyIs at hs
    split at hs
    · rw [h1.int_inv, h2.int_inv]
    · rw [h1.str_inv, h2.str_inv]
    · cases hs
  subst this
  have : Instr.sameBits 10000 k1 k1 = true := by
    unfold keyIs at hs
    split at hs
    · rw [h1.int_inv]; simp [Instr.sameBits]
    · rw [h1.str_inv]; simp [Instr.sameBits, bytes_eq]
    · cases hs
  simp [Instr.keyThatStays, this]

theorem mapSet_rel {s : Bool} {k v : AVal} {k' v' : Value} {es : List (AVal × AVal)} {E : Array MapEntry} {clk : Nat} {d : TypeDesc} {B : Nat} {ty kt et : TypeId} (hu : P.underlying ty = some (.map kt et)) (hkt : P.underlying kt = some d) (hd : keyDesc s d)
    (hs : keyIs s k = true) (hk : VRel φ k k') (hv : VRel φ v v') (hm : MapOk φ es E.toList) {r : Option AVal} (hf : find k es = some r) (hB : w.heap[B]? = some (.map E clk)) (hborn : Born E clk) :
    ∃ E' clk', (Instr.mapUpdate ty (.map (some B)) k' v').run P w = .ok () (setBlk w B (.map E' clk')) ∧ MapOk φ (mapSet k v es) E'.toList ∧ Born E' clk' := by
  have h10 : ∀ e, Instr.checkKey e 10000 kt k' = Instr.checkKey e (9999 + 1) kt k' := fun _ => rfl
  rcases find_rel hd hs hk es E.toList 0 hm hf with ⟨rfl, h2⟩ | ⟨u, u', i, rfl, hv', h2, hlt, ⟨kk, h5, h6⟩, h7⟩
  · obtain ⟨h3, _⟩ := find_none (v := v) hf
    refine ⟨E.push { key := k', val := v', born := clk }, clk + 1, ?_, ?_, hborn.push rfl⟩
    · simp only [Instr.mapUpdate, Sem.run_bind, run_underlying hu, Result.andThen_ok, run_getObj_map hB, h10, checkKey_run hkt (keyIs_rel hd hs hk), run_findKey hkt h2, run_setObj_map _ hB]
      rfl
    · rw [h3, Array.toList_push]
      refine ⟨by simp [hm.1], fun i kk vv hi => ?_⟩
      rw [List.getElem?_append] at hi
      split at hi
      · rename_i hlt
        obtain ⟨e, he, h1⟩ := hm.2 i kk vv hi
        exact ⟨e, by rw [List.getElem?_append_left (by rw [← hm.1]; exact hlt)]; exact he, h1⟩
      · rename_i hlt
        have hl := hm.1
        have hi0 : i - es.length = 0 := by
          have := (List.getElem?_eq_some_iff.1 hi).1
          simp at this; omega
        rw [hi0] at hi
        simp only [List.getElem?_cons_zero, Option.some.injEq, Prod.mk.injEq] at hi
        obtain ⟨rfl, rfl⟩ := hi
        refine ⟨{ key := k', val := v', born := clk }, ?_, hk, hv⟩
        rw [List.getElem?_append_right (by omega), show i - E.toList.length = 0 by omega]
        rfl
  · obtain ⟨h3, _⟩ := find_at (v := v) h5 h6 h7
    have hkk := keyEq_true h6
    subst hkk
    obtain ⟨en, hen, hk1, hv1⟩ := hm.2 i k u h5
    rw [Array.getElem?_toList] at hen
    rw [Nat.zero_add] at h2
    refine ⟨E.modify i fun e => { e with key := k', val := v' }, clk, ?_, ?_, hborn.same (by
      apply List.ext_getElem?
      intro j
      rw [List.getElem?_map, List.getElem?_map, Array.getElem?_toList, Array.getElem?_toList, Array.getElem?_modify]
      split
      · cases E[j]? <;> rfl
      · rfl)⟩
    · simp only [Instr.mapUpdate, Sem.run_bind, run_underlying hu, Result.andThen_ok, run_getObj_map hB, h10, checkKey_run hkt (keyIs_rel hd hs hk), run_findKey hkt h2, hen, Option.map_some, Option.getD_some, keyStays_run hs hk1 hk, run_setObj_map _ hB]
      rfl
    · rw [h3]
      refine ⟨by have := hm.1; simp at this ⊢; exact this, fun j kk vv hj => ?_⟩
      rw [Array.getElem?_toList, Array.getElem?_modify]
      rw [List.getElem?_set] at hj
      split at hj
      · rename_i hij
        subst hij
        rw [if_pos rfl, hen]
        simp only [if_pos hlt, Option.some.injEq, Prod.mk.injEq] at hj
        obtain ⟨rfl, rfl⟩ := hj
        exact ⟨_, rfl, hk, hv⟩
      · rename_i hij
        rw [if_neg hij]
        obtain ⟨e, he, h1⟩ := hm.2 j kk vv hj
        exact ⟨e, by rwa [Array.getElem?_toList] at he, h1⟩

theorem mapUpdate_ok (ht : TRel φ t a.tmps) (hR : Rel φ h w) {ty kt et : TypeId} {s : Bool} {m k x : Operand} {m' k' x' : Arg} {v : AVal} (hu : P.underlying ty = some (.map kt et)) (hkt : tKey P kt = some s) (hm : compArg m = some m') (hk : compArg k = some k') (hx : compArg x = some x')
    (hr : a_mapUpdate t h s m' k' x' = some (v, h')) : OpOk P φ a h w (.mapUpdate ty m k x) v h' ∧ OpOk P φ a h w (.insert ty m k x) v h' := by
  obtain ⟨d, hd, hds⟩ := tKey_some hkt
  have rm := compArg_rel ht hm
  have rk := compArg_rel ht hk
  have rx := compArg_rel ht hx
  unfold a_mapUpdate at hr
  split at hr
  · rename_i b e1
    rw [e1] at rm
    obtain ⟨e, he, hX⟩ := rm.map_inv
    split at hr
    · rename_i es hb
      obtain ⟨E, clk, hE, hme, hborn⟩ := hR.blk b e _ he hb
      split at hr
      · rename_i hki
        split at hr
        · rename_i r hf
          simp only [Option.some.injEq, Prod.mk.injEq] at hr
          obtain ⟨rfl, rfl⟩ := hr
          obtain ⟨E', clk', hrun, hme'⟩ := mapSet_rel (P := P) hu hd hds hki rk rx hme hf hE hborn
          obtain ⟨hR', hF⟩ := hR.turn (o' := .map E' clk') (x' := .map (mapSet (k'.eval t) (x'.eval t) es)) he hb (fun _ _ _ e => by cases e) rfl (fun _ _ _ e => by cases e) hE ⟨E', clk', setBlk_self hE, hme'⟩
          rw [← hX] at hrun
          exact ⟨OpOk.skip hR' hF hrun fun _ _ _ _ _ => rfl, OpOk.skip hR' hF hrun fun _ _ _ _ _ => rfl⟩
        · cases hr
      · cases hr
    · cases hr
  · cases hr

theorem delete_ok (ht : TRel φ t a.tmps) (hR : Rel φ h w) {ats : Array TypeId} {kt et : TypeId} {s : Bool} {m k : Operand} {m' k' : Arg} {v : AVal} (hu : (ats[0]?).bind P.underlying = some (.map kt et)) (hkt : tKey P kt = some s) (hm : compArg m = some m') (hk : compArg k = some k')
    (hr : a_delete t h s m' k' = some (v, h')) : OpOk P φ a h w (.call { callee := .builtin .delete, argTypes := ats, args := #[m, k] }) v h' := by
  obtain ⟨ty, hty, hu⟩ := Option.bind_eq_some_iff.1 hu
  obtain ⟨d, hd, hds⟩ := tKey_some hkt
  have rm := compArg_rel ht hm
  have rk := compArg_rel ht hk
  have h10 : ∀ e, Instr.checkKey e 10000 kt (a.eval k) = Instr.checkKey e (9999 + 1) kt (a.eval k) := fun _ => rfl
  unfold a_delete at hr
  split at hr
  · rename_i e1
    rw [e1] at rm
    split at hr
    · rename_i hki
      simp only [Option.some.injEq, Prod.mk.injEq] at hr
      obtain ⟨rfl, rfl⟩ := hr
      refine builtinOk (VRel.und φ) hR (Fr.refl _ _ _) (v' := undef) fun _ => ?_
      have hX := rm.nilMap_inv
      simp [builtin, Builtin.delete_, hty, run_underlying hu, hX, h10, checkKey_run hd (keyIs_rel hds hki rk)]
      rfl
    · cases hr
  · rename_i b e1
    rw [e1] at rm
    obtain ⟨e, he, hX⟩ := rm.map_inv
    split at hr
    · rename_i es hb
      obtain ⟨E, clk, hE, hme, hborn⟩ := hR.blk b e _ he hb
      split at hr
      · rename_i hki
        split at hr
        · rename_i r hf
          simp only [Option.some.injEq, Prod.mk.injEq] at hr
          obtain ⟨rfl, rfl⟩ := hr
          have key : ∃ E' : Array MapEntry, (Builtin.delete_ ats ty #[a.eval m, a.eval k]).run P w = .ok (.tuple #[]) (setBlk w e.B (.map E' clk)) ∧ MapOk φ (mapDel (k'.eval t) es) E'.toList ∧ Born E' clk := by
            rcases find_rel hds hki rk es E.toList 0 hme hf with ⟨rfl, h2⟩ | ⟨u, u', i, rfl, hv', h2, hlt, ⟨kk, h5, h6⟩, h7⟩
            · obtain ⟨_, h3⟩ := find_none (v := und) hf
              refine ⟨E, ?_, by rw [h3]; exact hme, hborn⟩
              simp [Builtin.delete_, hty, run_underlying hu, hX, h10, checkKey_run hd (keyIs_rel hds hki rk), run_getObj_map hE, run_findKey hd h2, run_setObj_map _ hE]
              rfl
            · obtain ⟨_, h3⟩ := find_at (v := und) h5 h6 h7
              rw [Nat.zero_add] at h2
              have e1 : (E.eraseIdxIfInBounds i).toList = E.toList.eraseIdx i := by
                have hl := hme.1
                have hi : i < E.size := by simp at hl; omega
                simp [Array.eraseIdxIfInBounds, hi]
              refine ⟨E.eraseIdxIfInBounds i, ?_, ?_, hborn.erase e1⟩
              · simp [Builtin.delete_, hty, run_underlying hu, hX, h10, checkKey_run hd (keyIs_rel hds hki rk), run_getObj_map hE, run_findKey hd h2, run_setObj_map _ hE]
                rfl
              · have hl := hme.1
                have hi : i < E.size := by simp at hl; omega
                have e1 : (E.eraseIdxIfInBounds i).toList = E.toList.eraseIdx i := by
                  simp [Array.eraseIdxIfInBounds, hi]
                rw [h3, e1]
                refine ⟨by rw [List.length_eraseIdx, List.length_eraseIdx, hl], fun j kk vv hj => ?_⟩
                rw [List.getElem?_eraseIdx] at hj ⊢
                by_cases hji : j < i
                · rw [if_pos hji] at hj ⊢; exact hme.2 _ kk vv hj
                · rw [if_neg hji] at hj ⊢; exact hme.2 _ kk vv hj
          obtain ⟨E', hrun, hme'⟩ := key
          obtain ⟨hR', hF⟩ := hR.turn (o' := .map E' clk) (x' := .map (mapDel (k'.eval t) es)) he hb (fun _ _ _ e => by cases e) rfl (fun _ _ _ e => by cases e) hE ⟨E', clk, setBlk_self hE, hme'⟩
          refine builtinOk (VRel.und φ) hR' hF (v' := undef) fun ty' => ?_
          have e2 : (#[m, k].map a.eval) = #[a.eval m, a.eval k] := by simp
          simp only [builtin, e2, Sem.run_bind]
          have e3 : Builtin.delete_ ats ty' #[a.eval m, a.eval k] = Builtin.delete_ ats ty #[a.eval m, a.eval k] := rfl
          rw [e3, hrun]
          rfl
        · cases hr
      · cases hr
    · cases hr
  · cases hr

theorem next_ok (ht : TRel φ t a.tmps) (hR : Rel φ h w) {x : Operand} {x' : Arg} {v : AVal} (hx : compArg x = some x') (hr : a_next t h x' = some (v, h')) : OpOk P φ a h w (.next x true) v h' := by
  have rx := compArg_rel ht hx
  unfold a_next at hr
  split at hr
  · rename_i b e1
    rw [e1] at rx
    obtain ⟨e, he, hX⟩ := rx.ptr_inv
    split at hr
    · rename_i s pos hb
      obtain ⟨ho, hE⟩ := hR.blk b e _ he hb
      have hX' : a.eval x = .pointer (some ⟨e.B, 0, none⟩) := by rw [hX, ho]
      have hget : (getObj e.B).run P w = .ok (.stringIter s pos) w := by simp [getObj, Sem.run, hE]
      split at hr
      · rename_i hlt
        simp only [Option.some.injEq, Prod.mk.injEq] at hr
        obtain ⟨rfl, rfl⟩ := hr
        obtain ⟨hR', hF⟩ := hR.turn (o' := .stringIter s (pos + (Utf8.decode s pos).2)) (x' := .iter s (pos + (Utf8.decode s pos).2)) he hb (fun _ _ _ e => by cases e) rfl (fun _ _ _ e => by cases e) hE ⟨ho, setBlk_self hE⟩
        refine OpOk.value1 (s := fun ty => Instr.next (a.eval x) true ty) (v' := .tuple #[.bool true, goInt pos, .int .i32 (Utf8.decode s pos).1]) ?_ hR' hF (fun ty => ?_) fun _ _ _ _ _ => rfl
        · exact .tup _ _ (.cons (.bool _) (.cons (.int _ _) (.cons (.int _ _) .nil)))
        · simp only [Instr.next, hX', Sem.run_bind, hget, Result.andThen_ok, if_pos hlt]
          have hset : (setObj e.B (.stringIter s (pos + (Utf8.decode s pos).2))).run P w = .ok () (setBlk w e.B (.stringIter s (pos + (Utf8.decode s pos).2))) := by
            simp [setObj, Sem.run, hE, setBlk]
          simp only [Sem.run_bind, hset, Result.andThen_ok, Sem.run_pure]
      · rename_i hlt
        simp only [Option.some.injEq, Prod.mk.injEq] at hr
        obtain ⟨rfl, rfl⟩ := hr
        refine OpOk.value1 (s := fun ty => Instr.next (a.eval x) true ty) (v' := .tuple #[.bool false]) (.tup _ _ (.cons (.bool _) .nil)) hR (Fr.refl _ _ _) (fun ty => ?_) fun _ _ _ _ _ => rfl
        simp only [Instr.next, hX', Sem.run_bind, hget, Result.andThen_ok, if_neg hlt, Sem.run_pure]
    · cases hr
  · cases hr
end
end Go.Ax
