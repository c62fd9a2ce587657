/- slices.Insert of cuts: its contract, out of its runs where the row's room is known. -/
import Derived.Test.YtlfmiplojpcklaaGreatAxMove
import Derived.Test.YtlfmiplojpcklaaGreatAxRe
import Derived.Test.YtlfmiplojpcklaaGreatAxSa
set_option linter.unusedSimpArgs false
set_option linter.unusedVariables false
namespace Go.Ax
section
variable {P : Program} {X : Nat → Option XDef} {f : Nat}
/-- What the run says, carried over: other memory ahead of it, other memory behind. -/
theorem carry (hm : P.follows .mixedOrders = true) (hX : XOk P X) {args : List AVal} {h0 h h' h'' : Heap} {v v'' : AVal} (hf : FnIs X f args h v h') {φ : Emb} {args' : Array Value} {w : World} (hr : VRels φ args args'.toList) (hR0 : Rel φ h0 w) (hR : Rel φ h w) (hF : Fr φ h0 w φ h w)
    (hk : ∀ v' φ' w', VRel φ' v v' → Rel φ' h' w' → φ.le φ' → ∃ φ'', VRel φ'' v'' v' ∧ Rel φ'' h'' w' ∧ Fr φ' h' w' φ'' h'' w')
    (o : Oper) (a : Act) (K : Act → World → Prop) (Q : Exit → Act → World → Prop) (hK : ∀ v' φ' w', VRel φ' v'' v' → Rel φ' h'' w' → Fr φ h0 w φ' h'' w' → K (a.put o.dst v') w') : o.upon P a K Q ((callFunc f args').run P w) := by
  obtain ⟨k, hc⟩ := hf
  refine call_sound hm hX hc hr hR o a K Q fun v' φ' w' rv rR rF => ?_
  obtain ⟨φ'', g1, g2, g3⟩ := hk v' φ' w' rv rR rF.le
  exact hK v' φ'' w' g1 g2 (Fr.trans hR0 (Fr.trans hR0 hF rF) g3)

/-- The runs of slices.Insert, two cells an element, 16 bytes. -/
structure InsRuns (X : Nat → Option XDef) (f : Nat) : Prop where
  out : ∀ {h : Heap} {b o n i bv iv cv ev ln lv : Nat} {xv : Bool} {cs cv0 new : List AVal} {md mv : Mode}, h.get b = some (.cells cs md ln) → h.get bv = some (.cells cv0 mv lv) → srcCells h 2 (.slice bv iv 1 cv ev xv) = some (1, new) → new.length = 2 → i < n → o + n * 2 = cs.length → cs.all cellOk = true → new.all cellOk = true → (n + 1) * 16 ≤ 35184372088832 →
    FnIs X f [.slice b o n n 2 true, .int .i64 (i : Int), .slice bv iv 1 cv ev xv] h (.slice h.n 0 (n + 1) (n + 1) 2 false) (h.push (.cells ((cs.drop o).take (i * 2) ++ (new ++ cs.drop (o + i * 2))) .own h.n))
  inn : ∀ {h : Heap} {b o n i bv iv cv ev ln lv : Nat} {xv : Bool} {cs cv0 new : List AVal} {md : Mode} {C : Nat} {U : List AVal} {h1 : Heap}, h.get b = some (.cells (cs ++ U) md ln) → h.get bv = some (.cells cv0 .own lv) → srcCells h 2 (.slice bv iv 1 cv ev xv) = some (1, new) → new.length = 2 → i < n → o + n * 2 = cs.length → cs.all cellOk = true → new.all cellOk = true →
    n + 1 ≤ C → U.length = (C - n) * 2 → b ≠ bv → 0 < cv → ev = 2 → (n + 1) * 16 ≤ 35184372088832 → (∀ f cs', f (cs ++ U) = some cs' → writeRow h b f = some (h1.set b (.cells cs' .own ln))) → (∀ s, srcCells (h1.set b s) 2 (.slice bv iv 1 cv ev xv) = some (1, new)) → b < h1.n →
    FnIs X f [.slice b o n C 2 true, .int .i64 (i : Int), .slice bv iv 1 cv ev xv] h (.slice b o (n + 1) C 2 true) (h1.set b (.cells (cs.take (o + i * 2) ++ (new ++ (cs.drop (o + i * 2) ++ U.drop 2))) .own ln))
  app : ∀ {h h' : Heap} {s v : AVal} {i bv iv cv ev : Nat} {xv : Bool}, oLen s = some (.int .i64 (i : Int)) → (oSl 2 s (some (.int .i64 (i : Int))) none none).isSome = true → appendA h 2 16 s (.slice bv iv 1 cv ev xv) = some (v, h') →
    FnIs X f [s, .int .i64 (i : Int), .slice bv iv 1 cv ev xv] h v h'
theorem killB_n (h : Heap) (b l : Nat) : (killB h b l).n = h.n := by unfold killB; rw [Heap.set_n]; rfl
theorem killB_get {h : Heap} {b l : Nat} (c : Nat) : (killB h b l).get c = h.get c ∨ (killB h b l).get c = some .dead := by
  unfold killB
  rw [Heap.get_set]
  split
  · exact .inr rfl
  · rw [Heap.get_kill]
    cases hx : h.get c with
    | none => exact .inl rfl
    | some x =>
      simp only [Option.map_some]
      cases x with
      | cells cs m l' =>
        show some (if l' = l ∧ c ≠ b ∧ m ≠ .ro then Blk.dead else .cells cs m l') = _ ∨ some (if l' = l ∧ c ≠ b ∧ m ≠ .ro then Blk.dead else .cells cs m l') = _
        split
        · exact .inr rfl
        · exact .inl rfl
      | _ => exact .inl rfl
theorem killB_ro {h : Heap} {b l : Nat} {c : Nat} {cs : List AVal} {l2 : Nat} (hc : h.get c = some (.cells cs .ro l2)) (hb : c ≠ b) : (killB h b l).get c = some (.cells cs .ro l2) := by
  unfold killB
  rw [s_get_set_ne hb, Heap.get_kill, hc]
  show some (if l2 = l ∧ c ≠ b ∧ Mode.ro ≠ .ro then Blk.dead else .cells cs .ro l2) = _
  rw [if_neg (fun hh => hh.2.2 rfl)]

theorem ins_at (hm : P.follows .mixedOrders = true) (hX : XOk P X) (runs : InsRuns X f) {h h' : Heap} {v : AVal} {b o n i cap bv iv cv ev : Nat} {ex xv : Bool} (hin : i < n) (hg : insH 2 16 (.slice b o n cap 2 ex) i bv iv cv ev xv h = some (v, h')) {φ : Emb} {args' : Array Value} {w : World} (hr : VRels φ [.slice b o n cap 2 ex, .int .i64 (i : Int), .slice bv iv 1 cv ev xv] args'.toList) (hR : Rel φ h w)
    (op : Oper) (a : Act) (K : Act → World → Prop) (Q : Exit → Act → World → Prop) (hK : ∀ v' φ' w', VRel φ' v v' → Rel φ' h' w' → Fr φ h w φ' h' w' → K (a.put op.dst v') w') : op.upon P a K Q ((callFunc f args').run P w) := by
  unfold insH at hg
  simp only [Nat.beq_refl] at hg
  rw [show Nat.beq i n = false by cases hb : Nat.beq i n with | false => rfl | true => exact absurd (Nat.eq_of_beq_eq_true hb) (by omega)] at hg
  simp only at hg
  split at hg
  · rename_i cs md l cv0 lv m' new hb hv hs
    split at hg
    · rename_i hcond
      obtain ⟨rfl, hcv, _, hcap, _, hbv, hmd, ho, hcs, hnew, hnl, hbig⟩ := hcond
      rw [lenL_eq] at ho hnl
      rw [allL_eq] at hcs hnew
      simp only [Option.some.injEq, Prod.mk.injEq, appL_eq, takeL_eq, dropL_eq] at hg
      obtain ⟨rfl, rfl⟩ := hg
      have hbn := Heap.get_lt hb
      -- the arguments
      obtain ⟨x, y, z, ha, rx, ry, rz⟩ : ∃ x y z, args'.toList = [x, y, z] ∧ VRel φ (.slice b o n cap 2 ex) x ∧ VRel φ (.int .i64 (i : Int)) y ∧ VRel φ (.slice bv iv 1 cv ev xv) z := by
        generalize args'.toList = L at hr
        cases hr with
        | cons h1 h2 => cases h2 with
          | cons h3 h4 => cases h4 with
            | cons h5 h6 => cases h6; exact ⟨_, _, _, rfl, h1, h3, h5⟩
      obtain ⟨A, C, rfl, hC1, hC2, hC3, hC4⟩ := rx.slice_inv
      obtain ⟨e, he, rfl, hN⟩ := hC4 hcap
      have hev : ev = 2 := by
        unfold srcCells at hs
        simp only at hs
        rw [if_neg (by omega)] at hs
        split at hs
        · cases hs
        · omega
      by_cases hfull : C = n
      · -- no room
        subst hfull
        refine carry hm hX (h0 := h) (h := h) (v'' := .slice h.n 0 (C + 1) (C + 1) 2 false) (runs.out (md := md) (ln := l) (mv := .own) hb hv hs hnl hin ho hcs hnew hbig) (by rw [ha]; exact .cons (.slice b o C C 2 true e C he (by omega) (by omega) (by omega) (fun _ => rfl) hN) (.cons ry (.cons rz .nil))) hR hR (Fr.refl _ _ _) ?_ op a K Q hK
        intro v' φ' w' rv rR _
        refine ⟨φ', rv, rR.dead (by rw [s_n_push, s_n_push, killB_n]) (fun c => ?_), Fr.abs (by rw [s_n_push, s_n_push, killB_n]) fun c cs2 l2 hc => ?_⟩
        · rw [Heap.get_push, Heap.get_push, killB_n]
          split
          · exact .inl rfl
          · exact killB_get c
        · rw [Heap.get_push] at hc ⊢
          rw [killB_n]
          split at hc
          · simp only [Option.some.injEq, Blk.cells.injEq] at hc; exact absurd hc.2.1 (by decide)
          · rename_i hcn
            rw [if_neg hcn]
            refine killB_ro hc fun hcb => ?_
            subst hcb
            rw [hb] at hc; simp only [Option.some.injEq, Blk.cells.injEq] at hc
            rcases hmd with h1 | h1 <;> rw [h1] at hc <;> exact absurd hc.2.1 (by decide)
      · -- there is room
        have hCn : n + 1 ≤ C := by omega
        have hU : (List.replicate ((C - n) * 2) AVal.unk).length = (C - n) * 2 := List.length_replicate
        have hl2 : (cs ++ List.replicate ((C - n) * 2) AVal.unk).length ≤ e.N := by rw [List.length_append, hU]; omega
        have hR2 : Rel φ (h.set b (.cells (cs ++ List.replicate ((C - n) * 2) AVal.unk) md l)) w := by
          refine hR.reread he hb (by rcases hmd with h1 | h1; exact .inl h1; exact .inr ⟨h1, by rw [List.length_append]; omega⟩) (fun i c hi => ?_) hl2
          rw [List.getElem?_append] at hi
          split at hi
          · exact .inl hi
          · rw [List.getElem?_replicate] at hi
            split at hi
            · exact .inr (by simpa using hi.symm)
            · cases hi
        have hF2 : Fr φ h w φ (h.set b (.cells (cs ++ List.replicate ((C - n) * 2) AVal.unk) md l)) w := by
          refine Fr.abs (Heap.set_n _ _ _) fun c cs2 l2 hc => ?_
          rw [s_get_set_ne (fun hcb => ?_)]
          · exact hc
          · subst hcb
            rw [hb] at hc; simp only [Option.some.injEq, Blk.cells.injEq] at hc
            rcases hmd with h1 | h1 <;> rw [h1] at hc <;> exact absurd hc.2.1 (by decide)
        generalize hUe : List.replicate ((C - n) * 2) AVal.unk = U at *
        generalize hh2 : h.set b (.cells (cs ++ U) md l) = h2 at *
        have g2b : h2.get b = some (.cells (cs ++ U) md l) := by rw [← hh2]; exact s_get_set_eq hbn
        have g2v : h2.get bv = some (.cells cv0 .own lv) := by rw [← hh2, s_get_set_ne (Ne.symm hbv)]; exact hv
        have g2s : srcCells h2 2 (.slice bv iv 1 cv ev xv) = some (1, new) := by rw [← hh2, srcCells_set (Ne.symm hbv)]; exact hs
        have n2 : h2.n = h.n := by rw [← hh2, Heap.set_n]
        -- the memory that the writes begin with
        obtain ⟨h1, n1, w1, g1v, g1⟩ : ∃ h1 : Heap, h1.n = h.n ∧ (∀ f cs', f (cs ++ U) = some cs' → writeRow h2 b f = some (h1.set b (.cells cs' .own l))) ∧ h1.get bv = some (.cells cv0 .own lv) ∧ ∀ c, c ≠ b → ((killB h b l).get c = h1.get c ∨ (killB h b l).get c = some .dead) ∧ ∀ cs2 l2, h1.get c = some (.cells cs2 .ro l2) → (killB h b l).get c = some (.cells cs2 .ro l2) := by
          rcases hmd with rfl | rfl
          · refine ⟨h2, n2, fun f cs' hf => s_writeRow g2b hf, g2v, fun c hc => ?_⟩
            rw [← hh2, s_get_set_ne hc]; exact ⟨killB_get c, fun cs2 l2 hx => killB_ro hx hc⟩
          · have keq : ∀ c, c ≠ b → (killB h b l).get c = (h2.kill l b).get c := fun c hc => by
              unfold killB
              rw [s_get_set_ne hc, Heap.get_kill, Heap.get_kill, ← hh2, s_get_set_ne hc]
            refine ⟨h2.kill l b, n2, fun f cs' hf => s_writeRow_kin g2b hf, ?_, fun c hc => ⟨.inl (keq c hc), fun cs2 l2 hx => (keq c hc).trans hx⟩⟩
            · rw [Heap.get_kill, g2v]
              show some (if lv = l ∧ bv ≠ b ∧ Mode.own ≠ .ro then Blk.dead else .cells cv0 .own lv) = _
              rw [if_neg (fun hh => ?_)]
              obtain ⟨rfl, h3, _⟩ := hh
              exact hbv (hR.inv.own bv cv0 _ b cs .kin hv hb (by decide))
        refine carry hm hX (h0 := h) (h := h2) (v'' := .slice h.n 0 (n + 1) (n + 1) 2 false) (runs.inn (C := C) (U := U) (h1 := h1) (md := md) (ln := l) g2b g2v g2s hnl hin ho hcs hnew hCn hU hbv hcv hev hbig w1 (fun s => ?_) (by omega)) (by rw [ha]; exact .cons (.slice b o n C 2 true e C he (by omega) (by omega) (by omega) (fun _ => rfl) hN) (.cons ry (.cons rz .nil))) hR hR2 hF2 ?_ op a K Q hK
        · rw [srcCells_set (Ne.symm hbv)]
          unfold srcCells rowOf at g2s ⊢
          simp only [g2v] at g2s
          simp only [g1v]
          exact g2s
        · intro v' φ' w' rv rR hle
          have he' := hle b e he
          have g3 : (h1.set b (.cells (cs.take (o + i * 2) ++ (new ++ (cs.drop (o + i * 2) ++ U.drop 2))) .own l)).get b = some (.cells (cs.take (o + i * 2) ++ (new ++ (cs.drop (o + i * 2) ++ U.drop 2))) .own l) := s_get_set_eq (by omega)
          have hmv := Rel.move rR (o := o) he' g3 (by rw [List.length_append, List.length_take]; omega)
          generalize hh3 : h1.set b (.cells (cs.take (o + i * 2) ++ (new ++ (cs.drop (o + i * 2) ++ U.drop 2))) .own l) = h3 at *
          have n3 : h3.n = h.n := by rw [← hh3, Heap.set_n, n1]
          have hrow : (cs.take (o + i * 2) ++ (new ++ (cs.drop (o + i * 2) ++ U.drop 2))).drop o = ((cs.drop o).take (i * 2) ++ (new ++ cs.drop (o + i * 2))) ++ U.drop 2 := by
            rw [List.drop_append, List.drop_take, List.length_take, show o - min (o + i * 2) cs.length = 0 by omega, List.drop_zero, show o + i * 2 - o = i * 2 by omega]
            simp only [List.append_assoc]
          rw [hrow, n3] at hmv
          generalize hnew3 : (cs.drop o).take (i * 2) ++ (new ++ cs.drop (o + i * 2)) = R at *
          have hRl : R.length = (n + 1) * 2 := by rw [← hnew3, List.length_append, List.length_append, List.length_take, List.length_drop, List.length_drop, hnl]; omega
          obtain ⟨m1, m2⟩ := hmv
          have nd : (h3.set b .dead).n = h.n := by rw [Heap.set_n, n3]
          have gN : ((h3.set b .dead).push (.cells (R ++ U.drop 2) .own h.n)).get h.n = some (.cells (R ++ U.drop 2) .own h.n) := by rw [Heap.get_push, if_pos nd.symm]
          have hcut := m1.reread (Emb.upd_self φ' h.n _) gN (.inl rfl) (cs' := R) (fun i c hi => .inl (by rw [List.getElem?_append_left (List.getElem?_eq_some_iff.1 hi).1]; exact hi)) (by rw [hRl]; simp only; omega)
          have hset : ((h3.set b .dead).push (.cells (R ++ U.drop 2) .own h.n)).set h.n (.cells R .own h.n) = (h3.set b .dead).push (.cells R .own h.n) := by
            have := s_push_set (h3.set b .dead) (.cells (R ++ U.drop 2) .own h.n) (.cells R .own h.n)
            rwa [nd] at this
          rw [hset] at hcut
          have gd : ∀ c, ((killB h b l).push (.cells R .own h.n)).get c = ((h3.set b .dead).push (.cells R .own h.n)).get c ∨ ((killB h b l).push (.cells R .own h.n)).get c = some .dead := by
            intro c
            rw [Heap.get_push, Heap.get_push, killB_n, nd]
            split
            · exact .inl rfl
            · by_cases hcb : c = b
              · subst hcb
                left
                rw [s_get_set_eq (by omega)]
                unfold killB
                rw [s_get_set_eq (by show c < h.n; exact hbn)]
              · rw [s_get_set_ne hcb, ← hh3, s_get_set_ne hcb]
                exact (g1 c hcb).1
          have hfin := hcut.dead (h2 := (killB h b l).push (.cells R .own h.n)) (by rw [s_n_push, s_n_push, killB_n, nd]) gd
          obtain ⟨A, C2, hv1, hC21, hC22, hC23, hC24⟩ := rv.slice_inv
          obtain ⟨e2, he2, rfl, hN2⟩ := hC24 (by omega)
          rw [he'] at he2
          simp only [Option.some.injEq] at he2
          subst he2
          have hCC : C2 = C := hC23 rfl
          subst hCC
          have hle2 := m2.le
          refine ⟨_, ?_, hfin, Fr.trans rR m2 (Fr.trans m1 (Fr.abs (h2 := (h3.set b .dead).push (.cells R .own h.n)) (by rw [s_n_push, s_n_push]) fun c cs2 l2 hc => ?_) (Fr.abs (by rw [s_n_push, s_n_push, killB_n, nd]) fun c cs2 l2 hc => ?_))⟩
          · rw [hv1]
            have := VRel.slice (φ := φ'.upd h.n ⟨e.B, e.o + o, e.N - o⟩) h.n 0 (n + 1) (n + 1) 2 false ⟨e.B, e.o + o, e.N - o⟩ C2 (Emb.upd_self _ _ _) (by omega) (by omega) hCn (fun hh => by cases hh) (by simp only; omega)
            exact this
          · rw [Heap.get_push] at hc ⊢
            split at hc
            · simp only [Option.some.injEq, Blk.cells.injEq] at hc; exact absurd hc.2.1 (by decide)
            · rename_i hcn; rw [if_neg hcn]; exact hc
          · rw [Heap.get_push] at hc ⊢
            rw [killB_n]
            rw [nd] at hc
            split at hc
            · simp only [Option.some.injEq, Blk.cells.injEq] at hc; exact absurd hc.2.1 (by decide)
            · rename_i hcn
              rw [if_neg hcn]
              by_cases hcb : c = b
              · subst hcb; rw [s_get_set_eq (by omega)] at hc; cases hc
              · rw [s_get_set_ne hcb, ← hh3, s_get_set_ne hcb] at hc
                exact (g1 c hcb).2 cs2 l2 hc
    · cases hg
  · cases hg

theorem ins_known (hm : P.follows .mixedOrders = true) (hX : XOk P X) (runs : InsRuns X f) : KnownS P f (insG 2 16) := by
  refine ⟨fun args h v h' hg φ args' w hr hR op a K Q hK => ?_⟩
  unfold insG at hg
  split at hg
  · rename_i s i bv iv cv ev xv
    have app : ∀ {s : AVal}, oLen s = some (.int .i64 (i : Int)) → (oSl 2 s (some (.int .i64 (i : Int))) none none).isSome = true → appendA h 2 16 s (.slice bv iv 1 cv ev xv) = some (v, h') → VRels φ [s, .int .i64 (i : Int), .slice bv iv 1 cv ev xv] args'.toList → op.upon P a K Q ((callFunc f args').run P w) := by
      intro s h1 h2 h3 hr
      obtain ⟨k, hc⟩ := runs.app h1 h2 h3
      exact call_sound hm hX hc hr hR op a K Q hK
    cases s with
    | nilSlice =>
      unfold insH at hg
      simp only at hg
      split at hg
      · exact app rfl rfl hg hr
      · cases hg
    | slice b o n cap es ex =>
      have hes : es = 2 := by
        unfold insH at hg
        simp only at hg
        split at hg
        · cases hg
        · rename_i hb; exact Nat.eq_of_beq_eq_true hb
      subst hes
      by_cases hin : i = n
      · subst hin
        have e : insH 2 16 (.slice b o i cap 2 ex) i bv iv cv ev xv h = appendA h 2 16 (.slice b o i cap 2 ex) (.slice bv iv 1 cv ev xv) := by
          unfold insH
          simp only [Nat.beq_refl]
        rw [e] at hg
        exact app rfl (by rw [s_sl_lo (Nat.le_refl i)]; rfl) hg hr
      · have hin2 : i < n := by
          rcases Nat.lt_or_gt_of_ne hin with h1 | h1
          · exact h1
          · exfalso
            unfold insH at hg
            simp only [Nat.beq_refl] at hg
            rw [show Nat.beq i n = false by cases hb : Nat.beq i n with | false => rfl | true => exact absurd (Nat.eq_of_beq_eq_true hb) (by omega)] at hg
            simp only at hg
            split at hg
            · split at hg
              · rename_i hc; omega
              · cases hg
            · cases hg
        exact ins_at hm hX runs hin2 hg hr hR op a K Q hK
    | _ => unfold insH at hg; cases hg
  · cases hg
end
end Go.Ax
