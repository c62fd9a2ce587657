/- append, joined; every act but the call. -/
import Derived.Test.YtlfmiplojpcklaaAxAct4
set_option linter.unusedSimpArgs false
set_option linter.unusedVariables false
namespace Go.Ax
open Go (run_underlying)
section
variable {P : Program} {φ : Emb} {t : Tmps} {a : Act} {h h' : Heap} {w : World}

theorem new_get {w' : World} {H : Array Obj} {o : Obj} (hw : w'.heap = H.push o) : w'.heap[H.size]? = some o := by rw [hw]; simp

/-- A new row of its own: old and new cells, and what room there is. -/
theorem append_own (hR : Rel φ h w) {es : Nat} {old new : List AVal} {O L R : List Value} {T : TypeId} {len n c : Nat} (rO : VRels φ old O) (rL : VRels φ new L) (ho : old.length = len * es) (hn : new.length = n * es) (hRl : R.length = (c - (len + n)) * es) (hc : len + n ≤ c) (h0 : 0 < len + n) :
    ∃ φ', VRel φ' (.slice h.n 0 (len + n) (len + n) es false) (.slice (some ⟨w.heap.size, 0, none⟩) (len + n) c) ∧
      Rel φ' (h.push (.cells (old ++ new) .own h.n)) (({ w with drawn := w.drawn + 1 } : World).alloc (.cells (O ++ L ++ R).toArray T)) ∧
      Fr φ h w φ' (h.push (.cells (old ++ new) .own h.n)) (({ w with drawn := w.drawn + 1 } : World).alloc (.cells (O ++ L ++ R).toArray T)) := by
  have hs : (O ++ L ++ R).toArray.size = c * es := by
    have e1 := rO.length
    have e2 := rL.length
    have e3 : c * es = (len + n) * es + (c - (len + n)) * es := by rw [← Nat.add_mul]; congr 1; omega
    have e4 : (len + n) * es = len * es + n * es := Nat.add_mul _ _ _
    simp only [List.size_toArray, List.length_append]
    omega
  have hw : (({ w with drawn := w.drawn + 1 } : World).alloc (.cells (O ++ L ++ R).toArray T)).heap = w.heap.push (.cells (O ++ L ++ R).toArray T) := rfl
  have rel := rO.append rL
  refine ⟨φ.upd h.n ⟨w.heap.size, 0, (O ++ L ++ R).toArray.size⟩, sliceRel (Emb.upd_self _ _ _) (Nat.le_refl _) hc (fun e => by cases e) (by omega), hR.push hw ?_ ownCells, Fr.push hR hw rfl rfl rfl⟩
  refine ⟨_, T, (0, 0), new_get hw, by simp, ?_, ?_, fun _ => rfl⟩
  · have := rel.length
    simp only [List.size_toArray, List.length_append] at this ⊢
    omega
  · intro i v hv
    obtain ⟨v', h1, h2⟩ := (rel.mono (hR.upd_le _)).get i v hv
    have := (List.getElem?_eq_some_iff.1 h1).1
    refine ⟨v', ?_, h2⟩
    rw [Nat.zero_add, List.getElem?_toArray, List.getElem?_append_left this]
    exact h1

theorem append_core (ht : TRel φ t a.tmps) (hR : Rel φ h w) {ats : Array TypeId} {e : TypeId} {i : TypeInfo} {s x : Operand} {s' : Arg} {v : AVal} (hs : compArg s = some s') {n : Nat} {new : List AVal} {L L' : List Value} (hnl : new.length = n * i.size) (rL : VRels φ new L) (rL' : VRels φ new L')
    (Hin : ∀ (base : Option Addr) (sLen sCap : Nat) (w' : World), sLen + n ≤ sCap → (∀ A, base = some A → (storeCells (A.add (sLen * i.size)) L).run P w = .ok () w') → (base = none → w' = w) → ∀ ty, (Builtin.append_ ats ty #[.slice base sLen sCap, a.eval x]).run P w = .ok (.slice base (sLen + n) sCap) w')
    (Hout : ∀ (base : Option Addr) (sLen sCap : Nat) (O : List Value), sCap < sLen + n → (sLen + n) * i.bytes ≤ 35184372088832 → (Builtin.firstCells i.size sLen (.slice base sLen sCap)).run P { w with drawn := w.drawn + 1 } = .ok O.toArray { w with drawn := w.drawn + 1 } →
      ∃ c R, sLen + n ≤ c ∧ R.length = (c - (sLen + n)) * i.size ∧ ∀ ty, (Builtin.append_ ats ty #[.slice base sLen sCap, a.eval x]).run P w = .ok (.slice (some ⟨w.heap.size, 0, none⟩) (sLen + n) c) (({ w with drawn := w.drawn + 1 } : World).alloc (.cells (O ++ L' ++ R).toArray e)))
    (hr : appendN h i.size i.bytes (s'.eval t) n new = some (v, h')) : OpOk P φ a h w (.call { callee := .builtin .append, argTypes := ats, args := #[s, x] }) v h' := by
  have rs := compArg_rel ht hs
  have hb : ∀ {v' : Value} {φ' : Emb} {w' : World}, VRel φ' v v' → Rel φ' h' w' → Fr φ h w φ' h' w' → (∀ ty, (Builtin.append_ ats ty #[a.eval s, a.eval x]).run P w = .ok v' w') → OpOk P φ a h w (.call { callee := .builtin .append, argTypes := ats, args := #[s, x] }) v h' := by
    intro v' φ' w' h1 h2 h3 h4
    refine builtinOk h1 h2 h3 fun ty => ?_
    have e2 : (#[s, x].map a.eval) = #[a.eval s, a.eval x] := by simp
    simp only [builtin, e2, Sem.run_bind, h4, Result.andThen_ok, Sem.run_pure]
  unfold appendN at hr
  split at hr
  · cases hr
  · rename_i hall
    simp only [Bool.not_eq_true', Bool.not_eq_false, allL_eq] at hall
    split at hr
    · rename_i e1
      rw [e1] at rs
      have hS := rs.nilSlice_inv
      split at hr
      · rename_i hn0
        simp only [Option.some.injEq, Prod.mk.injEq] at hr
        obtain ⟨rfl, rfl⟩ := hr
        refine hb (v' := .slice none 0 0) .nilSlice hR (Fr.refl _ _ _) fun ty => ?_
        rw [hS]
        have := Hin none 0 0 w (by omega) (fun A hA => by cases hA) (fun _ => rfl) ty
        rw [this, hn0]
      · rename_i hn0
        split at hr
        · rename_i hcond
          obtain ⟨hbig, hes0⟩ := hcond
          simp only [Option.some.injEq, Prod.mk.injEq] at hr
          obtain ⟨rfl, rfl⟩ := hr
          obtain ⟨c, R, hc, hRl, hrun⟩ := Hout none 0 0 [] (by omega) (by simpa using hbig) rfl
          obtain ⟨φ', h1, h2, h3⟩ := append_own (T := e) hR (old := []) (O := []) (R := R) (len := 0) (es := i.size) VRels.nil rL' (by simp) hnl hRl hc (by omega)
          rw [← hS] at hrun
          simp only [Nat.zero_add, List.nil_append] at h1 h2 h3 hrun
          exact hb h1 h2 h3 hrun
        · cases hr
    · rename_i b o len cap es ex e1
      rw [e1] at rs
      have rv := rs
      obtain ⟨A, cap', hX, hc1, hl1, hex, hcap⟩ := rs.slice_inv
      split at hr
      · rename_i hn0
        simp only [Option.some.injEq, Prod.mk.injEq] at hr
        obtain ⟨rfl, rfl⟩ := hr
        refine hb rv hR (Fr.refl _ _ _) fun ty => ?_
        rw [hX]
        have hL0 : L = [] := List.length_eq_zero_iff.1 (by rw [← rL.length, hnl, hn0, Nat.zero_mul])
        subst hL0
        have := Hin (some A) len cap' w (by omega) (fun A hA => rfl) (fun h => by cases h) ty
        rw [this, hn0, Nat.add_zero]
      · rename_i hn0
        split at hr
        · cases hr
        · rename_i hcond
          simp only [not_or, Nat.not_lt, ne_eq, Decidable.not_not] at hcond
          obtain ⟨hbig, hes0, hes⟩ := hcond
          subst hes
          split at hr
          · rename_i hin
            obtain ⟨h2, hw, hh⟩ := Option.map_eq_some_iff.1 hr
            simp only [Prod.mk.injEq] at hh
            obtain ⟨rfl, rfl⟩ := hh
            obtain ⟨e', he', hA, hN⟩ := hcap (by omega)
            obtain ⟨w', hrun, hR', hF⟩ := write_run (P := P) hR he' rL hw
            refine hb (v' := .slice (some A) (len + n) cap') ?_ hR' hF fun ty => ?_
            · rw [hA]
              exact .slice b o (len + n) cap i.size ex e' cap' he' (by omega) (by omega) hc1 hex hN
            · rw [hX]
              refine Hin _ _ _ _ (by omega) (fun A' hA' => ?_) (fun h => by cases h) ty
              simp only [Option.some.injEq] at hA'; subst hA'
              rw [hA, addr_add, Nat.add_assoc]; exact hrun
          · rename_i hout
            split at hr
            · rename_i hext
              have hcc := hex hext
              subst hcc
              obtain ⟨old, hold, hr⟩ := Option.bind_eq_some_iff.1 hr
              split at hr
              · simp only [Option.some.injEq, Prod.mk.injEq, appL_eq] at hr
                obtain ⟨rfl, rfl⟩ := hr
                have hO : ∃ O, (Builtin.firstCells i.size len (.slice (some A) len cap')).run P { w with drawn := w.drawn + 1 } = .ok O.toArray { w with drawn := w.drawn + 1 } ∧ VRels φ old O ∧ old.length = len * i.size := by
                  split at hold
                  · rename_i hl0
                    simp only [Option.some.injEq] at hold
                    subst hold; subst hl0
                    exact ⟨[], firstCells_nil (.inl ⟨_, _, _, rfl⟩), .nil, by simp⟩
                  · rename_i hl0
                    split at hold
                    · rename_i cs hrow
                      split at hold
                      · rename_i hle
                        simp only [Option.some.injEq, takeL_eq, dropL_eq] at hold
                        subst hold
                        rw [lenL_eq] at hle
                        obtain ⟨m, l, hbl⟩ := rowOf_some hrow
                        obtain ⟨e', he', hA, hN⟩ := hcap (by omega)
                        obtain ⟨O, hOl, hload, hrel, _⟩ := stretch (P := P) (hR.drew (w.drawn + 1)) he' hbl hle
                        exact ⟨O, by simp only [Builtin.firstCells, hA]; exact hload, hrel, by simp; omega⟩
                      · cases hold
                    · cases hold
                obtain ⟨O, hO, rO, hol⟩ := hO
                obtain ⟨c, R, hc, hRl, hrun⟩ := Hout _ _ _ _ (by omega) (by omega) hO
                obtain ⟨φ', h1, h2, h3⟩ := append_own (T := e) hR (R := R) rO rL' hol hnl hRl hc (by omega)
                rw [← hX] at hrun
                exact hb h1 h2 h3 hrun
              · cases hr
            · rename_i hext
              split at hr
              · rename_i cs m l hbl
                split at hr
                · rename_i hcond
                  obtain ⟨hend, hcap0, hm, hall2⟩ := hcond
                  simp only [Option.some.injEq, Prod.mk.injEq, appL_eq, dropL_eq] at hr
                  obtain ⟨rfl, rfl⟩ := hr
                  rw [lenL_eq] at hend
                  obtain ⟨e', he', hA, hN⟩ := hcap hcap0
                  have hmr : m ≠ .ro := by rcases hm with rfl | rfl <;> decide
                  obtain ⟨C, Ty, fr, hC, hsz, hle, hok, hfr⟩ := hR.blk b e' _ he' hbl
                  have hLl : L.length = n * i.size := by rw [← rL.length, hnl]
                  by_cases hin : len + n ≤ cap'
                  · -- in its own memory
                    have hmul : (len + n) * i.size ≤ cap' * i.size := Nat.mul_le_mul_right _ hin
                    have hadd : (len + n) * i.size = len * i.size + n * i.size := Nat.add_mul _ _ _
                    have hrun := storeCells_run (P := P) L 0 (e'.o + (o + len * i.size)) C w hC (hfr hmr) (by omega) (oneCells_rel rL hall)
                    have hle2 := hR.upd_le ⟨e'.B, e'.o + o, e'.N - o⟩
                    have ext := hR.extendIn (i := o) (new := new) (C' := putAt C (e'.o + (o + len * i.size) + 0) L) he' hbl hm hC (putAt_size _ _ _) hsz (by omega) (by omega) ?_ ?_
                    · obtain ⟨hR', hF⟩ := ext
                      refine hb (v' := .slice (some A) (len + n) cap') ?_ hR' hF fun ty => ?_
                      · rw [hA]
                        exact .slice h.n 0 (len + n) (len + n) i.size false ⟨e'.B, e'.o + o, e'.N - o⟩ cap' (Emb.upd_self _ _ _) (by omega) (Nat.le_refl _) hin (fun h => by cases h) (by simp only; omega)
                      · rw [hX]
                        refine Hin _ _ _ _ hin (fun A' hA' => ?_) (fun h => by cases h) ty
                        simp only [Option.some.injEq] at hA'; subst hA'
                        rw [hA, addr_add, Nat.add_assoc]; exact hrun
                    · intro k hk
                      rw [putAt_get _ _ _ _ (by omega), if_neg (by omega)]
                    · intro k u hk
                      rw [putAt_get _ _ _ _ (by omega)]
                      rw [List.getElem?_append] at hk
                      split at hk
                      · rename_i hkl
                        simp only [List.length_drop] at hkl
                        rw [if_neg (by omega)]
                        rw [List.getElem?_drop] at hk
                        obtain ⟨u', h1, h2⟩ := hok _ _ hk
                        exact ⟨u', by rw [Nat.add_assoc]; exact h1, h2.mono hle2⟩
                      · rename_i hkl
                        simp only [List.length_drop] at hkl hk
                        obtain ⟨u', h1, h2⟩ := (rL.mono hle2).get _ _ hk
                        have := (List.getElem?_eq_some_iff.1 hk).1
                        refine ⟨u', ?_, h2⟩
                        rw [if_pos (by omega), ← h1]
                        congr 1; omega
                  · -- in new memory
                    obtain ⟨O, hOl, hload, rO, _⟩ := stretch (P := P) (hR.drew (w.drawn + 1)) he' hbl (i := o) (n := len * i.size) (by omega)
                    have hO : (Builtin.firstCells i.size len (.slice (some A) len cap')).run P { w with drawn := w.drawn + 1 } = .ok O.toArray { w with drawn := w.drawn + 1 } := by
                      simp only [Builtin.firstCells, hA]; exact hload
                    have ed : (cs.drop o).take (len * i.size) = cs.drop o := List.take_of_length_le (by simp; omega)
                    rw [ed] at rO
                    obtain ⟨c, R, hc, hRl, hrun⟩ := Hout _ _ _ _ (by omega) (by omega) hO
                    have hLl' : L'.length = n * i.size := by rw [← rL'.length, hnl]
                    have rel := rO.append rL'
                    have hsC : (O ++ L' ++ R).toArray.size = c * i.size := by
                      have e3 : c * i.size = (len + n) * i.size + (c - (len + n)) * i.size := by rw [← Nat.add_mul]; congr 1; omega
                      have e4 : (len + n) * i.size = len * i.size + n * i.size := Nat.add_mul _ _ _
                      simp only [List.size_toArray, List.length_append]
                      omega
                    have hw : (({ w with drawn := w.drawn + 1 } : World).alloc (.cells (O ++ L' ++ R).toArray e)).heap = w.heap.push (.cells (O ++ L' ++ R).toArray e) := rfl
                    obtain ⟨hR', hF⟩ := hR.extendOut (cs2 := cs.drop o ++ new) he' hbl hm hw rfl rfl rfl (by
                      have := rel.length
                      simp only [List.size_toArray, List.length_append] at this ⊢
                      omega) (by
                      intro k u hk
                      obtain ⟨u', h1, h2⟩ := (rel.mono (hR.upd_le _)).get k u hk
                      have := (List.getElem?_eq_some_iff.1 h1).1
                      refine ⟨u', ?_, h2⟩
                      rw [Nat.zero_add, List.getElem?_toArray, List.getElem?_append_left this]
                      exact h1)
                    rw [← hX] at hrun
                    exact hb (sliceRel (Emb.upd_self _ _ _) (Nat.le_refl _) hc (fun e => by cases e) (by omega)) hR' hF hrun
                · cases hr
              · cases hr
    · cases hr


theorem append_ok (ht : TRel φ t a.tmps) (hR : Rel φ h w) {ats : Array TypeId} {e : TypeId} {i : TypeInfo} (T : AppTypes P ats e i) {s x : Operand} {s' x' : Arg} {v : AVal} (hs : compArg s = some s') (hx : compArg x = some x')
    (hr : a_append t h i.size i.bytes s' x' = some (v, h')) : OpOk P φ a h w (.call { callee := .builtin .append, argTypes := ats, args := #[s, x] }) v h' := by
  have rx := compArg_rel ht hx
  unfold a_append appendA at hr
  split at hr
  · cases hr
  · rename_i n new hsrc
    obtain ⟨hnl, hlenOf, hshape, hcells⟩ := src_run (P := P) hR rx hsrc
    obtain ⟨_, _, _, hcells'⟩ := src_run (P := P) (hR.drew (w.drawn + 1)) rx hsrc
    obtain ⟨L, hL, rL⟩ := hcells n (Nat.le_refl _)
    obtain ⟨L', hL', rL'⟩ := hcells' n (Nat.le_refl _)
    rw [← hnl, List.take_length] at rL rL'
    exact append_core ht hR (e := e) hs hnl rL rL' (fun base sLen sCap w' h1 h2 h3 ty => append_in T hlenOf h1 hL h2 h3 ty) (fun base sLen sCap O h1 h2 h3 => append_out T hlenOf h1 h2 h3 hL') hr

theorem appendZ_ok (ht : TRel φ t a.tmps) (hR : Rel φ h w) {ats : Array TypeId} {e : TypeId} {i : TypeInfo} (T : ZTypes P ats e i) {z : List AVal} (hz : tZero P e = some z) (h0 : 0 < z.length) (hzl : z.length = i.size) {s x : Operand} {s' x' : Arg} {v : AVal} (hs : compArg s = some s') (hx : compArg x = some x')
    (hr : a_appendZ t h i.size i.bytes z s' x' = some (v, h')) : OpOk P φ a h w (.call { callee := .builtin .append, argTypes := ats, args := #[s, x] }) v h' := by
  have rx := compArg_rel ht hx
  unfold a_appendZ appendZA at hr
  split at hr
  · rename_i k n e1
    rw [e1] at rx
    have hX := rx.int_inv
    split at hr
    · rename_i hnb
      obtain ⟨zv, hz', rz⟩ := runZero (φ := φ) hz
      obtain ⟨zv2, hzv, hzs⟩ := Option.map_eq_some_iff.1 T.zero
      have : zv2 = zv := by
        have h1 := hz' default
        simp only [zeroValue, Sem.run_bind, runI T.info, Result.andThen_ok, hzv, Sem.run_pure, Result.ok.injEq] at h1
        exact h1.1
      subst this
      have hl : z.length = zv2.cells.size := by rw [rz.length, Array.length_toList]
      have rZ : VRels φ (repCells z n) (Builtin.zeroCells zv2.cells n).toList := by
        unfold Builtin.zeroCells
        have := zeros_rel rz n h0
        rw [hl] at this; exact this
      refine append_core ht hR (e := e) (L := (Builtin.zeroCells zv2.cells n).toList) hs (by rw [repCells_length, hzl]) rZ rZ (fun base sLen sCap w' h1 h2 h3 ty => ?_) (fun base sLen sCap O h1 h2 h3 => ?_) hr
      · rw [hX]; exact appendZ_in T hzv hnb h1 h2 h3 ty
      · rw [hX]; exact appendZ_out T hzv hnb h1 h2 h3
    · cases hr
  · cases hr

theorem two_args' {args : Array Operand} {x y : Operand} (h : args.toList = [x, y]) : args = #[x, y] := Array.ext' (by simpa using h)

/-- Every act that is no call. -/
theorem act_sound (ht : TRel φ t a.tmps) (hR : Rel φ h w) {call : Nat → List AVal → Heap → Option (AVal × Heap)} {op : Op} {x : XAct} {v : AVal} (hc : compOp P op = some (.act x)) (hn : ∀ f l, x ≠ .call f l) (hr : runAct call t h x = some (v, h')) : OpOk P φ a h w op v h' := by
  cases op
  case store ty y z =>
    simp only [compOp] at hc
    split at hc
    · rename_i n y' z' h1 h2 h3
      simp only [Option.some.injEq, XOp.act.injEq] at hc; subst hc
      exact store_ok ht hR h1 h2 h3 hr
    · cases hc
  case mapUpdate ty m k y =>
    simp only [compOp] at hc
    split at hc
    · rename_i h1 h2 h3 h4
      obtain ⟨s, hs, he⟩ := Option.map_eq_some_iff.1 hc
      simp only [XOp.act.injEq] at he; subst he
      exact (mapUpdate_ok ht hR h1 hs h2 h3 h4 hr).1
    · cases hc
  case insert ty m k y =>
    simp only [compOp] at hc
    split at hc
    · rename_i h1 h2 h3 h4
      obtain ⟨s, hs, he⟩ := Option.map_eq_some_iff.1 hc
      simp only [XOp.act.injEq] at he; subst he
      exact (mapUpdate_ok ht hR h1 hs h2 h3 h4 hr).2
    · cases hc
  case convert src dst y =>
    simp only [compOp] at hc
    split at hc
    · simp at hc
    · simp at hc
    · split at hc <;> simp at hc
    · rename_i hs hd hx
      split at hc
      · rename_i hu
        simp only [Option.some.injEq, XOp.act.injEq] at hc; subst hc
        exact strBytes_ok ht hR hs hd hu hx hr
      · cases hc
    · rename_i hs hd hx
      split at hc
      · rename_i he hu
        simp only [Option.some.injEq, XOp.act.injEq] at hc; subst hc
        exact mark_ok ht hR hs hd he hu hx hr
      · cases hc
    · cases hc
  case next y s =>
    cases s with
    | true =>
      simp only [compOp] at hc
      obtain ⟨y', hy, he⟩ := Option.map_eq_some_iff.1 hc
      simp only [XOp.act.injEq] at he; subst he
      exact next_ok ht hR hy hr
    | false => simp [compOp] at hc
  case call c =>
    obtain ⟨callee, args, ats⟩ := c
    simp only [compOp] at hc
    cases callee
    case builtin b =>
      simp only [compBuiltin] at hc
      split at hc
      · split at hc <;> simp at hc
      · split at hc <;> simp at hc
      · rename_i s y hargs
        split at hc
        · rename_i h1 h2 h3 h4
          rw [two_args' hargs]
          obtain ⟨i', hi, hz, hbt, hcase⟩ := compAppend_some P hc
          obtain ⟨u, hu, hu1⟩ := Option.bind_eq_some_iff.1 h1
          obtain ⟨u2, hu2, hu3⟩ := Option.bind_eq_some_iff.1 h2
          rcases hcase with ⟨k, z, rfl, hzz, hz0, hzl, hxx⟩ | ⟨hd, hxx⟩
          · simp only [XOp.act.injEq] at hxx; subst hxx
            exact appendZ_ok ht hR ⟨⟨u, hu, hu1⟩, ⟨u2, k, hu2, hu3⟩, hi, hbt, hz⟩ hzz hz0 hzl h3 h4 hr
          · simp only [XOp.act.injEq] at hxx; subst hxx
            exact append_ok ht hR ⟨⟨u, hu, hu1⟩, ⟨u2, _, hu2, hu3, hd⟩, hi, hbt, hz⟩ h3 h4 hr
        · cases hc
      · rename_i d s hargs
        split at hc
        · rename_i h1 h2 h3
          obtain ⟨n, hsz, he⟩ := Option.map_eq_some_iff.1 hc
          simp only [XOp.act.injEq] at he; subst he
          rw [two_args' hargs]
          exact copy_ok ht hR h1 hsz h2 h3 hr
        · cases hc
      · rename_i y hargs
        split at hc
        · rename_i h1 h2
          obtain ⟨z, hz, he⟩ := Option.map_eq_some_iff.1 hc
          simp only [XOp.act.injEq] at he; subst he
          rw [one_arg' hargs]
          exact clear_ok ht hR h1 hz h2 hr
        · cases hc
      · rename_i m k hargs
        split at hc
        · rename_i h1 h2 h3
          obtain ⟨s, hs, he⟩ := Option.map_eq_some_iff.1 hc
          simp only [XOp.act.injEq] at he; subst he
          rw [two_args' hargs]
          exact delete_ok ht hR h1 hs h2 h3 hr
        · cases hc
      · simp at hc
      · simp at hc
      · cases hc
    case value f =>
      simp only at hc
      split at hc
      · simp only [Option.some.injEq, XOp.act.injEq] at hc; exact absurd hc.symm (hn _ _)
      · cases hc
    case invoke => simp at hc
  case alloc e =>
    simp only [compOp] at hc
    obtain ⟨z, hz, he⟩ := Option.bind_eq_some_iff.1 hc
    split at he <;> simp at he
  case makeMap ty rs => cases rs <;> simp [compOp] at hc
  all_goals (first | (simp [compOp] at hc; done) | (simp only [compOp] at hc; split at hc <;> first | (simp at hc; done) | (split at hc <;> first | (simp at hc; done) | (split at hc <;> simp at hc))))
end
end Go.Ax
