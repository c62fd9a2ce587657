/- Operations that look at their operands alone, the rest; the theorem on all of them. -/
import Derived.Test.YtlfmiplojpcklaaAxPure
set_option linter.unusedSimpArgs false
set_option linter.unusedVariables false
namespace Go.Ax
variable {P : Program} {φ : Emb} {t : Tmps} {a : Act}

theorem bin_sound (ht : TRel φ t a.tmps) {op : BinOp} {ty ty2 : TypeId} {x y : Operand} {x' y' : Arg} {v : AVal} (hx : compArg x = some x') (hy : compArg y = some y') (hr : runPure t (.bin op x' y') = some v) : PureOk P φ a (.binOp op ty x y ty2) v := by
  simp only [runPure, p_bin] at hr
  obtain ⟨v', hv, hg⟩ := binA_sound (P := P) hr (compArg_rel ht hx) (compArg_rel ht hy)
  exact pureOk_of hv (hg ty x y) fun _ _ _ _ _ => rfl

theorem eqNil_ok (ht : TRel φ t a.tmps) {ne : Bool} {kd : Nat} {d : TypeDesc} {ty ty2 : TypeId} {x y : Operand} {x' y' : Arg} {v : AVal} (hx : compArg x = some x') (hy : compArg y = some y') (hu : P.underlying ty = some d) (hk : kindOk kd d)
    (hr : runPure t (.eqNil kd ne x' y') = some v) : PureOk P φ a (.binOp (if ne then .neq else .eql) ty x y ty2) v := by
  simp only [runPure, p_eqNil] at hr
  obtain ⟨r, hr2, rfl⟩ := Option.map_eq_some_iff.1 hr
  obtain ⟨h1, h2, h3, h4⟩ := eqNil_sound hu hk hr2 (compArg_rel ht hx) (compArg_rel ht hy)
  refine pureOk_of (.bool _) (fun w => ?_) fun _ _ _ _ _ => rfl
  rw [Sem.run_bind, eqGuard_none _ _ _ _ _ _ h2 h3]
  cases ne with
  | false =>
    show (binOp .eql _ _ _).run P w = _
    rw [(h4 .eql w).1 rfl, Sem.run_bind, h1]; rfl
  | true =>
    show (binOp .neq _ _ _).run P w = _
    rw [(h4 .neq w).2 rfl, Sem.run_bind, h1]; rfl

theorem eqGuardType_plain {ty : TypeId} {fs : Array Field} (hu : P.underlying ty = some (.struct fs)) : ∀ (L : List Field) (i : Nat) {ks : List Nat}, fieldKinds P i L = some ks → ∀ d, (L.any fun f => f.name != "_" && P.eqGuardType (d + 1) f.type) = false := by
  intro L
  induction L with
  | nil => intros; rfl
  | cons f L ih =>
    intro i ks hk d
    simp only [fieldKinds] at hk
    split at hk
    · rename_i k l hkd hsz hl
      have e : P.eqGuardType (d + 1) f.type = false := by
        unfold tKind at hkd
        simp only [Program.eqGuardType]
        split at hkd <;> first | (rename_i hu2; rw [hu2]) | cases hkd
      simp [e, ih (i + 1) hl d]
    · cases hk

theorem eqCells_ok (ht : TRel φ t a.tmps) {ne : Bool} {ks : List Nat} {ty ty2 : TypeId} {x y : Operand} {x' y' : Arg} {v : AVal} (hx : compArg x = some x') (hy : compArg y = some y') (hp : tPlain P ty = some ks)
    (hr : runPure t (.eqCells ks ne x' y') = some v) : PureOk P φ a (.binOp (if ne then .neq else .eql) ty x y ty2) v := by
  have rx := compArg_rel ht hx
  have ry := compArg_rel ht hy
  simp only [runPure, p_eqCells] at hr
  split at hr
  · rename_i A B hA hB
    rw [hA] at rx; rw [hB] at ry
    obtain ⟨X, hX, rX⟩ := rx.agg_inv
    obtain ⟨Y, hY, rY⟩ := ry.agg_inv
    obtain ⟨r, hr2, rfl⟩ := Option.map_eq_some_iff.1 hr
    unfold tPlain at hp
    split at hp
    · rename_i fs hu
      split at hp
      · cases hp
      · rename_i hs
        have hs : P.stoodInHeld ty = false := by simpa using hs
        have hg : ∀ op w, (eqGuard op ty x y (.agg X) (.agg Y)).run P w = .ok () w := by
          intro op w
          have hd : ∃ n, P.depth = n + 2 := ⟨2 * (P.types.size + Made.depth), rfl⟩
          obtain ⟨n, hn⟩ := hd
          have hq : P.eqGuardType P.depth ty = false := by
            rw [hn]
            simp only [Program.eqGuardType, hu]
            rw [← Array.any_toList]
            exact eqGuardType_plain hu fs.toList 0 hp n
          unfold eqGuard
          cases op <;> first
            | rfl
            | (simp only [Bool.not_true, Bool.false_eq_true, if_false, Sem.run_bind, run_program, Result.andThen_ok, hq, Bool.not_false, if_true]; rfl)
        have heq : ∀ w, (Op.equal ty (.agg X) (.agg Y)).run P w = .ok r w := by
          intro w
          have hl := cells_loop (P := P) (d := 9998) (xs := X) (ys := Y) fs.toList 0 hp hr2 (by simpa using rX) (by simpa using rY) w
          rw [equal_succ, show (9999 + 1 : Nat) = 9999 + 1 from rfl]
          unfold Op.equalIn
          simp only [Sem.run_bind, runU hu, Result.andThen_ok, run_program, hs, Bool.false_eq_true, if_false]
          rw [← Array.forIn_toList]
          rw [show (9999 : Nat) = 9998 + 1 from rfl, hl]
          cases r <;> rfl
        refine pureOk_of (.bool _) (fun w => ?_) fun _ _ _ _ _ => rfl
        rw [hX, hY, Sem.run_bind, hg]
        cases ne with
        | false =>
          show (do pure (Value.bool (← Op.equal ty (.agg X) (.agg Y))) : Sem Value).run P w = _
          rw [Sem.run_bind, heq]; rfl
        | true =>
          show (do pure (Value.bool (!(← Op.equal ty (.agg X) (.agg Y)))) : Sem Value).run P w = _
          rw [Sem.run_bind, heq]; rfl
    · cases hp
  · cases hr

theorem un_ok (ht : TRel φ t a.tmps) {op : UnOp} {ty : TypeId} {x : Operand} {x' : Arg} {v : AVal} (hx : compArg x = some x') (hr : runPure t (.un op x') = some v) : PureOk P φ a (.unOp op ty x) v := by
  simp only [runPure, p_un] at hr
  obtain ⟨v', hv, hg⟩ := unA_sound (P := P) hr (compArg_rel ht hx)
  exact pureOk_of hv hg fun _ _ _ _ _ => rfl

theorem conv_ok (ht : TRel φ t a.tmps) {k : IntKind} {d : TypeDesc} {src dst : TypeId} {x : Operand} {x' : Arg} {v : AVal} (hx : compArg x = some x') (hs : P.underlying src = some d) (hd : P.underlying dst = some (.int k)) (hr : runPure t (.conv k x') = some v) : PureOk P φ a (.convert src dst x) v := by
  have rx := compArg_rel ht hx
  simp only [runPure, p_conv] at hr
  split at hr
  · rename_i e
    rw [e] at rx
    simp only [Option.some.injEq, wrapA_eq] at hr; subst hr
    refine pureOk_of (.int _ _) (fun w => ?_) fun _ _ _ _ _ => rfl
    rw [rx.int_inv]
    simp only [convert, Sem.run_bind, runU hs, runU hd, Result.andThen_ok]
    rfl
  · cases hr

theorem str_ok (ht : TRel φ t a.tmps) {src dst : TypeId} {x : Operand} {x' : Arg} {v : AVal} (hx : compArg x = some x') (hs : P.underlying src = some .string) (hd : P.underlying dst = some .string) (hr : runPure t (.str x') = some v) : PureOk P φ a (.convert src dst x) v := by
  have rx := compArg_rel ht hx
  simp only [runPure, p_str] at hr
  split at hr
  · rename_i e
    rw [e] at rx
    simp only [Option.some.injEq] at hr; subst hr
    refine pureOk_of (.str _) (fun w => ?_) fun _ _ _ _ _ => rfl
    rw [rx.str_inv]
    simp only [convert, Sem.run_bind, runU hs, runU hd, Result.andThen_ok]
    rfl
  · cases hr

theorem field_ok (ht : TRel φ t a.tmps) {ty : TypeId} {fs : Array Field} {f : Nat} {fd : Field} {n : Option Nat} {x : Operand} {x' : Arg} {v : AVal} (hx : compArg x = some x') (hu : P.underlying ty = some (.struct fs)) (hf : fs[f]? = some fd) (hn : tPart P fd.type = some n)
    (hr : runPure t (.field fd.offset n x') = some v) : PureOk P φ a (.field ty x f) v := by
  have rx := compArg_rel ht hx
  simp only [runPure, p_field] at hr
  split at hr
  · rename_i cs e
    rw [e] at rx
    obtain ⟨X, hX, rX⟩ := rx.agg_inv
    obtain ⟨v', hg, hv⟩ := cellsAt_rel (P := P) rX hn hr
    refine pureOk_of hv (fun w => ?_) fun _ _ _ _ _ => rfl
    rw [hX]
    simp only [Instr.field, Sem.run_bind, runU hu, Result.andThen_ok, hf, asAgg, Sem.run_pure]
    exact hg w
  · cases hr

theorem extract_ok (ht : TRel φ t a.tmps) {i : Nat} {x : Operand} {x' : Arg} {v : AVal} (hx : compArg x = some x') (hr : runPure t (.extract i x') = some v) : PureOk P φ a (.extract x i) v := by
  have rx := compArg_rel ht hx
  simp only [runPure, p_extract] at hr
  split at hr
  · rename_i vs e
    rw [e] at rx
    obtain ⟨X, hX, rX⟩ := rx.tup_inv
    rw [nth_eq] at hr
    obtain ⟨v', hv', hv⟩ := rX.get i v hr
    refine pureOk_of hv (fun w => ?_) fun _ _ _ _ _ => rfl
    have e2 : X[i]? = some v' := by rw [← Array.getElem?_toList]; exact hv'
    rw [hX]
    simp only [Instr.extract, e2]; rfl
  · cases hr

theorem fieldAddr_ok (ht : TRel φ t a.tmps) {ty : TypeId} {fs : Array Field} {f : Nat} {fd : Field} {n : Nat} {x : Operand} {x' : Arg} {v : AVal} (hx : compArg x = some x') (hu : P.underlying ty = some (.struct fs)) (hf : fs[f]? = some fd) (hn : tSize P fd.type = some n) (h0 : n ≠ 0)
    (hr : runPure t (.fieldAddr fd.offset x') = some v) : PureOk P φ a (.fieldAddr ty x f) v := by
  have rx := compArg_rel ht hx
  simp only [runPure, p_fieldAddr] at hr
  split at hr
  · rename_i b i e
    rw [e] at rx
    simp only [Option.some.injEq] at hr; subst hr
    obtain ⟨e, he, hX⟩ := rx.ptr_inv
    refine pureOk_of (.ptr b (i + fd.offset) e he) (fun w => ?_) fun _ _ _ _ _ => rfl
    rw [hX]
    simp only [Instr.fieldAt, Sem.run_bind, runU hu, Result.andThen_ok, hf, Instr.sureAddr, Sem.run_pure, fieldPlace, runZ hn, if_neg h0, add_addr]
  · cases hr

theorem indexAddr_ok (ht : TRel φ t a.tmps) {ty e : TypeId} {n : Nat} {x i : Operand} {x' i' : Arg} {v : AVal} (hx : compArg x = some x') (hi : compArg i = some i') (hu : P.underlying ty = some (.slice e)) (hn : tSize P e = some n)
    (hr : runPure t (.indexAddr n x' i') = some v) : PureOk P φ a (.indexAddr ty x i) v := by
  have rx := compArg_rel ht hx
  have ri := compArg_rel ht hi
  simp only [runPure, p_indexAddr] at hr
  split at hr
  · rename_i b o len cap es ex k m ex1 ei
    rw [ex1] at rx; rw [ei] at ri
    split at hr
    · rename_i j hj
      split at hr
      · rename_i hc
        simp only [Bool.and_eq_true] at hc
        obtain ⟨hc, hes⟩ := hc
        simp only [Option.some.injEq] at hr; subst hr
        obtain ⟨rfl, hlt⟩ := idx_some hj
        obtain ⟨A, cap', hX, _, _, _, hin⟩ := rx.slice_inv
        obtain ⟨E, hE, rfl, _⟩ := hin (Nat.le_of_ble_eq_true hc)
        refine pureOk_of (.ptr b (o + j * n) E hE) (fun w => ?_) fun _ _ _ _ _ => rfl
        rw [hX, ri.int_inv]
        have : (0 : Int) ≤ j ∧ (j : Int) < len := ⟨by omega, by omega⟩
        simp only [Instr.indexAt, asIntOf, Sem.run_bind, Sem.run_pure, runU hu, Result.andThen_ok, if_pos this, runZ hn, Int.toNat_natCast, add_addr]
      · cases hr
    · cases hr
  · cases hr

theorem indexAddrArr_ok (ht : TRel φ t a.tmps) {ty e : TypeId} {n k : Nat} {x i : Operand} {x' i' : Arg} {v : AVal} (hx : compArg x = some x') (hi : compArg i = some i') (hu : P.underlying ty = some (.array k e)) (hn : tSize P e = some n)
    (hr : runPure t (.indexAddrArr k n x' i') = some v) : PureOk P φ a (.indexAddr ty x i) v := by
  have rx := compArg_rel ht hx
  have ri := compArg_rel ht hi
  simp only [runPure, p_indexAddrArr] at hr
  split at hr
  · rename_i b o kk m ex1 ei
    rw [ex1] at rx; rw [ei] at ri
    split at hr
    · rename_i j hj
      simp only [Option.some.injEq] at hr; subst hr
      obtain ⟨rfl, hlt⟩ := idx_some hj
      obtain ⟨E, hE, hX⟩ := rx.ptr_inv
      refine pureOk_of (.ptr b (o + j * n) E hE) (fun w => ?_) fun _ _ _ _ _ => rfl
      rw [hX, ri.int_inv]
      have : (0 : Int) ≤ j ∧ (j : Int) < k := ⟨by omega, by omega⟩
      simp only [Instr.indexAt, asIntOf, Sem.run_bind, Sem.run_pure, runU hu, Result.andThen_ok, Instr.sureAddr, if_pos this, runZ hn, Int.toNat_natCast, add_addr]
    · cases hr
  · cases hr

theorem slice_ok (ht : TRel φ t a.tmps) {ty e : TypeId} {n : Nat} {x : Operand} {lo hi mx : Option Operand} {x' : Arg} {lo' hi' mx' : Option Arg} {v : AVal} (hx : compArg x = some x') (hl : compOpt lo = some lo') (hh : compOpt hi = some hi') (hm : compOpt mx = some mx')
    (hu : P.underlying ty = some (.slice e)) (hn : tSize P e = some n) (hr : runPure t (.slice n x' lo' hi' mx') = some v) : PureOk P φ a (.slice ty x lo hi mx) v := by
  have rx := compArg_rel ht hx
  have rl := compOpt_rel ht hl
  have rh := compOpt_rel ht hh
  have rm := compOpt_rel ht hm
  simp only [runPure, p_slice] at hr
  have go : ∀ (A : Option Addr) (len cap' l h m' : Nat), (∀ w, (Instr.sliceBounds true len cap' (lo.map a.eval) (hi.map a.eval) (mx.map a.eval)).run P w = .ok (l, h, m') w) → a.eval x = .slice A len cap' →
      Gives P (Instr.sliceAt ty (a.eval x) (lo.map a.eval) (hi.map a.eval) (mx.map a.eval)) (.slice (if m' = l then A else A.map (·.add (l * n))) (h - l) (m' - l)) := by
    intro A len cap' l h m' hb hX w
    rw [hX]
    simp only [Instr.sliceAt, Sem.run_bind, runU hu, Result.andThen_ok, Instr.slice, hb, runZ hn, Sem.run_pure]
  split at hr
  · rename_i b o len cap es ex e1
    rw [e1] at rx
    obtain ⟨A, cap', hX, hc, hlc, hex, hin⟩ := rx.slice_inv
    split at hr
    · rename_i l h m hb
      split at hr
      case h_2 => cases hr
      rename_i hes
      obtain rfl : es = n := Nat.eq_of_beq_eq_true hes
      simp only [Option.some.injEq] at hr; subst hr
      obtain ⟨q1, q2, q3, q4, q5⟩ := bounds_sound (P := P) (isSlice := true) hb hlc hc rl rh rm
      refine pureOk_of (v' := .slice (if (if (Option.map (fun x => Arg.eval t x) mx').isSome then m else cap') = l then some A else (some A).map (·.add (l * es))) (h - l) ((if (Option.map (fun x => Arg.eval t x) mx').isSome then m else cap') - l)) ?_ (go _ _ _ _ _ _ q5 hX) fun _ _ _ _ _ => rfl
      generalize hm' : (if (Option.map (fun x => Arg.eval t x) mx').isSome then m else cap') = m'
      have hmm : m ≤ m' ∧ ((ex || mx'.isSome) = true → m' = m) ∧ (m' ≤ cap') := by
        subst hm'
        cases mx' with
        | none =>
          simp only [Option.map_none, Option.isSome_none, Bool.false_eq_true, if_false, Bool.or_false]
          have := q4 rfl
          exact ⟨by omega, fun h => by rw [hex h]; omega, Nat.le_refl _⟩
        | some z => simp only [Option.map_some, Option.isSome_some, if_true]; exact ⟨Nat.le_refl _, by simp, by omega⟩
      by_cases hz : m - l = 0
      · have hz2 : h - l = 0 := by omega
        rw [hz, hz2]
        by_cases hq : m' = l
        · rw [if_pos hq]; exact .sliceZ _ _ _ _ _ _ fun h => by omega
        · rw [if_neg hq]; exact .sliceZ _ _ _ _ _ _ fun h => by have := hmm.2.1 h; omega
      · obtain ⟨E, hE, rfl, hN⟩ := hin (by omega)
        rw [if_neg (show ¬ m' = l by omega)]
        simp only [Option.map_some, add_addr]
        refine .slice b (o + l * es) (h - l) (m - l) es _ E (m' - l) hE (by omega) (by omega) (by omega) (fun h => by have := hmm.2.1 h; omega) ?_
        have e1 : l * es + (m' - l) * es = m' * es := by rw [← Nat.add_mul]; congr 1; omega
        have e2 : m' * es ≤ cap' * es := Nat.mul_le_mul_right _ hmm.2.2
        omega
    · cases hr
  · rename_i e1
    rw [e1] at rx
    have hX := rx.nilSlice_inv
    split at hr
    · rename_i r hb
      simp only [Option.some.injEq] at hr; subst hr
      obtain ⟨l, h, m⟩ := r
      obtain ⟨q1, q2, q3, q4, q5⟩ := bounds_sound (P := P) (isSlice := true) hb (Nat.le_refl 0) (Nat.le_refl 0) rl rh rm
      have g := go none 0 0 l h _ q5 hX
      have e0 : m = 0 := by omega
      have e1 : h = 0 := by omega
      have e2 : l = 0 := by omega
      subst e0; subst e1; subst e2
      refine pureOk_of (v' := .slice none 0 0) .nilSlice (fun w => ?_) fun _ _ _ _ _ => rfl
      rw [g w]
      simp
    · cases hr
  · cases hr

theorem sliceStr_ok (ht : TRel φ t a.tmps) {ty : TypeId} {x : Operand} {lo hi : Option Operand} {x' : Arg} {lo' hi' : Option Arg} {v : AVal} (hx : compArg x = some x') (hl : compOpt lo = some lo') (hh : compOpt hi = some hi')
    (hu : P.underlying ty = some .string) (hr : runPure t (.sliceStr x' lo' hi') = some v) : PureOk P φ a (.slice ty x lo hi none) v := by
  have rx := compArg_rel ht hx
  have rl := compOpt_rel ht hl
  have rh := compOpt_rel ht hh
  simp only [runPure, p_sliceStr] at hr
  split at hr
  · rename_i s e1
    rw [e1] at rx
    have hX := rx.str_inv
    split at hr
    · rename_i l h m hb
      simp only [Option.some.injEq] at hr; subst hr
      obtain ⟨q1, q2, q3, q4, q5⟩ := bounds_sound (P := P) (isSlice := false) hb (Nat.le_refl _) (Nat.le_refl _) rl rh .none
      refine pureOk_of (.str _) (fun w => ?_) fun _ _ _ _ _ => rfl
      rw [hX]
      have := q5 w
      simp only [Option.isSome_none, Bool.false_eq_true, if_false] at this
      simp only [Instr.sliceAt, Sem.run_bind, runU hu, Result.andThen_ok, Instr.slice, Option.map_none, Option.isSome_none, Bool.false_eq_true, if_false, this, Sem.run_pure]
    · cases hr
  · cases hr

theorem mkIface_ok (ht : TRel φ t a.tmps) {ty : TypeId} {d : TypeDesc} {x : Operand} {x' : Arg} {v : AVal} (hx : compArg x = some x') (hu : P.underlying ty = some d) (hd : ∀ ms, d ≠ .interface ms) (hr : runPure t (.mkIface ty x') = some v) : PureOk P φ a (.makeInterface ty x) v := by
  have rx := compArg_rel ht hx
  simp only [runPure, p_mkIface, Option.some.injEq] at hr
  subst hr
  refine pureOk_of (.iface ty _ _ rx) (fun w => ?_) fun _ _ _ _ _ => rfl
  simp only [Instr.makeInterface, Sem.run_bind, runU hu, Result.andThen_ok]
  cases d <;> first | rfl | exact absurd rfl (hd _)

theorem mkFunc_ok (ht : TRel φ t a.tmps) {fn : Fn} {f c : Array Operand} {f' c' : List Arg} {v : AVal} (hf : compArgs f = some f') (hc : compArgs c = some c') (hr : runPure t (.mkFunc fn f' c') = some v) : PureOk P φ a (.makeFunc fn f c) v := by
  simp only [runPure, p_mkFunc, Option.some.injEq, mapL_eq] at hr
  subst hr
  exact pureOk_of (.func fn _ _ _ _ (compArgs_rel ht hf) (compArgs_rel ht hc)) (fun w => rfl) fun _ _ _ _ _ => rfl

theorem places_run : ∀ (L : List Field), (L.all fun f => (tSize P f.type).isSome) = true → ∀ w,
    ((L.mapM fun f => do pure (f.offset, ← sizeOf f.type)) : Sem (List (Nat × Nat))).run P w = .ok (L.map fun f => (f.offset, (tSize P f.type).getD 0)) w := by
  intro L
  induction L with
  | nil => intros; rfl
  | cons f L ih =>
    intro h w
    simp only [List.all_cons, Bool.and_eq_true] at h
    obtain ⟨n, hn⟩ := Option.isSome_iff_exists.1 h.1
    simp only [List.mapM_cons, Sem.run_bind, runZ hn, Result.andThen_ok, Sem.run_pure, ih h.2, List.map_cons, hn, Option.getD_some]
theorem places_get (fs : Array Field) (h : (fs.toList.all fun f => (tSize P f.type).isSome) = true) (i : Nat) : ((fs.toList.map fun f => (f.offset, (tSize P f.type).getD 0)).toArray)[i]? = structPlace P fs i := by
  simp only [structPlace, List.getElem?_toArray, List.getElem?_map, Array.getElem?_toList]
  cases hf : fs[i]? with
  | none => rfl
  | some f =>
    have hm : f ∈ fs.toList := by rw [← Array.getElem?_toList] at hf; exact List.mem_of_getElem? hf
    have := List.all_eq_true.1 h f hm
    obtain ⟨n, hn⟩ := Option.isSome_iff_exists.1 this
    simp [hn]
theorem build_struct_ok (ht : TRel φ t a.tmps) {ty : TypeId} {fs : Array Field} {ps : Array (Nat × Operand)} {z : List AVal} {l : List (Nat × Nat × Arg)} {v : AVal} (hu : P.underlying ty = some (.struct fs)) (hz : tZero P ty = some z)
    (hs : (fs.toList.all fun f => (tSize P f.type).isSome) = true) (hl : compParts (structPlace P fs) ps = some l) (hr : runPure t (.build z l) = some v) : PureOk P φ a (.build ty ps) v := by
  simp only [runPure, p_build, mapL_eq] at hr
  obtain ⟨out, ho, rfl⟩ := Option.map_eq_some_iff.1 hr
  obtain ⟨z', hz', rz⟩ := runZero (φ := φ) hz
  obtain ⟨out', hf, ro⟩ := fill_rel (structPlace P fs) ht ps.toList hl rz ho
  refine pureOk_of (.agg _ _ ro) (fun w => ?_) fun _ _ _ _ _ => rfl
  simp only [Instr.build, Sem.run_bind, hz', Result.andThen_ok, runU hu, Array.mapM_eq_mapM_toList, Sem.run_map, places_run _ hs]
  have e : (fun i => ((fs.toList.map fun f => (f.offset, (tSize P f.type).getD 0)).toArray)[i]?) = structPlace P fs := funext (places_get fs hs)
  rw [e, Array.toList_map, hf]
  rfl
theorem build_array_ok (ht : TRel φ t a.tmps) {ty e : TypeId} {k n : Nat} {ps : Array (Nat × Operand)} {z : List AVal} {l : List (Nat × Nat × Arg)} {v : AVal} (hu : P.underlying ty = some (.array k e)) (hz : tZero P ty = some z) (hn : tSize P e = some n)
    (hl : compParts (fun i => some (i * n, n)) ps = some l) (hr : runPure t (.build z l) = some v) : PureOk P φ a (.build ty ps) v := by
  simp only [runPure, p_build, mapL_eq] at hr
  obtain ⟨out, ho, rfl⟩ := Option.map_eq_some_iff.1 hr
  obtain ⟨z', hz', rz⟩ := runZero (φ := φ) hz
  obtain ⟨out', hf, ro⟩ := fill_rel (fun i => some (i * n, n)) ht ps.toList hl rz ho
  refine pureOk_of (.agg _ _ ro) (fun w => ?_) fun _ _ _ _ _ => rfl
  simp only [Instr.build, Sem.run_bind, hz', Result.andThen_ok, runU hu, runZ hn]
  rw [Array.toList_map, hf]
  rfl

theorem indexStr_ok (ht : TRel φ t a.tmps) {ty : TypeId} {x i : Operand} {x' i' : Arg} {v : AVal} (hx : compArg x = some x') (hi : compArg i = some i') (hu : P.underlying ty = some .string) (hr : runPure t (.indexStr x' i') = some v) : PureOk P φ a (.index ty x i) v := by
  have rx := compArg_rel ht hx
  have ri := compArg_rel ht hi
  simp only [runPure, p_indexStr] at hr
  split at hr
  · rename_i s k n e1 e2
    rw [e1] at rx; rw [e2] at ri
    split at hr
    · rename_i m
      split at hr
      · rename_i b hb
        simp only [Option.some.injEq] at hr; subst hr
        rw [nth_eq] at hb
        refine pureOk_of (.int _ _) (fun w => ?_) fun _ _ _ _ _ => rfl
        rw [rx.str_inv, ri.int_inv]
        have hlt : m < s.size := by
          have := (List.getElem?_eq_some_iff.1 hb).1
          simpa using this
        have e3 : s[m]? = some b := by
          rw [getElem?_pos s m hlt]
          have := (List.getElem?_eq_some_iff.1 hb).2
          rw [← this]; rfl
        have h0 : (0 : Int) ≤ (m : Int) := Int.natCast_nonneg m
        simp only [Int.ofNat_eq_natCast, Instr.index, asIntOf, Sem.run_bind, Sem.run_pure, runU hu, Result.andThen_ok, if_pos h0, Int.toNat_natCast, e3]
      · cases hr
    · cases hr
  · cases hr

theorem indexArr_ok (ht : TRel φ t a.tmps) {ty e : TypeId} {k n : Nat} {q : Option Nat} {x i : Operand} {x' i' : Arg} {v : AVal} (hx : compArg x = some x') (hi : compArg i = some i') (hu : P.underlying ty = some (.array k e)) (hn : tSize P e = some n) (hq : tPart P e = some q)
    (hr : runPure t (.indexArr k n q x' i') = some v) : PureOk P φ a (.index ty x i) v := by
  have rx := compArg_rel ht hx
  have ri := compArg_rel ht hi
  simp only [runPure, p_indexArr] at hr
  split at hr
  · rename_i cs kk m e1 e2
    rw [e1] at rx; rw [e2] at ri
    obtain ⟨X, hX, rX⟩ := rx.agg_inv
    split at hr
    · rename_i j hj
      obtain ⟨rfl, hlt⟩ := idx_some hj
      obtain ⟨v', hg, hv⟩ := cellsAt_rel (P := P) rX hq hr
      refine pureOk_of hv (fun w => ?_) fun _ _ _ _ _ => rfl
      rw [hX, ri.int_inv]
      have : (0 : Int) ≤ j ∧ (j : Int) < k := ⟨by omega, by omega⟩
      simp only [Instr.index, asIntOf, Sem.run_bind, Sem.run_pure, runU hu, Result.andThen_ok, if_pos this, runZ hn, Int.toNat_natCast]
      exact hg w
    · cases hr
  · cases hr

/-! ### Builtins -/
theorem builtin_ok {b : Builtin} {ats : Array TypeId} {args : Array Operand} {v : AVal} {v' : Value} (hv : VRel φ v v') (he : ∀ ty w, (builtin b ats ty (args.map fun | .const _ => true | _ => false) (args.map a.eval)).run P w = .ok (.value v') w) :
    PureOk P φ a (.call { callee := .builtin b, args := args, argTypes := ats }) v :=
  ⟨v', hv, fun dst ty pos after g w => by
    simp only [execOp, resolve, Sem.run_bind, Sem.run_pure, Result.andThen_ok, invoke]
    exact he ty w⟩

theorem one_arg {args : Array Operand} {x : Operand} (h : args.toList = [x]) : args = #[x] := Array.ext' (by simpa using h)
theorem two_args {args : Array Operand} {x y : Operand} (h : args.toList = [x, y]) : args = #[x, y] := Array.ext' (by simpa using h)

theorem len_ok (ht : TRel φ t a.tmps) {ats : Array TypeId} {e : TypeId} {x : Operand} {x' : Arg} {v : AVal} (hu : (ats[0]?).bind P.underlying = some (.slice e)) (hx : compArg x = some x') (hr : runPure t (.len x') = some v) :
    PureOk P φ a (.call { callee := .builtin .len, args := #[x], argTypes := ats }) v := by
  have rx := compArg_rel ht hx
  obtain ⟨ty, h0, hu⟩ := Option.bind_eq_some_iff.1 hu
  simp only [runPure, p_len] at hr
  split at hr
  · rename_i b i len cap es ex e
    rw [e] at rx
    simp only [Option.some.injEq] at hr; subst hr
    obtain ⟨A, cap', hX, _⟩ := rx.slice_inv
    exact builtin_ok (.int _ _) fun ty2 w => by simp [builtin, Builtin.len_, h0, runU hu, hX, goInt]
  · rename_i e
    rw [e] at rx
    simp only [Option.some.injEq] at hr; subst hr
    exact builtin_ok (.int _ _) fun ty2 w => by simp [builtin, Builtin.len_, h0, runU hu, rx.nilSlice_inv, goInt]
  · cases hr
theorem lenStr_ok (ht : TRel φ t a.tmps) {ats : Array TypeId} {x : Operand} {x' : Arg} {v : AVal} (hu : (ats[0]?).bind P.underlying = some .string) (hx : compArg x = some x') (hr : runPure t (.lenStr x') = some v) :
    PureOk P φ a (.call { callee := .builtin .len, args := #[x], argTypes := ats }) v := by
  have rx := compArg_rel ht hx
  obtain ⟨ty, h0, hu⟩ := Option.bind_eq_some_iff.1 hu
  simp only [runPure, p_lenStr] at hr
  split at hr
  · rename_i s e
    rw [e] at rx
    simp only [Option.some.injEq] at hr; subst hr
    exact builtin_ok (.int _ _) fun ty2 w => by simp [builtin, Builtin.len_, h0, runU hu, rx.str_inv, goInt]
  · cases hr
theorem lenArr_ok {ats : Array TypeId} {n : Nat} {e : TypeId} {x : Operand} {v : AVal} (hu : (ats[0]?).bind P.underlying = some (.array n e)) (hr : runPure t (.lenArr n) = some v) :
    PureOk P φ a (.call { callee := .builtin .len, args := #[x], argTypes := ats }) v := by
  obtain ⟨ty, h0, hu⟩ := Option.bind_eq_some_iff.1 hu
  simp only [runPure, p_lenArr, Option.some.injEq] at hr; subst hr
  exact builtin_ok (.int _ _) fun ty2 w => by simp [builtin, Builtin.len_, h0, runU hu, goInt]
theorem cap_ok (ht : TRel φ t a.tmps) {ats : Array TypeId} {e : TypeId} {x : Operand} {x' : Arg} {v : AVal} (hu : (ats[0]?).bind P.underlying = some (.slice e)) (hx : compArg x = some x') (hr : runPure t (.cap x') = some v) :
    PureOk P φ a (.call { callee := .builtin .cap, args := #[x], argTypes := ats }) v := by
  have rx := compArg_rel ht hx
  obtain ⟨ty, h0, hu⟩ := Option.bind_eq_some_iff.1 hu
  simp only [runPure, p_cap] at hr
  split at hr
  · rename_i b i len cap es e
    rw [e] at rx
    simp only [Option.some.injEq] at hr; subst hr
    obtain ⟨A, cap', hX, _, _, hc, _⟩ := rx.slice_inv
    obtain rfl := hc rfl
    exact builtin_ok (.int _ _) fun ty2 w => by simp [builtin, Builtin.cap_, h0, runU hu, hX, goInt]
  · rename_i e
    rw [e] at rx
    simp only [Option.some.injEq] at hr; subst hr
    exact builtin_ok (.int _ _) fun ty2 w => by simp [builtin, Builtin.cap_, h0, runU hu, rx.nilSlice_inv, goInt]
  · cases hr
theorem maxs_ok (ht : TRel φ t a.tmps) {ats : Array TypeId} {args : Array Operand} {l : List Arg} {v : AVal} (hx : compArgs args = some l) (hr : runPure t (.maxs l) = some v) :
    PureOk P φ a (.call { callee := .builtin .max, args := args, argTypes := ats }) v := by
  have rx := compArgs_rel ht hx
  simp only [runPure, p_maxs, mapL_eq] at hr
  split at hr
  · rename_i x r e
    rw [e] at rx
    cases hl : (args.map a.eval).toList with
    | nil => rw [hl] at rx; cases rx
    | cons x' r' =>
      rw [hl] at rx
      cases rx with
      | cons h hr' =>
        obtain ⟨v', hv, hg⟩ := max_sound (P := P) r hr h hr'
        exact builtin_ok hv fun ty2 w => by simp only [builtin, Builtin.max_, hl, Sem.run_bind, hg w]; rfl
  · cases hr
theorem mins_ok (ht : TRel φ t a.tmps) {ats : Array TypeId} {args : Array Operand} {l : List Arg} {v : AVal} (hx : compArgs args = some l) (hr : runPure t (.mins l) = some v) :
    PureOk P φ a (.call { callee := .builtin .min, args := args, argTypes := ats }) v := by
  have rx := compArgs_rel ht hx
  simp only [runPure, p_mins, mapL_eq] at hr
  split at hr
  · rename_i x r e
    rw [e] at rx
    cases hl : (args.map a.eval).toList with
    | nil => rw [hl] at rx; cases rx
    | cons x' r' =>
      rw [hl] at rx
      cases rx with
      | cons h hr' =>
        obtain ⟨v', hv, hg⟩ := min_sound (P := P) r hr h hr'
        exact builtin_ok hv fun ty2 w => by simp only [builtin, Builtin.min_, hl, Sem.run_bind, hg w]; rfl
  · cases hr
end Go.Ax
