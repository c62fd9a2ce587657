/- Operations that look at their operands alone: the model's operation gives what the abstract one gives, in whatever world. -/
import Derived.Test.YtlfmiplojpcklaaAxRel
import Derived.Laws.Strings
set_option linter.unusedSimpArgs false
namespace Go.Ax
open Go (run_underlying)
variable {P : Program} {φ : Emb} {t : Tmps} {a : Act}

/-- In every world, without a trace. -/
def Gives (P : Program) (s : Sem Value) (v : Value) : Prop := ∀ w, s.run P w = .ok v w
theorem Gives.pure (v : Value) : Gives P (Pure.pure v) v := fun _ => rfl
theorem Gives.bindU {t : TypeId} {d : TypeDesc} (h : P.underlying t = some d) {f : TypeDesc → Sem Value} {v : Value} (k : Gives P (f d) v) : Gives P (underlying t >>= f) v := fun w => by
  rw [Sem.run_bind, run_underlying h]; exact k w
theorem runU {t : TypeId} {d : TypeDesc} (h : P.underlying t = some d) (w : World) : (underlying t).run P w = .ok d w := run_underlying h w
theorem runI {t : TypeId} {i : TypeInfo} (h : P.info? t = some i) (w : World) : (typeInfo t).run P w = .ok i w := by simp [typeInfo, h]
theorem runZ {t : TypeId} {n : Nat} (h : tSize P t = some n) (w : World) : (sizeOf t).run P w = .ok n w := by
  unfold tSize at h
  obtain ⟨i, hi, rfl⟩ := Option.map_eq_some_iff.1 h
  simp [sizeOf, runI hi]
theorem runA {t : TypeId} {b : Bool} (h : tAgg P t = some b) (w : World) : (isAgg t).run P w = .ok b w := by
  unfold tAgg at h
  obtain ⟨d, hd, rfl⟩ := Option.map_eq_some_iff.1 h
  simp only [isAgg, Sem.run_bind, runU hd, Result.andThen_ok]
  cases d <;> rfl
theorem valCells_rel {v : AVal} {v' : Value} (h : VRel φ v v') (hk : (valCells v).all cellOk = true) : VRels φ (valCells v) v'.cells.toList := by
  cases h with
  | unk v => simp [valCells, cellOk] at hk
  | agg l l' h => exact h
  | tup l l' h => simp [valCells, cellOk] at hk
  | bool b => exact .cons (.bool b) .nil
  | int k n => exact .cons (.int k n) .nil
  | str s => exact .cons (.str s) .nil
  | nilPtr => exact .cons .nilPtr .nil
  | ptr b i e h => exact .cons (.ptr b i e h) .nil
  | nilSlice => exact .cons .nilSlice .nil
  | slice b i len cap es ex e cap' h h0 hl hc hx hN => exact .cons (.slice b i len cap es ex e cap' h h0 hl hc hx hN) .nil
  | sliceZ b i es ex a cap' hx => exact .cons (.sliceZ b i es ex a cap' hx) .nil
  | nilMap => exact .cons .nilMap .nil
  | map b e h => exact .cons (.map b e h) .nil
  | func fn l c l' c' hl hc => exact .cons (.func fn l c l' c' hl hc) .nil
  | nilFunc => exact .cons .nilFunc .nil
  | nilIface => exact .cons .nilIface .nil
  | iface t v v' h => exact .cons (.iface t v v' h) .nil

theorem runZero {t : TypeId} {l : List AVal} (h : tZero P t = some l) : ∃ z, (∀ w, (zeroValue t).run P w = .ok z w) ∧ VRels φ l z.cells.toList := by
  unfold tZero at h
  obtain ⟨i, hi, h2⟩ := Option.bind_eq_some_iff.1 h
  obtain ⟨z, hz, h3⟩ := Option.bind_eq_some_iff.1 h2
  obtain ⟨u, hu, h4⟩ := Option.bind_eq_some_iff.1 h3
  split at h4
  · rename_i hk
    simp only [Option.some.injEq] at h4; subst h4
    exact ⟨z, fun w => by simp [zeroValue, runI hi, hz], valCells_rel (toA_rel φ hu) hk⟩
  · exact absurd h4 (by simp)

/-! ### Parts of aggregates -/
theorem cellsAt_rel {cs : List AVal} {cs' : Array Value} (h : VRels φ cs cs'.toList) {t : TypeId} {n : Option Nat} (hn : tPart P t = some n) {off : Nat} {v : AVal} (hv : cellsAt cs off n = some v) :
    ∃ v', Gives P (part t cs' off) v' ∧ VRel φ v v' := by
  unfold tPart at hn
  split at hn
  · rename_i k ha hs
    simp only [Option.some.injEq] at hn; subst hn
    simp only [cellsAt] at hv
    split at hv
    · simp only [Option.some.injEq] at hv; subst hv
      refine ⟨.agg (cs'.extract off (off + k)), fun w => by simp only [part, Sem.run_bind, runA ha, Result.andThen_ok, if_true, runZ hs, Sem.run_pure], .agg _ _ ?_⟩
      rw [takeL_eq, dropL_eq]
      have e : (cs'.extract off (off + k)).toList = (cs'.toList.drop off).take k := by
        rw [Array.toList_extract, List.extract_eq_take_drop]
        congr 1; omega
      rw [e]
      exact (h.drop off).take k
    · exact absurd hv (by simp)
  · rename_i k ha hs
    simp only [Option.some.injEq] at hn; subst hn
    simp only [cellsAt, nth_eq] at hv
    obtain ⟨v', hv', hr⟩ := h.get off v hv
    refine ⟨v', fun w => ?_, hr⟩
    have e : cs'[off]? = some v' := by rw [← Array.getElem?_toList]; exact hv'
    simp only [part, Sem.run_bind, runA ha, Result.andThen_ok, if_false, Bool.false_eq_true, e, Sem.run_pure]
  · exact absurd hn (by simp)

/-- What lies in a value's cells, whatever it is. -/
theorem cellsOf_rel {v : AVal} {v' : Value} (h : VRel φ v v') (hu : isUnk v = false) : VRels φ (valCells v) v'.cells.toList := by
  cases h with
  | unk v => simp [isUnk] at hu
  | agg l l' h => exact h
  | tup l l' h => exact .cons (.tup l l' h) .nil
  | bool b => exact .cons (.bool b) .nil
  | int k n => exact .cons (.int k n) .nil
  | str s => exact .cons (.str s) .nil
  | nilPtr => exact .cons .nilPtr .nil
  | ptr b i e h => exact .cons (.ptr b i e h) .nil
  | nilSlice => exact .cons .nilSlice .nil
  | slice b i len cap es ex e cap' h h0 hl hc hx hN => exact .cons (.slice b i len cap es ex e cap' h h0 hl hc hx hN) .nil
  | sliceZ b i es ex a cap' hx => exact .cons (.sliceZ b i es ex a cap' hx) .nil
  | nilMap => exact .cons .nilMap .nil
  | map b e h => exact .cons (.map b e h) .nil
  | func fn l c l' c' hl hc => exact .cons (.func fn l c l' c' hl hc) .nil
  | nilFunc => exact .cons .nilFunc .nil
  | nilIface => exact .cons .nilIface .nil
  | iface t v v' h => exact .cons (.iface t v v' h) .nil

/-- Cells laid over others, one by one: as a list. -/
theorem foldl_set (vs : List Value) : ∀ (cs : Array Value) (k off : Nat), off + k + vs.length ≤ cs.size →
    ((vs.zipIdx k).foldl (fun cs (x : Value × Nat) => cs.setIfInBounds (off + x.2) x.1) cs).toList = cs.toList.take (off + k) ++ vs ++ cs.toList.drop (off + k + vs.length) := by
  induction vs with
  | nil => intro cs k off h; simp
  | cons v r ih =>
    intro cs k off h
    simp only [List.length_cons] at h
    simp only [List.zipIdx_cons, List.foldl_cons]
    rw [ih _ (k + 1) off (by simp; omega)]
    simp only [Array.toList_setIfInBounds]
    have hlt : off + k < cs.toList.length := by simp; omega
    apply List.ext_getElem?
    intro j
    simp only [List.getElem?_append, List.length_append, List.length_take, List.length_set, List.getElem?_take, List.getElem?_set, List.getElem?_drop, List.length_cons, Array.length_toList]
    by_cases h1 : j < off + k
    · have h2 : j < min (off + (k + 1)) cs.size := by omega
      have h3 : j < min (off + k) cs.size := by omega
      have h4 : j < min (off + (k + 1)) cs.size + r.length := by omega
      have h5 : j < min (off + k) cs.size + (r.length + 1) := by omega
      simp only [h2, h3, h4, h5, if_true, if_pos (show j < off + (k + 1) by omega), if_pos (show j < off + k by omega), if_neg (show ¬ off + k = j by omega)]
    · by_cases h2 : j = off + k
      · subst h2
        have a1 : off + k < min (off + (k + 1)) cs.size := by omega
        have a2 : ¬ off + k < min (off + k) cs.size := by omega
        have a3 : off + k < min (off + (k + 1)) cs.size + r.length := by omega
        have a4 : off + k < min (off + k) cs.size + (r.length + 1) := by omega
        simp only [a1, a2, a3, a4, if_true, if_false, if_pos (show off + k < off + (k + 1) by omega), if_pos (show off + k < cs.size by omega)]
        rw [show off + k - min (off + k) cs.size = 0 by omega]; rfl
      · by_cases h3 : j < off + (k + 1) + r.length
        · have a1 : ¬ j < min (off + (k + 1)) cs.size := by omega
          have a2 : ¬ j < min (off + k) cs.size := by omega
          have a3 : j < min (off + (k + 1)) cs.size + r.length := by omega
          have a4 : j < min (off + k) cs.size + (r.length + 1) := by omega
          simp only [a1, a2, a3, a4, if_true, if_false]
          rw [show j - min (off + k) cs.size = (j - min (off + (k + 1)) cs.size) + 1 by omega]; simp
        · have a3 : ¬ j < min (off + (k + 1)) cs.size + r.length := by omega
          have a4 : ¬ j < min (off + k) cs.size + (r.length + 1) := by omega
          simp only [a3, a4, if_false]
          rw [if_neg (show ¬ off + k = off + (k + 1) + r.length + (j - (min (off + (k + 1)) cs.size + r.length)) by omega)]
          congr 1; omega

theorem fill_rel (place : Nat → Option (Nat × Nat)) (ht : TRel φ t a.tmps) : ∀ (ps : List (Nat × Operand)) {l : List (Nat × Nat × Arg)} {cells : List AVal} {cells' : Array Value} {out : List AVal},
    (ps.mapM fun (x : Nat × Operand) => match place x.1, compArg x.2 with | some (o, n), some a => some (o, n, a) | _, _ => none) = some l → VRels φ cells cells'.toList →
    fillA cells (l.map (fun p => (p.1, p.2.1, p.2.2.eval t))) = some out →
    ∃ out', Instr.fill place cells' (ps.map fun x => (x.1, a.eval x.2)) = some out' ∧ VRels φ out out'.toList := by
  intro ps
  induction ps with
  | nil =>
    intro l cells cells' out hm hr hf
    simp at hm; subst hm
    simp [fillA] at hf; subst hf
    exact ⟨cells', rfl, hr⟩
  | cons x r ih =>
    intro l cells cells' out hm hr hf
    simp only [List.mapM_cons, Option.bind_eq_bind, Option.bind_eq_some_iff, Option.pure_def, Option.some.injEq] at hm
    obtain ⟨y, hy, l2, hl2, rfl⟩ := hm
    obtain ⟨i, x⟩ := x
    simp only at hy
    split at hy
    · rename_i o n y' hp hx
      simp only [Option.some.injEq] at hy; subst hy
      simp only [List.map_cons, fillA] at hf
      split at hf
      · rename_i hcond
        obtain ⟨hvu, hn, hle⟩ := hcond
        rw [lenL_eq] at hn hle
        rw [takeL_eq, dropL_eq, appL_eq, appL_eq] at hf
        have hv := compArg_rel ht hx
        have hc := cellsOf_rel hv hvu
        have hlen := hc.length
        have hsz : (a.eval x).cells.size = n := by rw [← Array.length_toList, ← hlen]; exact hn
        have hcs := hr.length
        simp only [List.map_cons, Instr.fill, hp]
        have h1 : ¬ ((a.eval x).cells.size ≠ n || o + (a.eval x).cells.size > cells'.size) = true := by
          rw [hsz]; simp only [ne_eq, not_true_eq_false, decide_false, Bool.false_or, decide_eq_true_eq]
          rw [← Array.length_toList, ← hcs]; omega
        rw [if_neg h1]
        refine ih hl2 ?_ hf
        have hfs := foldl_set (a.eval x).cells.toList cells' 0 o (by rw [← hlen, hn, ← Array.length_toList (xs := cells'), ← hcs]; omega)
        have e : (a.eval x).cells.zipIdx.foldl (fun cs (x : Value × Nat) => cs.setIfInBounds (o + x.2) x.1) cells' = ((a.eval x).cells.toList.zipIdx 0).foldl (fun cs (x : Value × Nat) => cs.setIfInBounds (o + x.2) x.1) cells' := by
          rw [← Array.foldl_toList, Array.toList_zipIdx]
        rw [e, hfs]
        simp only [Nat.add_zero]
        rw [List.append_assoc]
        refine (hr.take o).append (hc.append ?_)
        have : o + (a.eval x).cells.toList.length = o + n := by rw [← hlen]; omega
        rw [this]
        exact hr.drop _
      · exact absurd hf (by simp)
    · exact absurd hy (by simp)

/-! ### Numbers, strings -/
theorem valueOf (s : Sem Value) (v : Value) (h : Gives P s v) : ∀ w, (do pure (Next.value (← s)) : Sem Next).run P w = .ok (.value v) w := fun w => by
  rw [Sem.run_bind, h w]; rfl

theorem eqGuard_none (op : BinOp) (t : TypeId) (X Y : Operand) (x y : Value) (h1 : ¬ (x = .nilIface ∧ y = .nilIface)) (h2 : ¬ ((∃ c, x = .agg c) ∧ ∃ c, y = .agg c)) (w : World) : (eqGuard op t X Y x y).run P w = .ok () w := by
  unfold eqGuard
  cases op <;> first
    | rfl
    | (simp only [Bool.not_true, Bool.false_eq_true, if_false]
       split
       · exact absurd ⟨rfl, rfl⟩ h1
       · exact absurd ⟨⟨_, rfl⟩, ⟨_, rfl⟩⟩ h2
       · rfl)

theorem ints2_sound {op : BinOp} {k : IntKind} {x y : Int} {v : AVal} (h : ints2 op k x y = some v) : ∃ v', VRel φ v v' ∧ ∀ t, Gives P (binOp op t (.int k x) (.int k y)) v' := by
  cases op <;> simp only [ints2, i_add, i_sub, i_mul, i_and, i_or, i_xor, i_andNot, wrapA_eq, eqI_eq, ltI_eq, Option.some.injEq, reduceCtorEq] at h
  case quo =>
    unfold i_quo at h
    rw [eqI_eq] at h
    split at h
    · cases h
    · rename_i hb
      simp only [Option.some.injEq, wrapA_eq] at h; subst h
      have hy : ¬ y = 0 := by simpa using hb
      exact ⟨_, .int _ _, fun t w => by simp [binOp, Op.intDiv, hy]⟩
  case rem =>
    unfold i_rem at h
    rw [eqI_eq] at h
    split at h
    · cases h
    · rename_i hb
      simp only [Option.some.injEq] at h; subst h
      have hy : ¬ y = 0 := by simpa using hb
      exact ⟨_, .int _ _, fun t w => by simp [binOp, Op.intDiv, hy]⟩
  all_goals subst h
  case eql => exact ⟨_, .bool _, fun t w => by simp [binOp, Op.intCmp]⟩
  case neq => exact ⟨_, .bool (x != y), fun t w => by simp [binOp, Op.intCmp]⟩
  case lss => exact ⟨_, .bool _, fun t w => by simp [binOp, Op.intCmp]⟩
  case gtr => exact ⟨_, .bool _, fun t w => by simp [binOp, Op.intCmp]⟩
  case leq => exact ⟨.bool (decide (x ≤ y)), by rw [show (!decide (y < x)) = decide (x ≤ y) by rw [Bool.eq_iff_iff]; simp <;> omega]; exact .bool _, fun t w => by simp [binOp, Op.intCmp]⟩
  case geq => exact ⟨.bool (decide (x ≥ y)), by rw [show (!decide (x < y)) = decide (x ≥ y) by rw [Bool.eq_iff_iff]; simp]; exact .bool _, fun t w => by simp [binOp, Op.intCmp]⟩
  case add => exact ⟨_, .int _ _, fun t w => by simp [binOp, Op.intArith] <;> rfl⟩
  case sub => exact ⟨_, .int _ _, fun t w => by simp [binOp, Op.intArith] <;> rfl⟩
  case mul => exact ⟨_, .int _ _, fun t w => by simp [binOp, Op.intArith] <;> rfl⟩
  all_goals exact ⟨_, .int _ _, fun t w => by simp [binOp, Op.intBits]⟩

theorem binA_sound {op : BinOp} {x y v : AVal} {x' y' : Value} (h : binA op x y = some v) (hx : VRel φ x x') (hy : VRel φ y y') :
    ∃ v', VRel φ v v' ∧ ∀ t X Y, Gives P (do eqGuard op t X Y x' y'; binOp op t x' y') v' := by
  unfold binA at h
  split at h
  · rename_i k m
    unfold binR at h
    split at h
    · rename_i k' n
      obtain rfl := hx.int_inv
      obtain rfl := hy.int_inv
      have hg : ∀ t X Y w, (eqGuard op t X Y (.int k m) (.int k' n)).run P w = .ok () w := fun t X Y w => eqGuard_none op t X Y _ _ (by simp) (by simp) w
      have close : ∀ v', (∀ t, Gives P (binOp op t (.int k m) (.int k' n)) v') → ∀ t X Y, Gives P (do eqGuard op t X Y (.int k m) (.int k' n); binOp op t (.int k m) (.int k' n)) v' :=
        fun v' hv t X Y w => by rw [Sem.run_bind, hg]; exact hv t w
      unfold binI at h
      split at h
      · unfold i_shl at h
        rw [ltI_eq] at h
        split at h
        · cases h
        · rename_i hb
          simp only [Option.some.injEq, wrapA_eq] at h; subst h
          have hn : ¬ n < 0 := by simpa using hb
          exact ⟨_, .int _ _, close _ fun t w => by simp [binOp, Op.shift, hn]⟩
      · unfold i_shr at h
        rw [ltI_eq] at h
        split at h
        · cases h
        · rename_i hb
          simp only [Option.some.injEq] at h; subst h
          have hn : ¬ n < 0 := by simpa using hb
          exact ⟨_, .int _ _, close _ fun t w => by simp [binOp, Op.shift, hn]⟩
      · split at h
        · rename_i hk
          obtain rfl := (sameKind_eq _ _).1 hk
          obtain ⟨v', hv, hb⟩ := ints2_sound (P := P) (φ := φ) h
          exact ⟨v', hv, close _ hb⟩
        · cases h
    · cases h
  · rename_i s
    unfold binS at h
    split at h
    · rename_i u
      obtain rfl := hx.str_inv
      obtain rfl := hy.str_inv
      have hg : ∀ t X Y w, (eqGuard op t X Y (.string s) (.string u)).run P w = .ok () w := fun t X Y w => eqGuard_none op t X Y _ _ (by simp) (by simp) w
      have close : ∀ v', (∀ t, Gives P (binOp op t (.string s) (.string u)) v') → ∀ t X Y, Gives P (do eqGuard op t X Y (.string s) (.string u); binOp op t (.string s) (.string u)) v' :=
        fun v' hv t X Y w => by rw [Sem.run_bind, hg]; exact hv t w
      cases op <;> simp only [strs2, Option.some.injEq, reduceCtorEq] at h
      case add =>
        split at h
        · rename_i hs
          simp only [Option.some.injEq] at h; subst h
          refine ⟨_, .str _, close _ fun t w => ?_⟩
          have : ¬ ((s.size + u.size : Nat) : Int) > IntKind.i64.max := by
            have e : IntKind.i64.max = 9223372036854775807 := rfl
            rw [e]; omega
          simp only [binOp, Op.stringOp, if_neg this, Sem.run_pure]
        · cases h
      all_goals subst h
      all_goals exact ⟨_, .bool _, close _ fun t w => by simp only [binOp, Op.stringOp, ByteArray.toList_eq, Sem.run_pure]⟩
    · cases h
  · cases h

theorem unA_sound {op : UnOp} {x v : AVal} {x' : Value} (h : unA op x = some v) (hx : VRel φ x x') : ∃ v', VRel φ v v' ∧ Gives P (Op.unary op x') v' := by
  unfold unA at h
  split at h
  · obtain rfl := hx.int_inv
    simp only [Option.some.injEq, wrapA_eq] at h; subst h
    exact ⟨_, .int _ _, fun w => by simp [Op.unary, Op.intArith]⟩
  · obtain rfl := hx.int_inv
    simp only [Option.some.injEq, wrapA_eq] at h; subst h
    exact ⟨_, .int _ _, fun w => by simp [Op.unary, Op.intBits]⟩
  · obtain rfl := hx.bool_inv
    simp only [Option.some.injEq] at h; subst h
    exact ⟨_, .bool _, fun w => by simp [Op.unary]⟩
  · cases h

/-! ### '==' beside nil, of structs -/
def kindOk : Nat → TypeDesc → Prop
  | 0, .bool => True
  | 1, .pointer _ => True
  | 2, .slice _ => True
  | 3, .map _ _ => True
  | 4, .func _ _ _ => True
  | _, _ => False

theorem equal_succ (t : TypeId) (x y : Value) : Op.equal t x y = Op.equalIn (9999 + 1) t x y := rfl

theorem eqNil_sound {kd : Nat} {t : TypeId} {d : TypeDesc} {x y : AVal} {x' y' : Value} {r : Bool} (hu : P.underlying t = some d) (hk : kindOk kd d) (h : eqNilA kd x y = some r) (hx : VRel φ x x') (hy : VRel φ y y') :
    (∀ w, (Op.equal t x' y').run P w = .ok r w) ∧ ¬ (x' = .nilIface ∧ y' = .nilIface) ∧ ¬ ((∃ c, x' = .agg c) ∧ ∃ c, y' = .agg c) ∧
      (∀ op w, (op = .eql → (binOp op t x' y').run P w = (do pure (Value.bool (← Op.equal t x' y')) : Sem Value).run P w) ∧ (op = .neq → (binOp op t x' y').run P w = (do pure (Value.bool (!(← Op.equal t x' y'))) : Sem Value).run P w)) := by
  unfold eqNilA at h
  split at h
  all_goals first
    | (split at h
       · rename_i hkd
         subst hkd
         simp only [Option.some.injEq] at h
         subst h
         cases hx
         all_goals cases hy
         all_goals cases d <;> simp only [kindOk] at hk
         all_goals refine ⟨fun w => ?_, by simp, by simp, fun op w => ⟨fun e => by subst e; rfl, fun e => by subst e; rfl⟩⟩
         all_goals rw [equal_succ]
         all_goals generalize 9999 = depth
         all_goals simp [Op.equalIn, runU hu]
       · cases h)
    | cases h

theorem bytes_eq (s u : ByteArray) : (s == u) = (s.data.toList == u.data.toList) := by
  have e : (s == u) = (s.data == u.data) := by cases s; cases u; rfl
  rw [e, Bool.eq_iff_iff, beq_iff_eq, beq_iff_eq]
  exact ⟨fun e => by rw [e], fun e => Array.ext' e⟩
theorem eqCell_sound {d : Nat} {t : TypeId} {kd : Nat} {x y : AVal} {x' y' : Value} {r : Bool} (ht : tKind P t = some kd) (hx : VRel φ x x') (hy : VRel φ y y') (h : eqCell kd x y = some r) (w : World) :
    (Op.equalIn (d + 1) t x' y').run P w = .ok r w := by
  unfold eqCell at h
  unfold tKind at ht
  split at h
  · obtain rfl := hx.bool_inv
    obtain rfl := hy.bool_inv
    split at h
    · rename_i hk
      simp only [Option.some.injEq] at h; subst h
      split at ht <;> simp only [Option.some.injEq, reduceCtorEq] at ht <;> first | (exfalso; omega) | (rename_i hu; simp [Op.equalIn, runU hu])
    · cases h
  · obtain rfl := hx.int_inv
    obtain rfl := hy.int_inv
    split at h
    · rename_i hk
      obtain ⟨hk, hs⟩ := hk
      obtain rfl := (sameKind_eq _ _).1 hs
      simp only [Option.some.injEq] at h; subst h
      split at ht <;> simp only [Option.some.injEq, reduceCtorEq] at ht <;> first | (exfalso; omega) | (rename_i hu; simp [Op.equalIn, runU hu, eqI_eq])
    · cases h
  · obtain rfl := hx.str_inv
    obtain rfl := hy.str_inv
    split at h
    · rename_i hk
      simp only [Option.some.injEq] at h; subst h
      split at ht <;> simp only [Option.some.injEq, reduceCtorEq] at ht <;> first | (exfalso; omega) | (rename_i hu; simp only [Op.equalIn, Sem.run_bind, runU hu, Result.andThen_ok, Sem.run_pure, bytes_eq])
    · cases h
  · cases h

theorem tKind_agg {t : TypeId} {k : Nat} (h : tKind P t = some k) : tAgg P t = some false := by
  unfold tKind at h
  unfold tAgg
  split at h <;> first | (rename_i hu; rw [hu]; rfl) | cases h

theorem cells_loop {d : Nat} {xs ys : Array Value} : ∀ (L : List Field) (i : Nat) {ks : List Nat} {a b : List AVal} {r : Bool}, fieldKinds P i L = some ks → eqCells ks a b = some r →
    VRels φ a (xs.toList.drop i) → VRels φ b (ys.toList.drop i) → ∀ w,
    (forIn L ((none, ()) : Option Bool × Unit) (fun (f : Field) (_ : Option Bool × Unit) =>
      if f.name ≠ "_" then do
        let x ← part f.type xs f.offset
        let y ← part f.type ys f.offset
        let q ← Op.equalIn (d + 1) f.type x y
        if (!q) = true then pure (ForInStep.done (some false, ())) else pure (ForInStep.yield (none, ()))
      else pure (ForInStep.yield (none, ()))) : Sem (Option Bool × Unit)).run P w = .ok (if r then (none, ()) else (some false, ())) w := by
  intro L
  induction L with
  | nil =>
    intro i ks a b r hk he ha hb w
    simp only [fieldKinds, Option.some.injEq] at hk; subst hk
    unfold eqCells at he
    split at he <;> first | (simp only [Option.some.injEq] at he; subst he; simp) | (exfalso; simp_all; done) | cases he
  | cons f L ih =>
    intro i ks a b r hk he ha hb w
    simp only [fieldKinds] at hk
    split at hk
    · rename_i k l hkd hsz hl
      split at hk
      · rename_i hc
        obtain ⟨hnm, hoff⟩ := hc
        simp only [Option.some.injEq] at hk; subst hk
        unfold eqCells at he
        split at he
        · rename_i h1; cases h1
        · rename_i k' ks' x xs' y ys' h1
          simp only [List.cons.injEq] at h1
          obtain ⟨rfl, rfl⟩ := h1
          have hx0 := ha.get 0 x rfl
          have hy0 := hb.get 0 y rfl
          obtain ⟨x', hx', hxr⟩ := hx0
          obtain ⟨y', hy', hyr⟩ := hy0
          simp only [List.getElem?_drop, Nat.add_zero] at hx' hy'
          have px : ∀ w, (part f.type xs f.offset).run P w = .ok x' w := fun w => by
            have e : xs[f.offset]? = some x' := by rw [← Array.getElem?_toList, hoff]; exact hx'
            simp only [part, Sem.run_bind, runA (tKind_agg hkd), Result.andThen_ok, Bool.false_eq_true, if_false, e, Sem.run_pure]
          have py : ∀ w, (part f.type ys f.offset).run P w = .ok y' w := fun w => by
            have e : ys[f.offset]? = some y' := by rw [← Array.getElem?_toList, hoff]; exact hy'
            simp only [part, Sem.run_bind, runA (tKind_agg hkd), Result.andThen_ok, Bool.false_eq_true, if_false, e, Sem.run_pure]
          have ta : VRels φ xs' (xs.toList.drop (i + 1)) := by have := ha.drop 1; simpa [List.drop_drop, Nat.add_comm] using this
          have tb : VRels φ ys' (ys.toList.drop (i + 1)) := by have := hb.drop 1; simpa [List.drop_drop, Nat.add_comm] using this
          simp only [List.forIn_cons, if_pos hnm, bind_assoc, Sem.run_bind, px, py, Result.andThen_ok]
          split at he
          · rename_i hq
            rw [eqCell_sound hkd hxr hyr hq]
            simp only [Result.andThen_ok, Bool.not_true, Bool.false_eq_true, if_false]
            exact ih (i + 1) hl he ta tb w
          · rename_i hq
            rw [eqCell_sound hkd hxr hyr hq]
            simp only [Option.some.injEq] at he; subst he
            simp
          · cases he
        · cases he
      · cases hk
    · cases hk

/-! ### Bounds -/
theorem idx_some {i : Int} {n m : Nat} (h : idx i n = some m) : i = (m : Int) ∧ m < n := by
  unfold idx at h
  split at h
  · split at h
    · rename_i hb
      simp only [Option.some.injEq] at h; subst h
      exact ⟨rfl, Nat.le_of_ble_eq_true hb⟩
    · cases h
  · cases h
theorem asNat_some {v : AVal} {most m : Nat} (h : asNat v most = some m) : ∃ k, v = .int k (m : Int) ∧ m ≤ most := by
  unfold asNat at h
  split at h
  · obtain ⟨rfl, hm⟩ := idx_some h
    exact ⟨_, rfl, by omega⟩
  · cases h
theorem sliceBound_run {k : IntKind} {m y : Nat} (h : m ≤ y) (c : BoundsCode) (w : World) : (Instr.sliceBound (.int k (m : Int)) y c).run P w = .ok m w := by
  have : (0 : Int) ≤ m ∧ (m : Int) ≤ y := ⟨by omega, by omega⟩
  simp only [Instr.sliceBound, asIntOf, Sem.run_bind, Sem.run_pure, Result.andThen_ok, if_pos this, Int.toNat_natCast]
inductive ORel (φ : Emb) : Option AVal → Option Value → Prop where
  | none : ORel φ none none
  | some {v : AVal} {v' : Value} (h : VRel φ v v') : ORel φ (some v) (some v')
theorem compOpt_rel (ht : TRel φ t a.tmps) {x : Option Operand} {y : Option Arg} (h : compOpt x = some y) : ORel φ (y.map (·.eval t)) (x.map a.eval) := by
  cases x with
  | none => simp only [compOpt, Option.some.injEq] at h; subst h; exact .none
  | some x =>
    simp only [compOpt] at h
    obtain ⟨u, hu, rfl⟩ := Option.map_eq_some_iff.1 h
    exact .some (compArg_rel ht hu)
theorem compOpt_some {x : Option Operand} {y : Option Arg} (h : compOpt x = some y) : x.isSome = y.isSome := by
  cases x with
  | none => simp only [compOpt, Option.some.injEq] at h; subst h; rfl
  | some x =>
    simp only [compOpt] at h
    obtain ⟨u, hu, rfl⟩ := Option.map_eq_some_iff.1 h
    rfl

theorem bounds_sound {isSlice : Bool} {len cap cap' : Nat} {lo hi mx : Option AVal} {lo' hi' mx' : Option Value} {l h m : Nat} (hb : bounds len cap lo hi mx = some (l, h, m)) (hl : len ≤ cap) (hc : cap ≤ cap')
    (rl : ORel φ lo lo') (rh : ORel φ hi hi') (rm : ORel φ mx mx') :
    l ≤ h ∧ h ≤ m ∧ m ≤ cap ∧ (mx = none → m = cap) ∧ ∀ w, (Instr.sliceBounds isSlice len cap' lo' hi' mx').run P w = .ok (l, h, if mx.isSome then m else cap') w := by
  unfold bounds at hb
  have goLo : ∀ (hh mm : Nat) , (match (match lo with | some v => asNat v hh | none => some 0) with | none => none | some l => some (l, hh, mm)) = some (l, h, m) →
      hh = h ∧ mm = m ∧ l ≤ h ∧ ((lo' = none ∧ l = 0) ∨ ∃ k, lo' = some (.int k (l : Int))) := by
    intro hh mm hq
    cases rl with
    | none => simp only [Option.some.injEq, Prod.mk.injEq] at hq; obtain ⟨rfl, rfl, rfl⟩ := hq; exact ⟨rfl, rfl, Nat.zero_le _, .inl ⟨rfl, rfl⟩⟩
    | some hv =>
      simp only at hq
      split at hq
      · cases hq
      · rename_i l' hl'
        simp only [Option.some.injEq, Prod.mk.injEq] at hq; obtain ⟨rfl, rfl, rfl⟩ := hq
        obtain ⟨k, rfl, hle⟩ := asNat_some hl'
        obtain rfl := hv.int_inv
        exact ⟨rfl, rfl, hle, .inr ⟨k, rfl⟩⟩
  have fin : ∀ (M : Nat) (hh : Nat) (s : Bool), l ≤ hh → ((lo' = none ∧ l = 0) ∨ ∃ k, lo' = some (.int k (l : Int))) → ∀ w,
      (match lo' with
        | some v => (do let l ← Instr.sliceBound v hh (if s then .slice3C else .sliceB); Pure.pure (l, hh, M) : Sem (Nat × Nat × Nat))
        | none => (do let l ← (Pure.pure 0 : Sem Nat); Pure.pure (l, hh, M))).run P w = .ok (l, hh, M) w := by
    intro M hh s hle hlo w
    rcases hlo with ⟨rfl, rfl⟩ | ⟨k, rfl⟩
    · rfl
    · simp only [Sem.run_bind, sliceBound_run hle, Result.andThen_ok, Sem.run_pure]
  cases rm with
  | none =>
    simp only at hb
    cases rh with
    | none =>
      simp only at hb
      obtain ⟨e1, e2, hle, hlo⟩ := goLo _ _ hb
      subst e1; subst e2
      refine ⟨hle, hl, Nat.le_refl _, fun _ => rfl, fun w => ?_⟩
      simp only [Instr.sliceBounds, Sem.run_bind, Sem.run_pure, Result.andThen_ok, Option.isSome_none, Bool.false_eq_true, if_false]
      exact fin cap' len false hle hlo w
    | some hv =>
      simp only at hb
      split at hb
      · cases hb
      · rename_i h' hh'
        obtain ⟨k, rfl, hle2⟩ := asNat_some hh'
        obtain rfl := hv.int_inv
        obtain ⟨e1, e2, hle, hlo⟩ := goLo _ _ hb
        subst e1; subst e2
        refine ⟨hle, hle2, Nat.le_refl _, fun _ => rfl, fun w => ?_⟩
        simp only [Instr.sliceBounds, Sem.run_bind, Sem.run_pure, Result.andThen_ok, Option.isSome_none, Bool.false_eq_true, if_false, sliceBound_run (Nat.le_trans hle2 hc)]
        exact fin cap' h' false hle hlo w
  | some hm =>
    simp only at hb
    split at hb
    · cases hb
    · rename_i m' hm'
      obtain ⟨k, rfl, hle3⟩ := asNat_some hm'
      obtain rfl := hm.int_inv
      cases rh with
      | none => simp only at hb; cases hb
      | some hv =>
        simp only at hb
        split at hb
        · cases hb
        · rename_i h' hh'
          obtain ⟨k2, rfl, hle2⟩ := asNat_some hh'
          obtain rfl := hv.int_inv
          obtain ⟨e1, e2, hle, hlo⟩ := goLo _ _ hb
          subst e1; subst e2
          refine ⟨hle, hle2, hle3, fun e => (by cases e), fun w => ?_⟩
          simp only [Instr.sliceBounds, Sem.run_bind, Sem.run_pure, Result.andThen_ok, Option.isSome_some, if_true, sliceBound_run (Nat.le_trans hle3 hc), sliceBound_run hle2]
          exact fin m' h' true hle hlo w

/-! ### Each operation -/
theorem max_sound : ∀ (r : List AVal) {x v : AVal} {x' : Value} {r' : List Value}, maxA x r = some v → VRel φ x x' → VRels φ r r' → ∃ v', VRel φ v v' ∧ Gives P (r'.foldlM Builtin.max2 x') v' := by
  intro r
  induction r with
  | nil =>
    intro x v x' r' h hx hr
    cases hr
    simp only [maxA, Option.some.injEq] at h; subst h
    exact ⟨x', hx, fun w => by simp⟩
  | cons y r ih =>
    intro x v x' r' h hx hr
    cases hr with
    | cons hy hr =>
      unfold maxA at h
      split at h
      · rename_i h1; cases h1
      · rename_i h1
        simp only [List.cons.injEq] at h1
        obtain ⟨rfl, rfl⟩ := h1
        obtain rfl := hx.int_inv
        obtain rfl := hy.int_inv
        obtain ⟨v', hv, hg⟩ := ih h (.int _ _) hr
        exact ⟨v', hv, fun w => by simp only [List.foldlM_cons, Builtin.max2, pure_bind]; exact hg w⟩
      · cases h
theorem min_sound : ∀ (r : List AVal) {x v : AVal} {x' : Value} {r' : List Value}, minA x r = some v → VRel φ x x' → VRels φ r r' → ∃ v', VRel φ v v' ∧ Gives P (r'.foldlM Builtin.min2 x') v' := by
  intro r
  induction r with
  | nil =>
    intro x v x' r' h hx hr
    cases hr
    simp only [minA, Option.some.injEq] at h; subst h
    exact ⟨x', hx, fun w => by simp⟩
  | cons y r ih =>
    intro x v x' r' h hx hr
    cases hr with
    | cons hy hr =>
      unfold minA at h
      split at h
      · rename_i h1; cases h1
      · rename_i h1
        simp only [List.cons.injEq] at h1
        obtain ⟨rfl, rfl⟩ := h1
        obtain rfl := hx.int_inv
        obtain rfl := hy.int_inv
        obtain ⟨v', hv, hg⟩ := ih h (.int _ _) hr
        exact ⟨v', hv, fun w => by simp only [List.foldlM_cons, Builtin.min2, pure_bind]; exact hg w⟩
      · cases h

theorem add_addr (B o i n : Nat) : (⟨B, o + i, none⟩ : Addr).add n = ⟨B, o + (i + n), none⟩ := by
  unfold Addr.add
  split
  · rename_i h; subst h; simp
  · simp; omega

/-- The conclusion: the operation gives a value that stands for v. -/
def PureOk (P : Program) (φ : Emb) (a : Act) (op : Op) (v : AVal) : Prop := ∃ v', VRel φ v v' ∧ ∀ (dst : Option Tmp) (ty : TypeId) (pos : String) (after : Array Edge) (g : Option (Nat × Bool)) (w : World),
  (execOp a.eval { dst, op, type := ty, pos, after, guard := g }).run P w = .ok (.value v') w

theorem pureOk_of {op : Op} {v : AVal} {v' : Value} {s : Sem Value} (hv : VRel φ v v') (hg : Gives P s v') (he : ∀ (dst : Option Tmp) (ty : TypeId) (pos : String) (after : Array Edge) (g : Option (Nat × Bool)), execOp a.eval { dst, op, type := ty, pos, after, guard := g } = (do pure (Next.value (← s)))) : PureOk P φ a op v :=
  ⟨v', hv, fun dst ty pos after g w => by rw [he]; exact valueOf s v' hg w⟩

theorem move_sound (ht : TRel φ t a.tmps) {x : Operand} {y : Arg} {v : AVal} (hc : compArg x = some y) (hr : runPure t (.move y) = some v) : PureOk P φ a (.move x) v ∧ PureOk P φ a (.assign x) v := by
  have e : v = y.eval t := by simpa [runPure, p_move] using hr.symm
  subst e
  exact ⟨⟨_, compArg_rel ht hc, fun _ _ _ _ _ _ => rfl⟩, ⟨_, compArg_rel ht hc, fun _ _ _ _ _ _ => rfl⟩⟩

theorem pick_sound (ht : TRel φ t a.tmps) {c x y : Operand} {c' x' y' : Arg} {v : AVal} (hc : compArg c = some c') (hx : compArg x = some x') (hy : compArg y = some y') (hr : runPure t (.pick c' x' y') = some v) : PureOk P φ a (.pick c x y) v := by
  have rc := compArg_rel ht hc
  have rx := compArg_rel ht hx
  have ry := compArg_rel ht hy
  simp only [runPure, p_pick] at hr
  split at hr <;> first | cases hr | skip
  · rename_i e
    rw [e] at rc
    refine pureOk_of (s := do pure (if ← asBool (a.eval c) then a.eval x else a.eval y)) (v' := a.eval x) rx (fun w => ?_) ?_
    · rw [rc.bool_inv]; rfl
    · intros; simp [execOp]
  · rename_i e
    rw [e] at rc
    refine pureOk_of (s := do pure (if ← asBool (a.eval c) then a.eval x else a.eval y)) (v' := a.eval y) ry (fun w => ?_) ?_
    · rw [rc.bool_inv]; rfl
    · intros; simp [execOp]

theorem nilCheck_sound (ht : TRel φ t a.tmps) {x : Operand} {y : Arg} {v : AVal} (hc : compArg x = some y) (hr : runPure t (.nilCheck y) = some v) : PureOk P φ a (.nilCheck x) v := by
  have rx := compArg_rel ht hc
  simp only [runPure, p_nilCheck] at hr
  split at hr <;> first | (rename_i e; rw [e] at rx; simp only [Option.some.injEq] at hr; subst hr) | cases hr
  · obtain ⟨e, he, hv⟩ := rx.ptr_inv
    exact ⟨_, rx, fun _ _ _ _ _ w => by simp only [execOp]; rw [hv]; rfl⟩
  · obtain ⟨l, c, hv, _, _⟩ := rx.func_inv
    exact ⟨_, rx, fun _ _ _ _ _ w => by simp only [execOp]; rw [hv]; rfl⟩
end Go.Ax
