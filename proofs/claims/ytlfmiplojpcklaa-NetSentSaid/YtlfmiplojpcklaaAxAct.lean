/- What turns memory. -/
import Derived.Test.YtlfmiplojpcklaaAxWrite
set_option linter.unusedSimpArgs false
set_option linter.unusedVariables false
namespace Go.Ax
open Go (run_underlying)
open Go.MapKept
section
variable {P : Program} {φ : Emb} {t : Tmps} {a : Act} {h h' : Heap} {w : World}

theorem store_ok (ht : TRel φ t a.tmps) (hR : Rel φ h w) {ty : TypeId} {n : Nat} {x y : Operand} {x' y' : Arg} {v : AVal} (hn : tSize P ty = some n) (hx : compArg x = some x') (hy : compArg y = some y') (hr : a_store t h n x' y' = some (v, h')) :
    OpOk P φ a h w (.store ty x y) v h' := by
  have rx := compArg_rel ht hx
  have ry := compArg_rel ht hy
  unfold a_store at hr
  split at hr
  · rename_i b i e1
    rw [e1] at rx
    obtain ⟨e, he, hX⟩ := rx.ptr_inv
    simp only at hr
    split at hr
    · rename_i hl
      obtain ⟨h2, hw, hh⟩ := Option.map_eq_some_iff.1 hr
      simp only [Prod.mk.injEq] at hh
      obtain ⟨rfl, rfl⟩ := hh
      obtain ⟨cs, m, l, cs', hb, hm, hf, hwr⟩ := writeRow_some hR.inv hw
      obtain ⟨_, hall, _⟩ := putCells_some hf
      have rc := valCells_rel ry hall
      have hlen := rc.length
      rw [lenL_eq] at hl
      obtain ⟨w', hrun, hR', hF⟩ := write_run (P := P) hR he rc hw
      refine OpOk.skip (s := Instr.storeAt ty (a.eval x) (a.eval y)) hR' hF ?_ fun _ _ _ _ _ => rfl
      have hsz : (a.eval y).cells.size = n := by rw [← Array.length_toList, ← hlen, hl]
      simp only [Instr.storeAt, hX, Instr.sureAddr, Sem.run_bind, Sem.run_pure, Result.andThen_ok, storeVar, runZ hn, hsz, ne_eq, not_true_eq_false, if_false, hrun]
    · cases hr
  · cases hr

/-! ### Copied cells -/
theorem firstCells_nil {x' : Value} {esz : Nat} (hx : (∃ p l c, x' = .slice p l c) ∨ ∃ s, x' = .string s) : (Builtin.firstCells esz 0 x').run P w = .ok #[] w := by
  rcases hx with ⟨p, l, c, rfl⟩ | ⟨s, rfl⟩
  · cases p with
    | none => rfl
    | some p => simp only [Builtin.firstCells, Nat.zero_mul]; rfl
  · simp only [Builtin.firstCells, Sem.run_pure]
    congr 1
    simp
theorem src_run (hR : Rel φ h w) {esz n : Nat} {x : AVal} {x' : Value} {new : List AVal} (rx : VRel φ x x') (hs : srcCells h esz x = some (n, new)) :
    new.length = n * esz ∧ (∀ w, (Builtin.lenOf x').run P w = .ok n w) ∧ ((∃ p l c, x' = .slice p l c) ∨ ∃ s, x' = .string s) ∧ ∀ k, k ≤ n → ∃ L : List Value, (Builtin.firstCells esz k x').run P w = .ok L.toArray w ∧ VRels φ (new.take (k * esz)) L := by
  unfold srcCells at hs
  split at hs
  · simp only [Option.some.injEq, Prod.mk.injEq] at hs
    obtain ⟨rfl, rfl⟩ := hs
    rw [rx.nilSlice_inv]
    refine ⟨by simp, fun _ => rfl, .inl ⟨_, _, _, rfl⟩, fun k hk => ⟨[], rfl, by simpa using VRels.nil⟩⟩
  · rename_i b i len cap es ex
    obtain ⟨A, cap', hX, hc1, hl1, _, hcap⟩ := rx.slice_inv
    subst hX
    split at hs
    · rename_i hz
      simp only [Option.some.injEq, Prod.mk.injEq] at hs
      obtain ⟨rfl, rfl⟩ := hs
      have : len = 0 := by omega
      subst this
      refine ⟨by simp, fun _ => rfl, .inl ⟨_, _, _, rfl⟩, fun k hk => ?_⟩
      have : k = 0 := by omega
      subst this
      exact ⟨[], firstCells_nil (.inl ⟨_, _, _, rfl⟩), by simpa using VRels.nil⟩
    · rename_i hz
      split at hs
      · cases hs
      · rename_i hes
        have hes : es = esz := by simpa using hes
        subst hes
        split at hs
        · rename_i cs hrow
          split at hs
          · rename_i hle
            simp only [Option.some.injEq, Prod.mk.injEq] at hs
            obtain ⟨rfl, rfl⟩ := hs
            obtain ⟨m, l, hb⟩ := rowOf_some hrow
            obtain ⟨e', he, hA, hN⟩ := hcap (by omega)
            rw [lenL_eq] at hle
            simp only [takeL_eq, dropL_eq]
            refine ⟨by simp; omega, fun _ => rfl, .inl ⟨_, _, _, rfl⟩, fun k hk => ?_⟩
            have hkl : k * es ≤ len * es := Nat.mul_le_mul_right _ hk
            obtain ⟨L, hL, hload, hrel, _⟩ := stretch (P := P) hR he hb (i := i) (n := k * es) (by omega)
            refine ⟨L, ?_, ?_⟩
            · simp only [Builtin.firstCells, hA]; exact hload
            · rw [List.take_take, Nat.min_eq_left hkl]; exact hrel
          · cases hs
        · cases hs
  · rename_i s
    split at hs
    · rename_i he
      subst he
      simp only [Option.some.injEq, Prod.mk.injEq, mapL_eq] at hs
      obtain ⟨rfl, rfl⟩ := hs
      rw [rx.str_inv]
      refine ⟨by simp, fun _ => rfl, .inr ⟨_, rfl⟩, fun k hk => ?_⟩
      refine ⟨((s.extract 0 k).data.map fun b => Value.int .u8 b.toNat).toList, by simp only [Builtin.firstCells, Sem.run_pure, Array.toArray_toList], ?_⟩
      have e1 : ((s.extract 0 k).data.map fun b => Value.int .u8 b.toNat).toList = (s.data.toList.take k).map fun b => Value.int .u8 b.toNat := by
        rw [Array.toList_map]
        congr 1
        rw [ByteArray.data_extract, Array.toList_extract, List.extract_eq_take_drop]
        simp
      rw [e1, Nat.mul_one, ← List.map_take]
      exact VRels.map _ fun x _ => .int _ _
    · cases hs
  · cases hs

theorem bin2 {ats : Array TypeId} {ty : TypeId} (h : (ats[0]?).bind P.underlying = some (.slice ty)) : ∃ u, ats[0]? = some u ∧ P.underlying u = some (.slice ty) := by
  obtain ⟨u, hu, hh⟩ := Option.bind_eq_some_iff.1 h
  exact ⟨u, hu, hh⟩

theorem copy_ok (ht : TRel φ t a.tmps) (hR : Rel φ h w) {ats : Array TypeId} {e : TypeId} {n : Nat} {x y : Operand} {x' y' : Arg} {v : AVal} (hu : (ats[0]?).bind P.underlying = some (.slice e)) (hn : tSize P e = some n) (hx : compArg x = some x') (hy : compArg y = some y')
    (hr : a_copy t h n x' y' = some (v, h')) : OpOk P φ a h w (.call { callee := .builtin .copy, argTypes := ats, args := #[x, y] }) v h' := by
  obtain ⟨ty, hty, hu⟩ := bin2 hu
  have rx := compArg_rel ht hx
  have ry := compArg_rel ht hy
  unfold a_copy copyA at hr
  split at hr
  · cases hr
  · rename_i k src hs
    obtain ⟨hlen, hlenOf, hshape, hsrc⟩ := src_run (P := P) hR ry hs
    split at hr
    · rename_i e1
      rw [e1] at rx
      simp only [Option.some.injEq, Prod.mk.injEq] at hr
      obtain ⟨rfl, rfl⟩ := hr
      refine builtinOk (.int _ _) hR (Fr.refl _ _ _) (v' := goInt 0) fun _ => ?_
      have e0 : Nat.min k 0 = 0 := Nat.min_zero k
      simp [builtin, Builtin.copy_, hty, run_underlying hu, rx.nilSlice_inv, hlenOf, runZ hn, e0, firstCells_nil hshape]
    · rename_i b i len cap es ex e1
      rw [e1] at rx
      obtain ⟨A, cap', hX, hc1, hl1, _, hcap⟩ := rx.slice_inv
      simp only at hr
      split at hr
      · rename_i hk0
        simp only [Option.some.injEq, Prod.mk.injEq] at hr
        obtain ⟨rfl, rfl⟩ := hr
        refine builtinOk (.int _ _) hR (Fr.refl _ _ _) (v' := goInt 0) fun _ => ?_
        simp [builtin, Builtin.copy_, hty, run_underlying hu, hX, hlenOf, runZ hn, hk0, firstCells_nil hshape, storeCells]
      · rename_i hk0
        split at hr
        · cases hr
        · rename_i hcond
          simp only [not_or, ne_eq, Decidable.not_not] at hcond
          obtain ⟨hc0, hes⟩ := hcond
          subst hes
          obtain ⟨h2, hw, hh⟩ := Option.map_eq_some_iff.1 hr
          simp only [Prod.mk.injEq] at hh
          obtain ⟨rfl, rfl⟩ := hh
          obtain ⟨e', he, hA, hN⟩ := hcap (by omega)
          obtain ⟨L, hL, rL⟩ := hsrc (Nat.min k len) (Nat.min_le_left _ _)
          rw [takeL_eq] at hw
          obtain ⟨w', hrun, hR', hF⟩ := write_run (P := P) hR he rL hw
          refine builtinOk (.int _ _) hR' hF (v' := goInt (Nat.min k len)) fun _ => ?_
          rw [← hA] at hrun
          simp [builtin, Builtin.copy_, hty, run_underlying hu, hX, hlenOf, runZ hn, hL, hrun]
    · cases hr

theorem clear_ok (ht : TRel φ t a.tmps) (hR : Rel φ h w) {ats : Array TypeId} {e : TypeId} {z : List AVal} {x : Operand} {x' : Arg} {v : AVal} (hu : (ats[0]?).bind P.underlying = some (.slice e)) (hz : tZero P e = some z) (hx : compArg x = some x')
    (hr : a_clear t h z x' = some (v, h')) : OpOk P φ a h w (.call { callee := .builtin .clear, argTypes := ats, args := #[x] }) v h' := by
  obtain ⟨ty, hty, hu⟩ := bin2 hu
  have rx := compArg_rel ht hx
  unfold a_clear clearA at hr
  split at hr
  · rename_i e1
    rw [e1] at rx
    simp only [Option.some.injEq, Prod.mk.injEq] at hr
    obtain ⟨rfl, rfl⟩ := hr
    refine builtinOk (VRel.und φ) hR (Fr.refl _ _ _) (v' := undef) fun _ => ?_
    simp [builtin, Builtin.clear_, hty, run_underlying hu, rx.nilSlice_inv]
    rfl
  · rename_i b i len cap es ex e1
    rw [e1] at rx
    obtain ⟨A, cap', hX, hc1, hl1, _, hcap⟩ := rx.slice_inv
    split at hr
    · rename_i hl0
      subst hl0
      simp only [Option.some.injEq, Prod.mk.injEq] at hr
      obtain ⟨rfl, rfl⟩ := hr
      refine builtinOk (VRel.und φ) hR (Fr.refl _ _ _) (v' := undef) fun _ => ?_
      simp [builtin, Builtin.clear_, hty, run_underlying hu, hX]
      rfl
    · rename_i hl0
      split at hr
      · cases hr
      · rename_i hcond
        simp only [not_or, ne_eq, Decidable.not_not] at hcond
        obtain ⟨hc0, hes⟩ := hcond
        rw [lenL_eq] at hes
        obtain ⟨h2, hw, hh⟩ := Option.map_eq_some_iff.1 hr
        simp only [Prod.mk.injEq] at hh
        obtain ⟨rfl, rfl⟩ := hh
        obtain ⟨e', he, hA, hN⟩ := hcap (by omega)
        obtain ⟨zv, hz', rz⟩ := runZero (φ := φ) hz
        have hzl : z.length = zv.cells.size := by rw [rz.length, Array.length_toList]
        have rZ : VRels φ (repCells z len) (Builtin.zeroCells zv.cells len).toList := by
          unfold Builtin.zeroCells
          rw [← hzl]
          by_cases h0 : 0 < z.length
          · have := zeros_rel rz len h0
            rw [← hzl] at this; exact this
          · have h1 : z.length = 0 := by omega
            have h2 : repCells z len = [] := List.length_eq_zero_iff.1 (by rw [repCells_length, h1, Nat.mul_zero])
            rw [h2, h1]
            simpa using VRels.nil
        obtain ⟨w', hrun, hR', hF⟩ := write_run (P := P) hR he rZ hw
        refine builtinOk (VRel.und φ) hR' hF (v' := undef) fun _ => ?_
        rw [← hA] at hrun
        obtain ⟨len, rfl⟩ : ∃ k, len = k + 1 := ⟨len - 1, by omega⟩
        simp [builtin, Builtin.clear_, hty, run_underlying hu, hX, hz', hrun]
        rfl
  · cases hr
end
end Go.Ax
