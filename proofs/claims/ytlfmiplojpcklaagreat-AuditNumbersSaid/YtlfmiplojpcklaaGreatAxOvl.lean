/- slices.overlaps: a row of one's own and another row do not overlap. -/
import Derived.Test.YtlfmiplojpcklaaGreatAxInsDef
import Derived.Test.YtlfmiplojpcklaaGreatAxMain
import Derived.Test.YtlfmiplojpcklaaGreatAxO
import Derived.Lib.Overlaps
set_option linter.unusedSimpArgs false
set_option linter.unusedVariables false
namespace Go.Ax
open Go (run_underlying)
theorem ovl_ok {P : Program} {f : Nat} {fn : Func} {t tR elem : TypeId} {sz : Nat} (hf : P.funcs[f]? = some fn) (hname : (fn.name == "runtime.NumGoroutine") = false) (hbody : fn.body = none) (hnext : Extern.findNext fn = none) (hfind : Extern.find fn = some (Extern.SlicesOverlaps.overlaps #[t, t] #[tR]))
    (hu : P.underlying t = some (.slice elem)) (hsz : tSize P elem = some sz) : KnownOk P f ovlG := by
  intro args h v h' hg φ args' w hr hR o a K Q hK
  unfold ovlG at hg
  split at hg
  · rename_i b i la cap es ex b' i' lb cap2 es' ex'
    split at hg
    · rename_i cs l cs' m' l' hb hb'
      split at hg
      · rename_i hcond
        obtain ⟨hne, hc0, hc0', hes⟩ := hcond
        simp only [Option.some.injEq, Prod.mk.injEq] at hg
        obtain ⟨rfl, rfl⟩ := hg
        obtain ⟨x', y', hargs, rx, ry⟩ : ∃ x' y', args' = #[x', y'] ∧ VRel φ (.slice b i la cap es ex) x' ∧ VRel φ (.slice b' i' lb cap2 es' ex') y' := by
          obtain ⟨L⟩ := args'
          cases hr with
          | cons h1 h2 =>
            cases h2 with
            | cons h3 h4 => cases h4; exact ⟨_, _, rfl, h1, h3⟩
        obtain ⟨A, c1, rfl, _, _, _, hA⟩ := rx.slice_inv
        obtain ⟨B, c2, rfl, _, _, _, hB⟩ := ry.slice_inv
        obtain ⟨e, he, rfl, hN⟩ := hA hc0
        obtain ⟨e', he', rfl, hN'⟩ := hB hc0'
        obtain ⟨C, T, fr, hC, hCs, _, _, hfr⟩ := hR.blk b e _ he hb
        obtain ⟨C', T', fr', hC', hCs', _, _, _⟩ := hR.blk b' e' _ he' hb'
        have hfr : fr.1 = fr.2 := hfr (by decide)
        have hblk : e.B ≠ e'.B := by
          intro heq
          rcases hR.sep b b' e e' _ _ he he' hb hb' rfl rfl heq hne with ⟨h1, _⟩ | ⟨cs1, m1, l1, cs2, m2, h1, h2, _, h4, _⟩
          · cases h1
          · simp only [Blk.cells.injEq] at h1 h2
            obtain ⟨_, _, rfl⟩ := h1
            obtain ⟨_, rfl, rfl⟩ := h2
            exact hne (hR.inv.own b _ _ b' _ _ hb hb' h4).symm
        have hcall : (callFunc f args').run P w = .ok (.value (.bool false)) w := by
          rw [hargs]
          unfold callFunc
          simp only [Sem.run_bind, run_program, Result.andThen_ok, hf, hname, hbody, Option.isNone_none, Bool.false_eq_true, if_false, if_true, run_mark, hnext, hfind]
          have hf1 : ∀ k, w.frozen? ⟨e.B, k, none⟩ = false := by
            intro k
            simp only [World.frozen?, hC]
            rw [Bool.eq_false_iff]
            simp only [ne_eq, Bool.and_eq_true, decide_eq_true_eq]
            omega
          have hs1 : w.shape? e.B = some (T, C.size) := by simp [World.shape?, hC]
          have hs2 : w.shape? e'.B = some (T', C'.size) := by simp [World.shape?, hC']
          have hpos : 0 < C'.size := by
            have h2 : 0 < c2 * es' := Nat.mul_pos (by omega) hes
            omega
          rw [Go.Lib.run_overlaps_apart w t tR elem hu sz (fun w => runZ hsz w) _ _ _ _ _ _ hblk T T' C.size C'.size hs1 hs2 (by omega) (hf1 _) (hf1 _)]
          rfl
        rw [hcall, Oper.upon_value]
        exact hK _ φ w (.bool false) hR (Fr.refl _ _ _)
      · cases hg
    · cases hg
  · cases hg
theorem ovl_s {P : Program} {f : Nat} {fn : Func} {t tR elem : TypeId} {sz : Nat} (hf : P.funcs[f]? = some fn) (hname : (fn.name == "runtime.NumGoroutine") = false) (hbody : fn.body = none) (hnext : Extern.findNext fn = none) (hfind : Extern.find fn = some (Extern.SlicesOverlaps.overlaps #[t, t] #[tR]))
    (hu : P.underlying t = some (.slice elem)) (hsz : tSize P elem = some sz) : KnownS P f ovlG := ⟨ovl_ok hf hname hbody hnext hfind hu hsz⟩
theorem none_s (P : Program) (n : Nat) : KnownS P n noneG := ⟨fun args h v h' hg => by cases hg⟩
end Go.Ax
