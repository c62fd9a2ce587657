/- What makes a block. -/
import Derived.Test.YtlfmiplojpcklaaAxRead
set_option linter.unusedSimpArgs false
set_option linter.unusedVariables false
namespace Go.Ax
open Go (run_underlying)

/-- The operation makes the one block, which x stands for, at whatever number, and ends with v. -/
def MakeOk (P : Program) (φ : Emb) (a : Act) (w : World) (op : Op) (b : Nat) (v : AVal) (x : Blk) : Prop :=
  ∃ (v' : Value) (o : Obj) (N : Nat) (w' : World), (∀ (dst : Option Tmp) (ty : TypeId) (pos : String) (after : Array Edge) (g : Option (Nat × Bool)), (execOp a.eval { dst, op, type := ty, pos, after, guard := g }).run P w = .ok (.value v') w') ∧
    w'.heap = w.heap.push o ∧ w'.os = w.os ∧ w'.tape = w.tape ∧ w'.output = w.output ∧
    (∀ ψ : Emb, φ.le ψ → ψ b = some ⟨w.heap.size, 0, N⟩ → VRel ψ v v' ∧ BlkOk ψ w' ⟨w.heap.size, 0, N⟩ x) ∧ NewOk b x
section
variable {P : Program} {φ : Emb} {t : Tmps} {a : Act} {h : Heap} {w : World}
theorem MakeOk.opOk {op : Op} {v : AVal} {x : Blk} (hR : Rel φ h w) (hm : MakeOk P φ a w op h.n v x) : OpOk P φ a h w op v (h.push x) := by
  obtain ⟨v', o, N, w', hrun, hw, h1, h2, h3, hrel, hown⟩ := hm
  intro K Q dst ty pos after g hK
  obtain ⟨hv, hb⟩ := hrel (φ.upd h.n ⟨w.heap.size, 0, N⟩) (hR.upd_le _) (Emb.upd_self _ _ _)
  unfold Oper.wp
  rw [hrun]
  exact hK v' _ w' hv (hR.push hw hb hown) (Fr.push hR hw h1 h2 h3)
theorem MakeOk.of {op : Op} {b : Nat} {v : AVal} {x : Blk} {v' : Value} {o : Obj} {N : Nat} {s : Sem Value} (hg : s.run P w = .ok v' (w.alloc o))
    (he : ∀ (dst : Option Tmp) (ty : TypeId) (pos : String) (after : Array Edge) (g : Option (Nat × Bool)), execOp a.eval { dst, op, type := ty, pos, after, guard := g } = (do pure (Next.value (← s))))
    (hrel : ∀ ψ : Emb, φ.le ψ → ψ b = some ⟨w.heap.size, 0, N⟩ → VRel ψ v v' ∧ BlkOk ψ (w.alloc o) ⟨w.heap.size, 0, N⟩ x) (hown : NewOk b x) : MakeOk P φ a w op b v x :=
  ⟨v', o, N, w.alloc o, fun dst ty pos after g => by rw [he, Sem.run_bind, hg]; rfl, rfl, rfl, rfl, rfl, hrel, hown⟩

theorem alloc_get (w : World) (o : Obj) : (w.alloc o).heap[w.heap.size]? = some o := by
  show (w.heap.push o)[w.heap.size]? = some o
  simp
theorem cells_new {ψ : Emb} {cs : List AVal} {C : Array Value} {T : TypeId} {m : Mode} {l : Nat} (hr : VRels ψ cs C.toList) : BlkOk ψ (w.alloc (.cells C T)) ⟨w.heap.size, 0, C.size⟩ (.cells cs m l) := by
  have hl := hr.length
  simp only [Array.length_toList] at hl
  refine ⟨C, T, (0, 0), alloc_get w _, by simp, by simp; omega, ?_, fun _ => rfl⟩
  intro i c hc
  obtain ⟨v', h1, h2⟩ := hr.get i c hc
  exact ⟨v', by simpa using h1, h2⟩
theorem ownCells {cs : List AVal} {b : Nat} : NewOk b (.cells cs .own b) := by
  intro cs' m l h
  simp only [Blk.cells.injEq] at h
  exact .inr ⟨h.2.1.symm, h.2.2.symm⟩
theorem roCells {cs : List AVal} {b l : Nat} : NewOk b (.cells cs .ro l) := by
  intro cs' m l h
  simp only [Blk.cells.injEq] at h
  exact .inl h.2.1.symm

theorem alloc_make {e : TypeId} {z : List AVal} {b : Nat} {v : AVal} {x : Blk} (hz : tZero P e = some z) (hr : runMake t b (.alloc z) = some (v, x)) : MakeOk P φ a w (.alloc e) b v x := by
  simp only [runMake, m_alloc, Option.some.injEq, Prod.mk.injEq] at hr
  obtain ⟨rfl, rfl⟩ := hr
  obtain ⟨zv, hz', _⟩ := runZero (φ := φ) hz
  refine MakeOk.of (s := Instr.alloc e true (.tuple #[])) (v' := .pointer (some ⟨w.heap.size, 0, none⟩)) (o := .cells zv.cells e) (N := zv.cells.size) ?_ (fun _ _ _ _ _ => rfl) ?_ ownCells
  · simp only [Instr.alloc, Sem.run_bind, hz', Result.andThen_ok, newVar, newRow, run_newObj, Sem.run_pure]
    rfl
  · intro ψ hle hb
    obtain ⟨zv2, hz2, rz⟩ := runZero (φ := ψ) hz
    have : zv2 = zv := by
      have h1 := hz' default; rw [hz2] at h1; simpa using h1
    subst this
    exact ⟨.ptr _ _ _ hb, cells_new rz⟩

theorem box_make (ht : TRel φ t a.tmps) {e : TypeId} {y : Operand} {y' : Arg} {b : Nat} {v : AVal} {x : Blk} (hy : compArg y = some y') (hr : runMake t b (.box y') = some (v, x)) : MakeOk P φ a w (.box e y) b v x := by
  simp only [runMake, m_box] at hr
  split at hr
  · rename_i hall
    simp only [Option.some.injEq, Prod.mk.injEq] at hr
    obtain ⟨rfl, rfl⟩ := hr
    rw [allL_eq] at hall
    have ry := valCells_rel (compArg_rel ht hy) hall
    refine MakeOk.of (s := Instr.box e (a.eval y)) (v' := .pointer (some ⟨w.heap.size, 0, none⟩)) (o := .cells (a.eval y).cells e) (N := (a.eval y).cells.size) ?_ (fun _ _ _ _ _ => rfl) ?_ ownCells
    · simp only [Instr.box, Sem.run_bind, newVar, newRow, run_newObj, Result.andThen_ok, Sem.run_pure]
      rfl
    · intro ψ hle hb
      exact ⟨.ptr _ _ _ hb, cells_new (ry.mono hle)⟩
  · cases hr

theorem makeMap_make {ty : TypeId} {b : Nat} {v : AVal} {x : Blk} (hr : runMake t b .makeMap = some (v, x)) : MakeOk P φ a w (.makeMap ty none) b v x := by
  simp only [runMake, m_makeMap, Option.some.injEq, Prod.mk.injEq] at hr
  obtain ⟨rfl, rfl⟩ := hr
  refine MakeOk.of (s := Instr.makeMap ty none) (v' := .map (some w.heap.size)) (o := .map #[] 0) (N := 0) ?_ (fun _ _ _ _ _ => rfl) ?_ (fun _ _ _ h => by cases h)
  · simp only [Instr.makeMap, Sem.run_bind, run_newObj, Result.andThen_ok, Sem.run_pure]
    rfl
  · intro ψ hle hb
    exact ⟨.map _ _ hb, #[], 0, alloc_get w _, ⟨rfl, fun i k v hi => by simp at hi⟩, Born.nil 0⟩

theorem iter_make (ht : TRel φ t a.tmps) {ty : TypeId} {y : Operand} {y' : Arg} {b : Nat} {v : AVal} {x : Blk} (hu : P.underlying ty = some .string) (hy : compArg y = some y') (hr : runMake t b (.iter y') = some (v, x)) : MakeOk P φ a w (.range ty y) b v x := by
  have ry := compArg_rel ht hy
  simp only [runMake, m_iter] at hr
  split at hr
  · rename_i s e
    rw [e] at ry
    simp only [Option.some.injEq, Prod.mk.injEq] at hr
    obtain ⟨rfl, rfl⟩ := hr
    refine MakeOk.of (s := Instr.range ty (a.eval y)) (v' := .pointer (some ⟨w.heap.size, 0, none⟩)) (o := .stringIter s 0) (N := 0) ?_ (fun _ _ _ _ _ => rfl) ?_ (fun _ _ _ h => by cases h)
    · simp only [Instr.range, Sem.run_bind, run_underlying hu, Result.andThen_ok, ry.str_inv, run_newObj, Sem.run_pure]
      rfl
    · intro ψ hle hb
      exact ⟨.ptr _ _ _ hb, rfl, alloc_get w _⟩
  · cases hr

theorem repCells_get (z : List AVal) : ∀ (n i : Nat), (repCells z n)[i]? = if i < n * z.length then z[i % z.length]? else none := by
  intro n
  induction n with
  | zero => intro i; simp [repCells]
  | succ n ih =>
    intro i
    rw [repCells, appL_eq, List.getElem?_append]
    split
    · rename_i hi
      rw [Nat.mod_eq_of_lt hi, if_pos]
      have : z.length ≤ (n + 1) * z.length := Nat.le_mul_of_pos_left _ (by omega)
      omega
    · rename_i hi
      rw [ih]
      have e : (n + 1) * z.length = n * z.length + z.length := Nat.succ_mul _ _
      have e2 : (i - z.length) % z.length = i % z.length := by
        have : i = (i - z.length) + z.length := by omega
        conv => rhs; rw [this]
        simp
      rw [e2]
      by_cases hc : i < (n + 1) * z.length
      · rw [if_pos hc, if_pos (by omega)]
      · rw [if_neg hc, if_neg (by omega)]
theorem repCells_length (z : List AVal) (n : Nat) : (repCells z n).length = n * z.length := by
  induction n with
  | zero => simp [repCells]
  | succ n ih => rw [repCells, appL_eq, List.length_append, ih, Nat.succ_mul]; omega
theorem zeros_rel {ψ : Emb} {z : List AVal} {Z : Array Value} (hr : VRels ψ z Z.toList) (n : Nat) (h0 : 0 < z.length) : VRels ψ (repCells z n) ((Array.range (n * z.length)).map (fun i => Z[i % Z.size]!)).toList := by
  have hl := hr.length
  simp only [Array.length_toList] at hl
  refine VRels.of_get (by simp [repCells_length]) fun i v hi => ?_
  rw [repCells_get] at hi
  split at hi
  · rename_i hlt
    obtain ⟨v', h1, h2⟩ := hr.get _ _ hi
    refine ⟨v', ?_, h2⟩
    have e : i % Z.size < Z.size := Nat.mod_lt _ (by omega)
    rw [hl, Array.getElem?_toList] at h1
    simp [hlt]
    rw [getElem!_pos Z _ e]
    have := Array.getElem?_eq_getElem e
    rw [this] at h1
    simpa using h1
  · cases hi

theorem sliceRel {ψ : Emb} {b B len cap es N : Nat} {ex : Bool} {cap' : Nat} (hb : ψ b = some ⟨B, 0, N⟩) (hl : len ≤ cap) (hc : cap ≤ cap') (hx : ex = true → cap' = cap) (hN : cap' * es ≤ N) : VRel ψ (.slice b 0 len cap es ex) (.slice (some ⟨B, 0, none⟩) len cap') := by
  by_cases h0 : 0 < cap
  · exact .slice b 0 len cap es ex ⟨B, 0, N⟩ cap' hb h0 hl hc hx (by simpa using hN)
  · have h1 : cap = 0 := by omega
    have h2 : len = 0 := by omega
    subst h1; subst h2
    exact .sliceZ b 0 es ex _ cap' hx

/-- The zeros of a new row, as the model writes them. -/
def zerosOf (n : Nat) (Z : Array Value) : Array Value := (Array.range n).map (fun i => Z[i % Z.size]!)
theorem zerosOf_rel {ψ : Emb} {z : List AVal} {zv : Value} (hr : VRels ψ z zv.cells.toList) {len n : Nat} (h0 : 0 < n) (hzl : z.length = n) : VRels ψ (repCells z len) (zerosOf (len * n) (if len * n = 0 then #[] else zv.cells)).toList := by
  by_cases hz0 : len * n = 0
  · have : len = 0 := by
      rcases Nat.mul_eq_zero.1 hz0 with h | h
      · exact h
      · omega
    subst this
    simpa [repCells, zerosOf] using VRels.nil
  · rw [if_neg hz0]
    subst hzl
    exact zeros_rel hr len h0

theorem zeroPart {α : Type} {n : Nat} {e : TypeId} {zv : Value} (hz : ∀ w, (zeroValue e).run P w = .ok zv w) (K : Array Value → Sem α) : (if n = 0 then (pure #[] >>= K) else (zeroValue e >>= fun z => pure z.cells >>= K) : Sem α).run P w = (K (if n = 0 then #[] else zv.cells)).run P w := by
  by_cases h : n = 0
  · rw [if_pos h, if_pos h]; rfl
  · rw [if_neg h, if_neg h, Sem.run_bind, hz]; rfl
theorem buildSlice_make (ht : TRel φ t a.tmps) {ty e : TypeId} {len n : Nat} {ps : Array (Nat × Operand)} {z : List AVal} {l : List (Nat × Nat × Arg)} {b : Nat} {v : AVal} {x : Blk} (hu : P.underlying ty = some (.slice e)) (hn : tSize P e = some n) (hz : tZero P e = some z)
    (hlen : len * n ≤ 2 ^ 24) (h0 : 0 < n) (hzl : z.length = n) (hl : compParts (fun i => some (i * n, n)) ps = some l) (hr : runMake t b (.buildSlice len n z l) = some (v, x)) : MakeOk P φ a w (.buildSlice ty len ps) b v x := by
  simp only [runMake, m_buildSlice, mapL_eq] at hr
  split at hr
  · rename_i out ho
    split at hr
    · rename_i hcond
      simp only [Option.some.injEq, Prod.mk.injEq] at hr
      obtain ⟨rfl, rfl⟩ := hr
      obtain ⟨h1, h2, h3⟩ := hcond
      rw [allL_eq] at h1; rw [lenL_eq] at h3
      obtain ⟨zv, hz', rz⟩ := runZero (φ := φ) hz
      have rzz := zerosOf_rel (len := len) rz h0 hzl
      obtain ⟨out', hf, ro⟩ := fill_rel (fun i => some (i * n, n)) ht ps.toList hl rzz ho
      have hol := ro.length
      simp only [Array.length_toList] at hol
      refine MakeOk.of (v' := .slice (some ⟨w.heap.size, 0, none⟩) len len) (o := .cells out' e) (N := out'.size) ?_ (fun _ _ _ _ _ => rfl) ?_ ownCells
      · simp only [Instr.buildSlice, Sem.run_bind, run_underlying hu, Result.andThen_ok, runZ hn, if_neg (show ¬ len * n > 2 ^ 24 by omega), Sem.run_pure]
        rw [zeroPart (P := P) hz']
        generalize (if len * n = 0 then (#[] : Array Value) else zv.cells) = Z at hf
        rw [Array.toList_map]
        unfold zerosOf at hf
        rw [hf]
        simp only [newRow, Sem.run_bind, run_newObj, Result.andThen_ok, Sem.run_pure]
        rfl
      · intro ψ hle hb
        exact ⟨sliceRel hb (Nat.le_refl _) (Nat.le_refl _) (fun _ => rfl) (by omega), cells_new (ro.mono hle)⟩
    · cases hr
  · cases hr

theorem makeSlice_make (ht : TRel φ t a.tmps) {ty e : TypeId} {i : TypeInfo} {z : List AVal} {y c : Operand} {y' c' : Arg} {b : Nat} {v : AVal} {x : Blk} (hu : P.underlying ty = some (.slice e)) (hi : P.info? e = some i) (hz : tZero P e = some z)
    (hy : compArg y = some y') (hc : compArg c = some c') (hb : i.bytes ≤ 1024) (hr : runMake t b (.makeSlice i.size z y' c') = some (v, x)) : MakeOk P φ a w (.makeSlice ty y c) b v x := by
  have ry := compArg_rel ht hy
  have rc := compArg_rel ht hc
  simp only [runMake, m_makeSlice] at hr
  split at hr
  · rename_i k1 l k2 cc e1 e2
    rw [e1] at ry; rw [e2] at rc
    split at hr
    · rename_i hcond
      obtain ⟨hl0, hlc, hcm, hs0, hzl⟩ := hcond
      rw [lenL_eq] at hzl
      simp only [Option.some.injEq, Prod.mk.injEq] at hr
      obtain ⟨rfl, rfl⟩ := hr
      obtain ⟨zv, hz', rz⟩ := runZero (φ := φ) hz
      have hn : tSize P e = some i.size := by simp [tSize, hi]
      have wl : IntKind.i64.wrap l = l := wrap_fits _ (by omega) (by omega)
      have wc : IntKind.i64.wrap cc = cc := wrap_fits _ (by omega) (by omega)
      have rC := zerosOf_rel (len := cc.toNat) rz hs0 hzl
      obtain ⟨C, hC⟩ : ∃ C, C = zerosOf (cc.toNat * i.size) (if cc.toNat * i.size = 0 then #[] else zv.cells) := ⟨_, rfl⟩
      rw [← hC] at rC
      have hCs : C.size = cc.toNat * i.size := by rw [hC]; simp [zerosOf]
      refine MakeOk.of (s := Instr.makeSlice ty (a.eval y) (a.eval c)) (v' := .slice (some ⟨w.heap.size, 0, none⟩) l.toNat cc.toNat) (o := .cells C e) (N := C.size) ?_ (fun _ _ _ _ _ => rfl) ?_ ownCells
      · have hbig : ¬ ((i.bytes : Int) * cc > 2 ^ 48) := by
          have h1 : (i.bytes : Int) ≤ 1024 := by omega
          have h2 : (i.bytes : Int) * cc ≤ 1024 * cc := Int.mul_le_mul_of_nonneg_right h1 (by omega)
          have h3 : (1024 : Int) * cc ≤ 1024 * 1073741824 := Int.mul_le_mul_of_nonneg_left hcm (by omega)
          have h4 : (2 : Int) ^ 48 = 281474976710656 := rfl
          rw [h4]; omega
        have hcond : ¬ ((decide (cc < 0) || decide ((i.bytes : Int) * cc > 2 ^ 48)) || decide (l < 0) || decide (l > cc)) = true := by
          simp only [Bool.or_eq_true, decide_eq_true_eq]
          intro hh
          rcases hh with ((hh | hh) | hh) | hh
          · omega
          · exact hbig hh
          · omega
          · omega
        simp only [Instr.makeSlice, Sem.run_bind, run_underlying hu, Result.andThen_ok, ry.int_inv, rc.int_inv, Go.asInt, Go.asIntOf, Sem.run_pure, runI hi, wl, wc]
        rw [if_neg hcond]
        simp only [Sem.run_bind, Sem.run_pure, Result.andThen_ok, run_askRoom, runZ hn]
        rw [zeroPart (P := P) hz']
        simp only [newRow, Result.andThen_ok, Sem.run_bind, run_newObj, Sem.run_pure]
        rw [hC]
        rfl
      · intro ψ hle hb
        exact ⟨sliceRel hb (by omega) (Nat.le_refl _) (fun _ => rfl) (by omega), cells_new (rC.mono hle)⟩
    · cases hr
  · cases hr

theorem make_sound (ht : TRel φ t a.tmps) {op : Op} {m : XMake} {b : Nat} {v : AVal} {x : Blk} (hc : compOp P op = some (.make m)) (hr : runMake t b m = some (v, x)) : MakeOk P φ a w op b v x := by
  cases op
  case alloc e =>
    simp only [compOp] at hc
    obtain ⟨z, hz, he⟩ := Option.bind_eq_some_iff.1 hc
    split at he
    · simp only [Option.some.injEq, XOp.make.injEq] at he; subst he
      exact alloc_make hz hr
    · cases he
  case box e y =>
    simp only [compOp] at hc
    obtain ⟨y', hy, he⟩ := Option.map_eq_some_iff.1 hc
    simp only [XOp.make.injEq] at he; subst he
    exact box_make ht hy hr
  case buildSlice ty len ps =>
    simp only [compOp] at hc
    split at hc
    · rename_i e hu
      split at hc
      · rename_i n z hn hz
        split at hc
        · rename_i hcond
          obtain ⟨l, hl, he⟩ := Option.map_eq_some_iff.1 hc
          simp only [XOp.make.injEq] at he; subst he
          exact buildSlice_make ht hu hn hz hcond.1 hcond.2.1 hcond.2.2 hl hr
        · cases hc
      · cases hc
    · cases hc
  case makeMap ty rs =>
    cases rs with
    | none => simp only [compOp, Option.some.injEq, XOp.make.injEq] at hc; subst hc; exact makeMap_make hr
    | some _ => simp [compOp] at hc
  case makeSlice ty y c =>
    simp only [compOp] at hc
    split at hc
    · rename_i e hu
      split at hc
      · rename_i i z y' c' hi hz hy hcc
        split at hc
        · rename_i hcond
          simp only [Option.some.injEq, XOp.make.injEq] at hc; subst hc
          exact makeSlice_make ht hu hi hz hy hcc hcond.1 hr
        · cases hc
      · cases hc
    · cases hc
  case range ty y =>
    simp only [compOp] at hc
    split at hc
    · rename_i hu hy
      simp only [Option.some.injEq, XOp.make.injEq] at hc; subst hc
      exact iter_make ht hu hy hr
    · cases hc
  case call c =>
    obtain ⟨callee, args, ats⟩ := c
    simp only [compOp] at hc
    cases callee
    case builtin b =>
      simp only [compBuiltin] at hc
      split at hc
      all_goals (first | (simp at hc; done) | (split at hc <;> first | (simp at hc; done) | (split at hc <;> first | (simp at hc; done) | (split at hc <;> simp at hc))))
    case value f => simp only at hc; split at hc <;> simp at hc
    case invoke => simp at hc
  case next x s => cases s <;> simp [compOp] at hc
  all_goals (first | (simp [compOp] at hc; done) | (simp only [compOp] at hc; split at hc <;> first | (simp at hc; done) | (split at hc <;> first | (simp at hc; done) | (split at hc <;> simp at hc))))
end
end Go.Ax
