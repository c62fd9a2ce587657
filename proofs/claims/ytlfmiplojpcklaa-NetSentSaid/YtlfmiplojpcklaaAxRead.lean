/- Reading memory. -/
import Derived.Test.YtlfmiplojpcklaaAxMem
import Derived.Laws.BytesString
import Derived.MapKept
set_option linter.unusedSimpArgs false
set_option linter.unusedVariables false
namespace Go.Ax
open Go (run_underlying)
open Go.MapKept

/-- The operation ends with a value that v stands for, in a world that h' stands for; nothing else turned. -/
def OpOk (P : Program) (φ : Emb) (a : Act) (h : Heap) (w : World) (op : Op) (v : AVal) (h' : Heap) : Prop :=
  ∀ (K : Act → World → Prop) (Q : Exit → Act → World → Prop) (dst : Option Tmp) (ty : TypeId) (pos : String) (after : Array Edge) (g : Option (Nat × Bool)),
    (∀ v' φ' w', VRel φ' v v' → Rel φ' h' w' → Fr φ h w φ' h' w' → K (a.put dst v') w') → Oper.wp P { dst, op, type := ty, pos, after, guard := g } a w K Q
section
variable {P : Program} {φ : Emb} {t : Tmps} {a : Act} {h h' : Heap} {w : World}
theorem OpOk.value {op : Op} {v : AVal} {v' : Value} {φ' : Emb} {w' : World} {s : Sem Value} (hv : VRel φ' v v') (hR : Rel φ' h' w') (hf : Fr φ h w φ' h' w') (hg : s.run P w = .ok v' w')
    (he : ∀ (dst : Option Tmp) (ty : TypeId) (pos : String) (after : Array Edge) (g : Option (Nat × Bool)), execOp a.eval { dst, op, type := ty, pos, after, guard := g } = (do pure (Next.value (← s)))) : OpOk P φ a h w op v h' := by
  intro K Q dst ty pos after g hK
  unfold Oper.wp
  rw [he, Sem.run_bind, hg]
  exact hK v' φ' w' hv hR hf
theorem OpOk.value1 {op : Op} {v : AVal} {v' : Value} {φ' : Emb} {w' : World} {s : TypeId → Sem Value} (hv : VRel φ' v v') (hR : Rel φ' h' w') (hf : Fr φ h w φ' h' w') (hg : ∀ ty, (s ty).run P w = .ok v' w')
    (he : ∀ (dst : Option Tmp) (ty : TypeId) (pos : String) (after : Array Edge) (g : Option (Nat × Bool)), execOp a.eval { dst, op, type := ty, pos, after, guard := g } = (do pure (Next.value (← s ty)))) : OpOk P φ a h w op v h' := by
  intro K Q dst ty pos after g hK
  unfold Oper.wp
  rw [he, Sem.run_bind, hg]
  exact hK v' φ' w' hv hR hf
theorem OpOk.skip {op : Op} {φ' : Emb} {w' : World} {s : Sem Unit} (hR : Rel φ' h' w') (hf : Fr φ h w φ' h' w') (hg : s.run P w = .ok () w')
    (he : ∀ (dst : Option Tmp) (ty : TypeId) (pos : String) (after : Array Edge) (g : Option (Nat × Bool)), execOp a.eval { dst, op, type := ty, pos, after, guard := g } = (do s; pure Next.skip)) : OpOk P φ a h w op und h' := by
  intro K Q dst ty pos after g hK
  unfold Oper.wp
  rw [he, Sem.run_bind, hg]
  exact hK undef φ' w' (VRel.und φ') hR hf
theorem OpOk.of_pure {op : Op} {v : AVal} (hp : PureOk P φ a op v) (hR : Rel φ h w) : OpOk P φ a h w op v h := by
  intro K Q dst ty pos after g hK
  obtain ⟨v', hv, hr⟩ := hp
  unfold Oper.wp
  rw [hr]
  exact hK v' φ w hv hR (Fr.refl φ h w)

theorem rowOf_some {b : Nat} {cs : List AVal} (hr : rowOf h b = some cs) : ∃ m l, h.get b = some (.cells cs m l) := by
  unfold rowOf at hr
  split at hr
  · rename_i e; simp only [Option.some.injEq] at hr; subst hr; exact ⟨_, _, e⟩
  · cases hr

theorem cell_of {e : Loc} {C : Array Value} {T : TypeId} {fr : Nat × Nat} (hC : w.heap[e.B]? = some (.cells C T fr)) (k : Nat) : w.cell? ⟨e.B, k, none⟩ = C[k]? := by
  simp [World.cell?, hC]
theorem addr_add (B o n : Nat) : (⟨B, o, none⟩ : Addr).add n = ⟨B, o + n, none⟩ := by
  unfold Addr.add; split
  · rename_i hn; subst hn; rfl
  · rfl

/-- n cells on end. -/
theorem loadCells_run {A : Addr} (cs : List Value) (hc : ∀ k, k < cs.length → w.cell? (A.add k) = cs[k]?) : (loadCells A cs.length).run P w = .ok cs.toArray w := by
  have key : ∀ (n i : Nat) (acc : Array Value), i + n = cs.length → (loadCellsFrom A i n acc).run P w = .ok (acc ++ (cs.drop i).toArray) w := by
    intro n
    induction n with
    | zero => intro i acc hi; simp [loadCellsFrom, List.drop_of_length_le (show cs.length ≤ i by omega)]
    | succ n ih =>
      intro i acc hi
      have hlt : i < cs.length := by omega
      have h1 := hc i hlt
      rw [List.getElem?_eq_getElem hlt] at h1
      simp only [loadCellsFrom, Sem.run_bind, run_load, h1, Result.andThen_ok]
      rw [ih (i + 1) _ (by omega)]
      rw [List.drop_eq_getElem_cons hlt]
      simp
  have := key cs.length 0 #[] (by omega)
  simpa [loadCells] using this

/-- A stretch of a row: what lies there, and what it is. -/
theorem stretch {b : Nat} {e : Loc} {cs : List AVal} {m : Mode} {l : Nat} (hR : Rel φ h w) (he : φ b = some e) (hb : h.get b = some (.cells cs m l)) {i n : Nat} (hn : i + n ≤ cs.length) :
    ∃ L : List Value, L.length = n ∧ (loadCells ⟨e.B, e.o + i, none⟩ n).run P w = .ok L.toArray w ∧ VRels φ ((cs.drop i).take n) L ∧ ∀ k, k < n → w.cell? ⟨e.B, e.o + i + k, none⟩ = L[k]? := by
  obtain ⟨C, T, fr, hC, hsz, hle, hok, _⟩ := hR.blk b e _ he hb
  let L := (C.toList.drop (e.o + i)).take n
  have hCl : e.o + i + n ≤ C.size := by omega
  have hL : L.length = n := by simp [L]; omega
  have hLg : ∀ j, j < n → L[j]? = C[e.o + i + j]? := by
    intro j hj
    simp only [L, List.getElem?_take, if_pos hj, List.getElem?_drop, Array.getElem?_toList]
  have hload := loadCells_run (P := P) (w := w) (A := ⟨e.B, e.o + i, none⟩) L (fun j hj => by
    rw [addr_add, cell_of hC, hLg j (by omega)])
  rw [hL] at hload
  refine ⟨L, hL, hload, ?_, fun k hk => by rw [cell_of hC, hLg k hk]⟩
  refine VRels.of_get (by simp [hL]; omega) fun j c hc => ?_
  have hj : j < n := by
    have := (List.getElem?_eq_some_iff.1 hc).1
    simp at this; omega
  rw [List.getElem?_take, if_pos hj, List.getElem?_drop] at hc
  obtain ⟨v', h1, h2⟩ := hok (i + j) c hc
  exact ⟨v', by rw [hLg j hj, ← h1]; congr 1; omega, h2⟩

theorem loadVar_rel (hR : Rel φ h w) {b i : Nat} {e : Loc} {cs : List AVal} {m : Mode} {l : Nat} (he : φ b = some e) (hb : h.get b = some (.cells cs m l)) {ty : TypeId} {n : Option Nat} (hn : tPart P ty = some n) {v : AVal} (hv : cellsAt cs i n = some v) :
    ∃ v', (loadVar ty ⟨e.B, e.o + i, none⟩).run P w = .ok v' w ∧ VRel φ v v' := by
  unfold tPart at hn
  split at hn
  · rename_i k ha hs
    simp only [Option.some.injEq] at hn; subst hn
    simp only [cellsAt] at hv
    split at hv
    · rename_i hk
      have hk := Nat.le_of_ble_eq_true hk
      rw [lenL_eq] at hk
      simp only [Option.some.injEq] at hv; subst hv
      rw [takeL_eq, dropL_eq]
      obtain ⟨L, hL, hload, hrel, _⟩ := stretch (P := P) hR he hb hk
      refine ⟨.agg L.toArray, ?_, .agg _ _ (by simpa using hrel)⟩
      simp only [loadVar, Sem.run_bind, runA ha, Result.andThen_ok, if_true, runZ hs, hload, Sem.run_pure]
    · cases hv
  · rename_i k ha hs
    simp only [Option.some.injEq] at hn; subst hn
    simp only [cellsAt, nth_eq] at hv
    obtain ⟨C, T, fr, hC, hsz, hle, hok, _⟩ := hR.blk b e _ he hb
    obtain ⟨v', h1, h2⟩ := hok i v hv
    refine ⟨v', ?_, h2⟩
    simp only [loadVar, Sem.run_bind, runA ha, Result.andThen_ok, Bool.false_eq_true, if_false, run_load, cell_of hC, h1]
  · cases hn

theorem load_sem (hR : Rel φ h w) {ty : TypeId} {n : Option Nat} {x : AVal} {x' : Value} {v : AVal} (hn : tPart P ty = some n) (hx : VRel φ x x') {u : Arg} {tt : Tmps} (hu : u.eval tt = x) (hr : runRead tt h (.load n u) = some v) :
    ∃ v', (Instr.loadAt ty x').run P w = .ok v' w ∧ VRel φ v v' := by
  simp only [runRead, r_load, hu] at hr
  split at hr
  · rename_i b i
    obtain ⟨e, he, hX⟩ := hx.ptr_inv
    split at hr
    · rename_i cs hrow
      obtain ⟨m, l, hb⟩ := rowOf_some hrow
      obtain ⟨v', hl, hv⟩ := loadVar_rel (P := P) hR he hb hn hr
      refine ⟨v', ?_, hv⟩
      rw [hX]
      simp only [Instr.loadAt, Instr.sureAddr, Sem.run_bind, Sem.run_pure, Result.andThen_ok, hl]
    · cases hr
  · cases hr
theorem load_ok (ht : TRel φ t a.tmps) (hR : Rel φ h w) {ty : TypeId} {n : Option Nat} {x : Operand} {x' : Arg} {v : AVal} (hn : tPart P ty = some n) (hx : compArg x = some x') (hr : runRead t h (.load n x') = some v) : OpOk P φ a h w (.load ty x) v h := by
  obtain ⟨v', h1, h2⟩ := load_sem (P := P) hR hn (compArg_rel ht hx) rfl hr
  exact OpOk.value h2 hR (Fr.refl _ _ _) h1 fun _ _ _ _ _ => rfl

/-! ### Maps -/
def KeyLike : TypeDesc → Value → Prop
  | .int _, .int _ _ => True
  | .string, .string _ => True
  | _, _ => False
theorem checkKey_run {P : Program} {w : World} {kt : TypeId} {d : TypeDesc} {k : Value} (hd : P.underlying kt = some d) (hk : KeyLike d k) (e : Bool) (n : Nat) : (Instr.checkKey e (n + 1) kt k).run P w = .ok () w := by
  unfold Instr.checkKey
  simp only [Sem.run_bind, run_underlying hd, Result.andThen]
  cases d <;> cases k <;> simp_all [KeyLike]
def keyDesc (s : Bool) (d : TypeDesc) : Prop := match s with | true => d = .string | false => ∃ k, d = .int k
theorem tKey_some {kt : TypeId} {s : Bool} (h : tKey P kt = some s) : ∃ d, P.underlying kt = some d ∧ keyDesc s d := by
  unfold tKey at h
  split at h
  · rename_i k e; simp only [Option.some.injEq] at h; subst h; exact ⟨_, e, k, rfl⟩
  · rename_i e; simp only [Option.some.injEq] at h; subst h; exact ⟨_, e, rfl⟩
  · cases h
theorem keyIs_rel {s : Bool} {d : TypeDesc} {k : AVal} {k' : Value} (hd : keyDesc s d) (hk : keyIs s k = true) (hr : VRel φ k k') : KeyLike d k' := by
  unfold keyIs at hk
  split at hk
  · rename_i kk n
    have : s = false := by simpa using hk
    subst this; obtain ⟨j, rfl⟩ := hd
    rw [hr.int_inv]; simp [KeyLike]
  · rename_i q
    subst hk; have : d = .string := hd
    subst this
    rw [hr.str_inv]; simp [KeyLike]
  · cases hk
theorem find_rel {s : Bool} {d : TypeDesc} {k : AVal} {k' : Value} (hd : keyDesc s d) (hk : keyIs s k = true) (hr : VRel φ k k') : ∀ (es : List (AVal × AVal)) (E : List MapEntry) (j : Nat) {r : Option AVal}, MapOk φ es E → find k es = some r →
    (r = none ∧ Instr.findNow d k' E j = some none) ∨ ∃ v v' i, r = some v ∧ VRel φ v v' ∧ Instr.findNow d k' E j = some (some (j + i, v')) ∧ i < es.length ∧ (∃ kk, es[i]? = some (kk, v) ∧ keyEq k kk = some true) ∧ ∀ i' kk vv, i' < i → es[i']? = some (kk, vv) → keyEq k kk = some false := by
  intro es
  induction es with
  | nil =>
    intro E j r hm hf
    have : E = [] := List.length_eq_zero_iff.1 hm.1.symm
    subst this
    simp only [find, Option.some.injEq] at hf
    exact .inl ⟨hf.symm, rfl⟩
  | cons x es ih =>
    intro E j r hm hf
    cases E with
    | nil => have := hm.1; simp at this
    | cons y E =>
      obtain ⟨k1, v1⟩ := x
      have hm' : MapOk φ es E := ⟨by have := hm.1; simpa using this, fun i k v hi => by simpa using hm.2 (i + 1) k v (by simpa using hi)⟩
      obtain ⟨y', hy, hk1, hv1⟩ := hm.2 0 k1 v1 rfl
      simp only [List.getElem?_cons_zero, Option.some.injEq] at hy; subst hy
      have hs : ∀ b, keyEq k k1 = some b → Instr.sameNow d k' y.key = some b := by
        intro b hb
        unfold keyEq at hb
        split at hb
        · rename_i kk n kk' n'
          split at hb
          · rename_i e
            rw [hr.int_inv, hk1.int_inv]
            have : s = false := by simpa [keyIs] using hk
            subst this; obtain ⟨j, rfl⟩ := hd
            simpa [Instr.sameNow, e] using hb
          · cases hb
        · rename_i q q'
          rw [hr.str_inv, hk1.str_inv]
          have : s = true := by simpa [keyIs] using hk
          subst this; have : d = .string := hd
          subst this
          simp only [Instr.sameNow]
          rw [bytes_eq]; exact hb
        · cases hb
      simp only [find] at hf
      split at hf
      · rename_i e
        simp only [Option.some.injEq] at hf; subst hf
        refine .inr ⟨v1, y.val, 0, rfl, hv1, by simp [Instr.findNow, hs _ e], by simp, ⟨k1, rfl, e⟩, fun i' kk vv hi => by omega⟩
      · rename_i e
        rcases ih E (j + 1) hm' hf with ⟨h1, h2⟩ | ⟨v, v', i, h1, h2, h3, h4, ⟨kk, h5, h6⟩, h7⟩
        · exact .inl ⟨h1, by simp [Instr.findNow, hs _ e, h2]⟩
        · refine .inr ⟨v, v', i + 1, h1, h2, by simp [Instr.findNow, hs _ e, h3]; omega, by simp; omega, ⟨kk, by simpa using h5, h6⟩, ?_⟩
          intro i' kk' vv' hi hh
          cases i' with
          | zero => simp only [List.getElem?_cons_zero, Option.some.injEq, Prod.mk.injEq] at hh; rw [← hh.1]; exact e
          | succ i' => exact h7 i' kk' vv' (by omega) (by simpa using hh)
      · cases hf

theorem ansA_rel {z : AVal} {ok : Bool} {r : Option AVal} {z' : Value} {r' : Option Value} (hz : VRel φ z z') (hr : (r = none ∧ r' = none) ∨ ∃ v v', r = some v ∧ r' = some v' ∧ VRel φ v v') :
    VRel φ (ansA z ok r) (if ok then .tuple #[(r'.getD z'), .bool r'.isSome] else r'.getD z') := by
  rcases hr with ⟨rfl, rfl⟩ | ⟨v, v', rfl, rfl, hv⟩
  · cases ok
    · exact hz
    · exact .tup _ _ (.cons hz (.cons (.bool _) .nil))
  · cases ok
    · exact hv
    · exact .tup _ _ (.cons hv (.cons (.bool _) .nil))

theorem lookup_sem {w : World} {ty kt et : TypeId} {d : TypeDesc} {z' : Value} {ok : Bool} {x' k' : Value} {E : List MapEntry} {r' : Option (Nat × Value)} (hu : P.underlying ty = some (.map kt et)) (hkt : P.underlying kt = some d) (hz : ∀ w, (zeroValue et).run P w = .ok z' w)
    (hk : KeyLike d k') (hE : (x' = .map none ∧ E = []) ∨ ∃ r clk, x' = .map (some r) ∧ w.heap[r]? = some (.map E.toArray clk)) (hf : Instr.findNow d k' E 0 = some r') :
    (Instr.lookup ty x' k' ok).run P w = .ok (if ok then .tuple #[((r'.map (·.2)).getD z'), .bool (r'.map (·.2)).isSome] else (r'.map (·.2)).getD z') w := by
  have h10 : ∀ e, Instr.checkKey e 10000 kt k' = Instr.checkKey e (9999 + 1) kt k' := fun _ => rfl
  unfold Instr.lookup
  rcases hE with ⟨rfl, rfl⟩ | ⟨r, clk, rfl, hb⟩
  · simp only [Sem.run_bind, run_underlying hu, Result.andThen_ok, Sem.run_pure, h10, checkKey_run hkt hk, run_findKey hkt hf]
    cases r' with
    | none => simp only [Sem.run_bind, hz, Result.andThen_ok, Sem.run_pure]; cases ok <;> rfl
    | some p => simp only [Sem.run_bind, Result.andThen_ok, Sem.run_pure]; cases ok <;> rfl
  · have hf' : Instr.findNow d k' E.toArray.toList 0 = some r' := hf
    simp only [Sem.run_bind, run_underlying hu, Result.andThen_ok, Sem.run_pure, h10, checkKey_run hkt hk, run_getObj_map hb, run_findKey hkt hf']
    cases r' with
    | none => simp only [Sem.run_bind, hz, Result.andThen_ok, Sem.run_pure]; cases ok <;> rfl
    | some p => simp only [Sem.run_bind, Result.andThen_ok, Sem.run_pure]; cases ok <;> rfl

theorem lookup_ok (ht : TRel φ t a.tmps) (hR : Rel φ h w) {ty kt et : TypeId} {s : Bool} {zv : Value} {z : AVal} {ok : Bool} {x k : Operand} {x' k' : Arg} {v : AVal} (hu : P.underlying ty = some (.map kt et)) (hkt : tKey P kt = some s) (hzv : (P.info? et).bind (·.zero) = some zv) (hz : toA zv = some z)
    (hx : compArg x = some x') (hk : compArg k = some k') (hr : runRead t h (.lookup s z ok x' k') = some v) : OpOk P φ a h w (.lookup ty x k ok) v h := by
  obtain ⟨d, hd, hds⟩ := tKey_some hkt
  have hzr : ∀ w, (zeroValue et).run P w = .ok zv w := by
    obtain ⟨i, hi, hz⟩ := Option.bind_eq_some_iff.1 hzv
    intro w; simp [zeroValue, runI hi, hz]
  have rx := compArg_rel ht hx
  have rk := compArg_rel ht hk
  simp only [runRead, r_lookup] at hr
  split at hr
  · rename_i e1
    rw [e1] at rx
    split at hr
    · rename_i hki
      simp only [Option.some.injEq] at hr; subst hr
      have := lookup_sem (P := P) (w := w) (ok := ok) hu hd hzr (keyIs_rel hds hki rk) (.inl ⟨rx.nilMap_inv, rfl⟩) (r' := none) rfl
      exact OpOk.value (ansA_rel (r' := none) (toA_rel φ hz) (.inl ⟨rfl, rfl⟩)) hR (Fr.refl _ _ _) this fun _ _ _ _ _ => rfl
    · cases hr
  · rename_i b e1
    rw [e1] at rx
    obtain ⟨e, he, hX⟩ := rx.map_inv
    split at hr
    · rename_i es hb
      obtain ⟨E, clk, hE, hm, hborn⟩ := hR.blk b e _ he hb
      split at hr
      · rename_i hki
        split at hr
        · rename_i r hf
          simp only [Option.some.injEq] at hr; subst hr
          rcases find_rel hds hki rk es E.toList 0 hm hf with ⟨rfl, h2⟩ | ⟨u, u', i, rfl, hv, h2, _⟩
          · have := lookup_sem (P := P) (w := w) (ok := ok) hu hd hzr (keyIs_rel hds hki rk) (.inr ⟨e.B, clk, hX, by simpa using hE⟩) h2
            exact OpOk.value (ansA_rel (r' := none) (toA_rel φ hz) (.inl ⟨rfl, rfl⟩)) hR (Fr.refl _ _ _) this fun _ _ _ _ _ => rfl
          · have := lookup_sem (P := P) (w := w) (ok := ok) hu hd hzr (keyIs_rel hds hki rk) (.inr ⟨e.B, clk, hX, by simpa using hE⟩) h2
            exact OpOk.value (ansA_rel (r' := some u') (toA_rel φ hz) (.inr ⟨u, u', rfl, rfl, hv⟩)) hR (Fr.refl _ _ _) this fun _ _ _ _ _ => rfl
        · cases hr
      · cases hr
    · cases hr
  · cases hr

theorem builtinOk {b : Builtin} {ats : Array TypeId} {args : Array Operand} {v : AVal} {v' : Value} {φ' : Emb} {w' : World} (hv : VRel φ' v v') (hR : Rel φ' h' w') (hf : Fr φ h w φ' h' w')
    (he : ∀ ty, (builtin b ats ty (args.map fun | .const _ => true | _ => false) (args.map a.eval)).run P w = .ok (.value v') w') : OpOk P φ a h w (.call { callee := .builtin b, argTypes := ats, args }) v h' := by
  intro K Q dst ty pos after g hK
  unfold Oper.wp
  have e : (execOp a.eval { dst, op := .call { callee := .builtin b, argTypes := ats, args }, type := ty, pos, after, guard := g }).run P w = .ok (.value v') w' := by
    simp only [execOp, resolve, Sem.run_bind, Sem.run_pure, Result.andThen_ok, invoke]
    exact he ty
  rw [e]
  exact hK v' φ' w' hv hR hf

theorem lenMap_ok (ht : TRel φ t a.tmps) (hR : Rel φ h w) {ats : Array TypeId} {kt et : TypeId} {x : Operand} {x' : Arg} {v : AVal} (hu : (ats[0]?).bind P.underlying = some (.map kt et)) (hx : compArg x = some x') (hr : runRead t h (.lenMap x') = some v) :
    OpOk P φ a h w (.call { callee := .builtin .len, argTypes := ats, args := #[x] }) v h := by
  obtain ⟨ty, hty, hu⟩ := Option.bind_eq_some_iff.1 hu
  have rx := compArg_rel ht hx
  simp only [runRead, r_lenMap] at hr
  split at hr
  · rename_i e1
    rw [e1] at rx
    simp only [Option.some.injEq] at hr; subst hr
    refine builtinOk (.int _ _) hR (Fr.refl _ _ _) (v' := goInt 0) fun _ => ?_
    simp [builtin, Builtin.len_, hty, run_underlying hu, rx.nilMap_inv]
  · rename_i b e1
    rw [e1] at rx
    obtain ⟨e, he, hX⟩ := rx.map_inv
    split at hr
    · rename_i es hb
      obtain ⟨E, clk, hE, hm, hborn⟩ := hR.blk b e _ he hb
      simp only [Option.some.injEq] at hr; subst hr
      refine builtinOk (.int _ _) hR (Fr.refl _ _ _) (v' := goInt (lenL es)) fun _ => ?_
      have h1 := hm.1
      simp only [Array.length_toList] at h1
      simp [builtin, Builtin.len_, hty, run_underlying hu, hX, run_getObj_map hE, lenL_eq, h1]
    · cases hr
  · cases hr

theorem bytesOf_rel : ∀ (l : List AVal) (L : List Value) {bs : List UInt8}, VRels φ l L → bytesOf l = some bs → ∃ ns : List Int, L = ns.map (Value.int .u8) ∧ bs = ns.map fun n => UInt8.ofNat n.toNat := by
  intro l
  induction l with
  | nil => intro L bs h hb; cases h; simp only [bytesOf, Option.some.injEq] at hb; subst hb; exact ⟨[], rfl, rfl⟩
  | cons x l ih =>
    intro L bs h hb
    cases h with
    | cons h hl =>
      unfold bytesOf at hb
      split at hb
      · rename_i e; cases e
      · rename_i n r e
        simp only [List.cons.injEq] at e
        obtain ⟨rfl, rfl⟩ := e
        obtain ⟨bs', h1, rfl⟩ := Option.map_eq_some_iff.1 hb
        obtain ⟨ns, rfl, rfl⟩ := ih _ hl h1
        exact ⟨n :: ns, by rw [h.int_inv]; rfl, rfl⟩
      · cases hb
theorem push_bytes : ∀ (ns : List Int) (s : ByteArray), ns.foldl (fun r n => r.push (UInt8.ofNat n.toNat)) s = ⟨s.data ++ (ns.map fun n => UInt8.ofNat n.toNat).toArray⟩ := by
  intro ns
  induction ns with
  | nil => intro s; simp
  | cons n ns ih =>
    intro s
    rw [List.foldl_cons, ih]
    congr 1
    simp [ByteArray.push]

theorem bytes_ok (ht : TRel φ t a.tmps) (hR : Rel φ h w) {src dst e : TypeId} {x : Operand} {x' : Arg} {v : AVal} (hs : P.underlying src = some (.slice e)) (hd : P.underlying dst = some .string) (hu : P.underlying e = some (.int .u8)) (hx : compArg x = some x')
    (hr : runRead t h (.bytes x') = some v) : OpOk P φ a h w (.convert src dst x) v h := by
  have rx := compArg_rel ht hx
  have conv : ∀ (p : Option Addr) (l c : Nat), convert src dst (.slice p l c) = convert src dst (.slice p l c) := fun _ _ _ => rfl
  have hc : ∀ (p : Option Addr) (l c : Nat) (s : ByteArray), (Conv.bytesToString (.slice p l c)).run P w = .ok (.string s) w → (convert src dst (.slice p l c)).run P w = .ok (.string s) w := by
    intro p l c s hh
    unfold convert
    simp only [Sem.run_bind, run_underlying hs, run_underlying hd, Result.andThen_ok, run_underlying hu]
    cases p with
    | none => simp only [Sem.run_bind, run_underlying hu, Result.andThen_ok, hh]
    | some p => simp only [Sem.run_bind, run_underlying hu, Result.andThen_ok, hh]
  simp only [runRead, r_bytes] at hr
  split at hr
  · rename_i e1
    rw [e1] at rx
    simp only [Option.some.injEq] at hr; subst hr
    refine OpOk.value (.str _) hR (Fr.refl _ _ _) (s := convert src dst (a.eval x)) ?_ fun _ _ _ _ _ => rfl
    rw [rx.nilSlice_inv]
    exact hc _ _ _ _ rfl
  · rename_i b i len cap es ex e1
    rw [e1] at rx
    obtain ⟨A, cap', hX, hc1, hl1, _, hcap⟩ := rx.slice_inv
    split at hr
    · rename_i hcz
      simp only [Option.some.injEq] at hr; subst hr
      refine OpOk.value (.str _) hR (Fr.refl _ _ _) (s := convert src dst (a.eval x)) ?_ fun _ _ _ _ _ => rfl
      rw [hX]
      have : len = 0 := by omega
      subst this
      refine hc _ _ _ _ ?_
      exact run_bytesToString w A 0 cap' [] rfl
    · rename_i hcz
      split at hr
      · cases hr
      · rename_i hes
        split at hr
        · rename_i cs hrow
          split at hr
          · rename_i hle
            obtain ⟨m, l, hb⟩ := rowOf_some hrow
            obtain ⟨e', he, hA, hN⟩ := hcap (by omega)
            obtain ⟨bs, hbs, rfl⟩ := Option.map_eq_some_iff.1 hr
            rw [lenL_eq] at hle
            obtain ⟨L, hL, hload, hrel, _⟩ := stretch (P := P) hR he hb hle
            rw [takeL_eq, dropL_eq] at hbs
            obtain ⟨ns, rfl, rfl⟩ := bytesOf_rel _ _ hrel hbs
            refine OpOk.value (.str _) hR (Fr.refl _ _ _) (s := convert src dst (a.eval x)) ?_ fun _ _ _ _ _ => rfl
            rw [hX, hA]
            refine hc _ _ _ _ ?_
            have := run_bytesToString (P := P) w _ len cap' ns hload
            rw [push_bytes] at this
            simpa using this
          · cases hr
        · cases hr
  · cases hr

theorem one_arg' {args : Array Operand} {x : Operand} (h : args.toList = [x]) : args = #[x] := Array.ext' (by simpa using h)
theorem read_sound (ht : TRel φ t a.tmps) (hR : Rel φ h w) {op : Op} {r : XRead} {v : AVal} (hc : compOp P op = some (.read r)) (hr : runRead t h r = some v) : OpOk P φ a h w op v h := by
  cases op
  case load ty x =>
    simp only [compOp] at hc
    split at hc
    · rename_i n x' hn hx
      simp only [Option.some.injEq, XOp.read.injEq] at hc; subst hc
      exact load_ok ht hR hn hx hr
    · cases hc
  case lookup ty x i ok =>
    simp only [compOp] at hc
    split at hc
    · rename_i hu hx hi
      split at hc
      · rename_i hk hz
        obtain ⟨z, hz2, he⟩ := Option.map_eq_some_iff.1 hc
        simp only [XOp.read.injEq] at he; subst he
        exact lookup_ok ht hR hu hk hz hz2 hx hi hr
      · cases hc
    · cases hc
  case convert src dst x =>
    simp only [compOp] at hc
    split at hc
    · simp at hc
    · simp at hc
    · rename_i hs hd hx
      split at hc
      · rename_i hu
        simp only [Option.some.injEq, XOp.read.injEq] at hc; subst hc
        exact bytes_ok ht hR hs hd hu hx hr
      · cases hc
    · split at hc <;> simp at hc
    · split at hc <;> simp at hc
    · cases hc
  case call c =>
    obtain ⟨callee, args, ats⟩ := c
    simp only [compOp] at hc
    cases callee
    case builtin b =>
      simp only [compBuiltin] at hc
      split at hc
      · rename_i x hargs
        split at hc
        · simp at hc
        · simp at hc
        · simp at hc
        · rename_i hu hx
          simp only [Option.some.injEq, XOp.read.injEq] at hc; subst hc
          rw [one_arg' hargs]
          exact lenMap_ok ht hR hu hx hr
        · cases hc
      all_goals (first | (simp at hc; done) | (split at hc <;> first | (simp at hc; done) | (split at hc <;> first | (simp at hc; done) | (split at hc <;> simp at hc))))
    case value f => simp only at hc; split at hc <;> simp at hc
    case invoke => simp at hc
  case alloc e =>
    simp only [compOp] at hc
    obtain ⟨z, hz, he⟩ := Option.bind_eq_some_iff.1 hc
    split at he <;> simp at he
  case makeMap ty rs => cases rs <;> simp [compOp] at hc
  case next x s => cases s <;> simp [compOp] at hc
  all_goals (first | (simp [compOp] at hc; done) | (simp only [compOp] at hc; split at hc <;> first | (simp at hc; done) | (split at hc <;> first | (simp at hc; done) | (split at hc <;> simp at hc))))
end
end Go.Ax
