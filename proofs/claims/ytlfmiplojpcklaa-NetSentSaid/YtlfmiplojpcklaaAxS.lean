/- Symbolic runs: rewriting rules. -/
import Derived.Test.YtlfmiplojpcklaaAxO
set_option linter.unusedSimpArgs false
set_option linter.unusedVariables false
namespace Go.Ax
/-- An equation that is used as a step, not by unfolding. -/
theorem of_rfl {α : Type}  {a b : α} (h : a = b) : a = b := h

/-! ### Conditions: only what decides is looked at -/
theorem ok_congr {o o' : Option AVal} {K : AVal → Prop} (h : o = o') : ok o K = ok o' K := by rw [h]
theorem ok2_congr {o o' : Option (AVal × Heap)} {K : AVal → Heap → Prop} (h : o = o') : ok2 o K = ok2 o' K := by rw [h]
theorem okB_congr {o o' : Option (AVal × Blk)} {K : AVal → Blk → Prop} (h : o = o') : okB o K = okB o' K := by rw [h]
theorem br_congr {v v' : AVal} {A B : Prop} (h : v = v') : br v A B = br v' A B := by rw [h]
theorem callV_congr {X : Nat → Option XDef} {f f' : AVal} {l l' : List AVal} {h h' : Heap} {K : AVal → Heap → Prop} (e1 : f = f') (e2 : l = l') (e3 : h = h') : callV X f l h K = callV X f' l' h' K := by rw [e1, e2, e3]
theorem Fn_congr {X : Nat → Option XDef} {f : Nat} {l l' : List AVal} {h h' : Heap} {K : AVal → Heap → Prop} (e2 : l = l') (e3 : h = h') : FnC X f l h K = FnC X f l' h' K := by rw [e2, e3]
attribute [congr] ok_congr ok2_congr okB_congr br_congr callV_congr Fn_congr

theorem s_ok (v : AVal) (K : AVal → Prop) : ok (some v) K = K v := of_rfl rfl
theorem s_ok2 (v : AVal) (h : Heap) (K : AVal → Heap → Prop) : ok2 (some (v, h)) K = K v h := of_rfl rfl
theorem s_okB (v : AVal) (b : Blk) (K : AVal → Blk → Prop) : okB (some (v, b)) K = K v b := of_rfl rfl
theorem s_brt (A B : Prop) : br (.bool true) A B = A := of_rfl rfl
theorem s_brf (A B : Prop) : br (.bool false) A B = B := of_rfl rfl
theorem s_callV (X : Nat → Option XDef) (g : Nat) (a c l : List AVal) (h : Heap) (K : AVal → Heap → Prop) : callV X (.func (.func g) a c) l h K = FnC X g (appL a (appL l c)) h K := of_rfl rfl
theorem s_brb (b : Bool) (A B : Prop) : br (.bool b) A B = ((b = true → A) ∧ (b = false → B)) := by cases b <;> simp [br]
theorem br_dec {p : Prop} [Decidable p] {A B : Prop} (h1 : p → A) (h2 : ¬ p → B) : br (.bool (decide p)) A B := by
  by_cases h : p
  · simp only [h, decide_true]; exact h1 h
  · simp only [h, decide_false]; exact h2 h
theorem br_bool {b : Bool} {A B : Prop} (h1 : b = true → A) (h2 : b = false → B) : br (.bool b) A B := by
  cases b
  · exact h2 rfl
  · exact h1 rfl

/-! ### Guards -/
theorem s_gsel_tt (b : Bool) (o : Option AVal) : gsel (.bool b) b o = o := by cases b <;> rfl
theorem s_gsel_t (o : Option AVal) : gsel (.bool true) true o = o := of_rfl rfl
theorem s_gsel_f (o : Option AVal) : gsel (.bool false) false o = o := of_rfl rfl
theorem s_gsel_tf (o : Option AVal) : gsel (.bool true) false o = some und := of_rfl rfl
theorem s_gsel_ft (o : Option AVal) : gsel (.bool false) true o = some und := of_rfl rfl
theorem s_gsel_u (w : Bool) (o : Option AVal) : gsel und w o = some und := of_rfl rfl
theorem s_gP_t (W : (AVal → Heap → Prop) → Prop) (h : Heap) (K : AVal → Heap → Prop) : gP (.bool true) true W h K = W K := of_rfl rfl
theorem s_gP_f (W : (AVal → Heap → Prop) → Prop) (h : Heap) (K : AVal → Heap → Prop) : gP (.bool false) false W h K = W K := of_rfl rfl
theorem s_gP_tf (W : (AVal → Heap → Prop) → Prop) (h : Heap) (K : AVal → Heap → Prop) : gP (.bool true) false W h K = K und h := of_rfl rfl
theorem s_gP_ft (W : (AVal → Heap → Prop) → Prop) (h : Heap) (K : AVal → Heap → Prop) : gP (.bool false) true W h K = K und h := of_rfl rfl
theorem s_gcase_t (A B : Prop) : gcase (.bool true) true A B = A := of_rfl rfl
theorem s_gcase_f (A B : Prop) : gcase (.bool false) false A B = A := of_rfl rfl
theorem s_gcase_tf (A B : Prop) : gcase (.bool true) false A B = B := of_rfl rfl
theorem s_gcase_ft (A B : Prop) : gcase (.bool false) true A B = B := of_rfl rfl
theorem gP_congr {v v' : AVal} {w : Bool} {W : (AVal → Heap → Prop) → Prop} {h h' : Heap} {K : AVal → Heap → Prop} (e : v = v') (e2 : h = h') : gP v w W h K = gP v' w W h' K := by rw [e, e2]
theorem gcase_congr {v v' : AVal} {w : Bool} {A B : Prop} (e : v = v') : gcase v w A B = gcase v' w A B := by rw [e]
attribute [congr] gP_congr gcase_congr

/-! ### Numbers -/
section
variable (k : IntKind) (a b : Int)
theorem s_add : binA .add (.int k a) (.int k b) = some (.int k (wrapA k (a + b))) := by cases k <;> rfl
theorem s_sub : binA .sub (.int k a) (.int k b) = some (.int k (wrapA k (a - b))) := by cases k <;> rfl
theorem s_mul : binA .mul (.int k a) (.int k b) = some (.int k (wrapA k (a * b))) := by cases k <;> rfl
theorem s_quo (h : b ≠ 0) : binA .quo (.int k a) (.int k b) = some (.int k (wrapA k (Int.tdiv a b))) := by
  have e : eqI b 0 = false := by rw [eqI_eq]; simpa using h
  cases k <;> simp only [binA, binR, binI, sameKind, ints2, i_quo, e]
theorem s_rem (h : b ≠ 0) : binA .rem (.int k a) (.int k b) = some (.int k (Int.tmod a b)) := by
  have e : eqI b 0 = false := by rw [eqI_eq]; simpa using h
  cases k <;> simp only [binA, binR, binI, sameKind, ints2, i_rem, e]
theorem s_lss : binA .lss (.int k a) (.int k b) = some (.bool (decide (a < b))) := by
  rw [← ltI_eq]; cases k <;> rfl
theorem s_leq : binA .leq (.int k a) (.int k b) = some (.bool (decide (a ≤ b))) := by
  have : (!ltI b a) = decide (a ≤ b) := by rw [ltI_eq, Bool.eq_iff_iff]; simp
  rw [← this]; cases k <;> rfl
theorem s_gtr : binA .gtr (.int k a) (.int k b) = some (.bool (decide (b < a))) := by
  rw [← ltI_eq]; cases k <;> rfl
theorem s_geq : binA .geq (.int k a) (.int k b) = some (.bool (decide (b ≤ a))) := by
  have : (!ltI a b) = decide (b ≤ a) := by rw [ltI_eq, Bool.eq_iff_iff]; simp
  rw [← this]; cases k <;> rfl
theorem s_eql : binA .eql (.int k a) (.int k b) = some (.bool (decide (a = b))) := by
  have : eqI a b = decide (a = b) := by rw [eqI_eq, Bool.eq_iff_iff]; simp
  rw [← this]; cases k <;> rfl
theorem s_neq : binA .neq (.int k a) (.int k b) = some (.bool (decide (a ≠ b))) := by
  have : (!eqI a b) = decide (a ≠ b) := by rw [eqI_eq, Bool.eq_iff_iff]; simp
  rw [← this]; cases k <;> rfl
theorem s_conv (k' : IntKind) : oConv k' (.int k a) = some (.int k' (wrapA k' a)) := of_rfl rfl
theorem s_not (b : Bool) : unA .not (.bool b) = some (.bool (!b)) := of_rfl rfl
theorem s_neg : unA .neg (.int k a) = some (.int k (wrapA k (0 - a))) := of_rfl rfl
end
theorem wr_i64 {n : Int} (h0 : -9223372036854775808 ≤ n) (h1 : n < 9223372036854775808) : wrapA .i64 n = n := by rw [wrapA_eq]; exact wrap_fits n h0 h1
theorem wr_u64 {n : Int} (h0 : 0 ≤ n) (h1 : n < 18446744073709551616) : wrapA .u64 n = n := by
  rw [wrapA_eq]
  have e1 : IntKind.u64.wrap n = n % 18446744073709551616 := rfl
  rw [e1]; omega
theorem wr_u32 {n : Int} (h0 : 0 ≤ n) (h1 : n < 4294967296) : wrapA .u32 n = n := by
  rw [wrapA_eq]
  have e1 : IntKind.u32.wrap n = n % 4294967296 := rfl
  rw [e1]; omega
theorem wr_u8 {n : Int} (h0 : 0 ≤ n) (h1 : n < 256) : wrapA .u8 n = n := by
  rw [wrapA_eq]
  have e1 : IntKind.u8.wrap n = n % 256 := rfl
  rw [e1]; omega
theorem wr_u8_mod (n : Int) : wrapA .u8 n = n % 256 := by rw [wrapA_eq]; rfl
theorem wr_u64_mod (n : Int) : wrapA .u64 n = n % 18446744073709551616 := by rw [wrapA_eq]; rfl
theorem wr_u32_mod (n : Int) : wrapA .u32 n = n % 4294967296 := by rw [wrapA_eq]; rfl
theorem bytes_eq_iff {a b : ByteArray} : a.data.toList = b.data.toList ↔ a = b := by
  constructor
  · intro h; cases a; cases b; rename_i x y; cases x; cases y; simpa using h
  · intro h; rw [h]
theorem s_eqlS (a b : ByteArray) : binA .eql (.str a) (.str b) = some (.bool (decide (a = b))) := by
  have : (a.data.toList == b.data.toList) = decide (a = b) := by rw [Bool.eq_iff_iff]; simp only [beq_iff_eq, decide_eq_true_eq]; exact bytes_eq_iff
  rw [← this]; rfl
theorem s_neqS (a b : ByteArray) : binA .neq (.str a) (.str b) = some (.bool (decide (a ≠ b))) := by
  have : (!(a.data.toList == b.data.toList)) = decide (a ≠ b) := by rw [Bool.eq_iff_iff]; simp only [Bool.not_eq_true', beq_eq_false_iff_ne, ne_eq, decide_eq_true_eq]; rw [bytes_eq_iff]
  rw [← this]; rfl
theorem s_oPick (b : Bool) (x y : AVal) : oPick (.bool b) x y = some (if b then x else y) := by cases b <;> rfl
theorem s_oPick_t (x y : AVal) : oPick (.bool true) x y = some x := of_rfl rfl
theorem s_oPick_f (x y : AVal) : oPick (.bool false) x y = some y := of_rfl rfl
/-! Tests, each parted where it is made. -/
section
variable {k : IntKind} {a b : Int} {K : AVal → Prop}
theorem t_lss (h1 : a < b → K (.bool true)) (h2 : ¬ a < b → K (.bool false)) : ok (binA .lss (.int k a) (.int k b)) K := by
  rw [s_lss]; by_cases h : a < b
  · simp only [h, decide_true]; exact h1 h
  · simp only [h, decide_false]; exact h2 h
theorem t_leq (h1 : a ≤ b → K (.bool true)) (h2 : ¬ a ≤ b → K (.bool false)) : ok (binA .leq (.int k a) (.int k b)) K := by
  rw [s_leq]; by_cases h : a ≤ b
  · simp only [h, decide_true]; exact h1 h
  · simp only [h, decide_false]; exact h2 h
theorem t_gtr (h1 : b < a → K (.bool true)) (h2 : ¬ b < a → K (.bool false)) : ok (binA .gtr (.int k a) (.int k b)) K := by
  rw [s_gtr]; by_cases h : b < a
  · simp only [h, decide_true]; exact h1 h
  · simp only [h, decide_false]; exact h2 h
theorem t_geq (h1 : b ≤ a → K (.bool true)) (h2 : ¬ b ≤ a → K (.bool false)) : ok (binA .geq (.int k a) (.int k b)) K := by
  rw [s_geq]; by_cases h : b ≤ a
  · simp only [h, decide_true]; exact h1 h
  · simp only [h, decide_false]; exact h2 h
theorem t_eql (h1 : a = b → K (.bool true)) (h2 : ¬ a = b → K (.bool false)) : ok (binA .eql (.int k a) (.int k b)) K := by
  rw [s_eql]; by_cases h : a = b
  · simp only [h, decide_true]; exact h1 h
  · simp only [h, decide_false]; exact h2 h
theorem t_neq (h1 : ¬ a = b → K (.bool true)) (h2 : a = b → K (.bool false)) : ok (binA .neq (.int k a) (.int k b)) K := by
  rw [s_neq]; by_cases h : a = b
  · simp only [ne_eq, h, not_true, decide_false]; exact h2 h
  · simp only [ne_eq, h, not_false_iff, decide_true]; exact h1 h
variable {s t : ByteArray}
theorem t_eqlS (h1 : s = t → K (.bool true)) (h2 : ¬ s = t → K (.bool false)) : ok (binA .eql (.str s) (.str t)) K := by
  rw [s_eqlS]; by_cases h : s = t
  · simp only [h, decide_true]; exact h1 h
  · simp only [h, decide_false]; exact h2 h
theorem t_neqS (h1 : ¬ s = t → K (.bool true)) (h2 : s = t → K (.bool false)) : ok (binA .neq (.str s) (.str t)) K := by
  rw [s_neqS]; by_cases h : s = t
  · simp only [ne_eq, h, not_true, decide_false]; exact h2 h
  · simp only [ne_eq, h, not_false_iff, decide_true]; exact h1 h
end

/-! ### Memory -/
theorem s_get_push_eq (h : Heap) (x : Blk) : (h.push x).get h.n = some x := by rw [Heap.get_push, if_pos rfl]
theorem s_get_push_ne {h : Heap} {x : Blk} {b : Nat} (hb : b ≠ h.n) : (h.push x).get b = h.get b := by rw [Heap.get_push, if_neg hb]
theorem s_n_push (h : Heap) (x : Blk) : (h.push x).n = h.n + 1 := of_rfl rfl
theorem s_get_set_eq {h : Heap} {b : Nat} {x : Blk} (hb : b < h.n) : (h.set b x).get b = some x := by rw [Heap.get_set, if_pos ⟨rfl, hb⟩]
theorem s_get_set_ne {h : Heap} {b c : Nat} {x : Blk} (hb : c ≠ b) : (h.set b x).get c = h.get c := by rw [Heap.get_set, if_neg (fun e => hb e.1)]
theorem Heap.ext_get {h h' : Heap} (hn : h.n = h'.n) (hg : ∀ b, b < h.n → h.get b = h'.get b) : h = h' := by
  have : h.l = h'.l := by
    apply List.ext_getElem?
    intro i
    by_cases hi : i < h.n
    · have := hg (h.n - (i + 1)) (by omega)
      rw [Heap.get_eq, Heap.get_eq, if_pos (by omega), if_pos (by omega)] at this
      rw [show h.n - (h.n - (i + 1) + 1) = i by omega, ← hn, show h.n - (h.n - (i + 1) + 1) = i by omega] at this
      exact this
    · rw [List.getElem?_eq_none (by rw [h.wf]; omega), List.getElem?_eq_none (by rw [h'.wf]; omega)]
  cases h; cases h'; simp only at this hn; subst this; subst hn; rfl
theorem s_push_set (h : Heap) (x y : Blk) : (h.push x).set h.n y = h.push y := by
  refine Heap.ext_get (by rw [Heap.set_n]; rfl) fun b hb => ?_
  rw [Heap.get_set, Heap.get_push, Heap.get_push]
  by_cases e : b = h.n
  · subst e; rw [if_pos ⟨rfl, by rw [s_n_push]; omega⟩, if_pos rfl]
  · rw [if_neg (fun hh => e hh.1), if_neg e, if_neg e]
theorem s_set_set (h : Heap) (b : Nat) (x y : Blk) : (h.set b x).set b y = h.set b y := by
  refine Heap.ext_get (by rw [Heap.set_n, Heap.set_n, Heap.set_n]) fun c hc => ?_
  rw [Heap.get_set, Heap.get_set, Heap.get_set, Heap.set_n]
  by_cases e : c = b ∧ b < h.n
  · rw [if_pos e, if_pos e]
  · rw [if_neg e, if_neg e, if_neg e]
theorem s_oLoad (h : Heap) (n : Option Nat) (b i : Nat) : oLoad h n (.ptr b i) = match rowOf h b with | some cs => cellsAt cs i n | none => none := of_rfl rfl
theorem s_rowOf {h : Heap} {b : Nat} {cs : List AVal} {m : Mode} {l : Nat} (e : h.get b = some (.cells cs m l)) : rowOf h b = some cs := by unfold rowOf; rw [e]
theorem s_load1 {h : Heap} {b i : Nat} {cs : List AVal} {m : Mode} {l : Nat} (e : h.get b = some (.cells cs m l)) : oLoad h none (.ptr b i) = cs[i]? := by
  rw [s_oLoad, s_rowOf e]; exact nth_eq _ _
theorem s_loadN {h : Heap} {b i n : Nat} {cs : List AVal} {m : Mode} {l : Nat} (e : h.get b = some (.cells cs m l)) (hl : i + n ≤ cs.length) : oLoad h (some n) (.ptr b i) = some (.agg ((cs.drop i).take n)) := by
  rw [s_oLoad, s_rowOf e]
  show (match Nat.ble (i + n) (lenL cs) with | true => some (AVal.agg (takeL (dropL cs i) n)) | false => none) = _
  rw [lenL_eq, Nat.ble_eq_true_of_le hl, takeL_eq, dropL_eq]
theorem s_oNil (b i : Nat) : oNil (.ptr b i) = some (.ptr b i) := of_rfl rfl
theorem s_oFA (off b i : Nat) : oFA off (.ptr b i) = some (.ptr b (i + off)) := of_rfl rfl
theorem s_oIA {esz b o len cap : Nat} {ex : Bool} {k : IntKind} {n : Int} (h0 : 0 ≤ n) (h1 : n < len) (hc : 0 < cap) : oIA esz (.slice b o len cap esz ex) (.int k n) = some (.ptr b (o + n.toNat * esz)) := by
  obtain ⟨m, rfl⟩ := Int.eq_ofNat_of_zero_le h0
  show (match idx (m : Int) len with | some j => (match Nat.blt 0 cap && Nat.beq esz esz with | true => some (AVal.ptr b (o + j * esz)) | false => none) | none => none) = _
  have e1 : idx (m : Int) len = some m := by
    show (match Nat.blt m len with | true => some m | false => none) = some m
    have : Nat.blt m len = true := by simp [Nat.blt]; omega
    rw [this]
  have e2 : (Nat.blt 0 cap && Nat.beq esz esz) = true := by rw [Nat.beq_refl]; simp [Nat.blt]; omega
  rw [e1, e2]; rfl
theorem s_len (b i len cap es : Nat) (ex : Bool) : oLen (.slice b i len cap es ex) = some (.int .i64 len) := of_rfl rfl
theorem s_len_nil : oLen .nilSlice = some (.int .i64 0) := of_rfl rfl
theorem s_lenS (s : ByteArray) : oLenS (.str s) = some (.int .i64 s.size) := of_rfl rfl
theorem s_cap (b i len cap es : Nat) : oCap (.slice b i len cap es true) = some (.int .i64 cap) := of_rfl rfl
theorem s_cap_nil : oCap .nilSlice = some (.int .i64 0) := of_rfl rfl
theorem s_ext0 (v : AVal) (l : List AVal) : oExt 0 (.tup (v :: l)) = some v := of_rfl rfl
theorem s_ext1 (v w : AVal) (l : List AVal) : oExt 1 (.tup (v :: w :: l)) = some w := of_rfl rfl
theorem s_ext2 (v w x : AVal) (l : List AVal) : oExt 2 (.tup (v :: w :: x :: l)) = some x := of_rfl rfl
theorem s_field1 (off : Nat) (cs : List AVal) : oField off none (.agg cs) = cs[off]? := nth_eq _ _
theorem s_fieldN {off n : Nat} {cs : List AVal} (h : off + n ≤ cs.length) : oField off (some n) (.agg cs) = some (.agg ((cs.drop off).take n)) := by
  show (match Nat.ble (off + n) (lenL cs) with | true => some (AVal.agg (takeL (dropL cs off) n)) | false => none) = _
  rw [lenL_eq, Nat.ble_eq_true_of_le h, takeL_eq, dropL_eq]
theorem s_oAlloc (h : Heap) (z : List AVal) : oAlloc h z = some (.ptr h.n 0, h.push (.cells z .own h.n)) := of_rfl rfl
theorem s_oBox {h : Heap} {x : AVal} (hx : (valCells x).all cellOk = true) : oBox h x = some (.ptr h.n 0, h.push (.cells (valCells x) .own h.n)) := by
  have e : oBox h x = mk2 h (if allL cellOk (valCells x) then some (.ptr h.n 0, .cells (valCells x) .own h.n) else none) := rfl
  rw [e, allL_eq, hx]; rfl
theorem s_oMMap (h : Heap) : oMMap h = some (.map h.n, h.push (.map [])) := of_rfl rfl
theorem s_oIter (h : Heap) (s : ByteArray) : oIter h (.str s) = some (.ptr h.n 0, h.push (.iter s 0)) := of_rfl rfl
theorem s_store {h h' : Heap} {n b i : Nat} {v : AVal} (hl : (valCells v).length = n) (hw : writeRow h b (putCells i (valCells v)) = some h') : oStore h n (.ptr b i) v = some (und, h') := by
  have e : oStore h n (.ptr b i) v = if lenL (valCells v) = n then (writeRow h b (putCells i (valCells v))).map fun h' => (und, h') else none := rfl
  rw [e, lenL_eq, if_pos hl, hw]; rfl
theorem s_putCells {i : Nat} {vs cs : List AVal} (h1 : i + vs.length ≤ cs.length) (h2 : vs.all cellOk = true) : putCells i vs cs = some (cs.take i ++ (vs ++ cs.drop (i + vs.length))) := by
  unfold putCells
  rw [lenL_eq, lenL_eq, allL_eq, if_pos ⟨h1, h2⟩, appL_eq, appL_eq, takeL_eq, dropL_eq]
theorem s_writeRow {h : Heap} {b l : Nat} {cs cs' : List AVal} {f : List AVal → Option (List AVal)} (e : h.get b = some (.cells cs .own l)) (hf : f cs = some cs') : writeRow h b f = some (h.set b (.cells cs' .own l)) := by
  unfold writeRow; rw [e]; simp only [hf, Option.map_some]
theorem s_writeRow_kin {h : Heap} {b l : Nat} {cs cs' : List AVal} {f : List AVal → Option (List AVal)} (e : h.get b = some (.cells cs .kin l)) (hf : f cs = some cs') : writeRow h b f = some ((h.kill l b).set b (.cells cs' .own l)) := by
  unfold writeRow; rw [e]; simp only [hf, Option.map_some]
/-- One cell of one's own is written. -/
theorem s_store1 {h : Heap} {b i l : Nat} {cs : List AVal} {v : AVal} (e : h.get b = some (.cells cs .own l)) (hi : i < cs.length) (hv : cellOk v = true) (hc : valCells v = [v]) : oStore h 1 (.ptr b i) v = some (und, h.set b (.cells (cs.set i v) .own l)) := by
  refine s_store (by rw [hc]; rfl) (s_writeRow e ?_)
  rw [hc, s_putCells (show i + 1 ≤ cs.length from hi) (by simpa using hv), List.set_eq_take_append_cons_drop, if_pos hi]
  rfl
theorem s_storeN {h : Heap} {b i n l : Nat} {cs vs : List AVal} (e : h.get b = some (.cells cs .own l)) (hn : vs.length = n) (hi : i + n ≤ cs.length) (hv : vs.all cellOk = true) : oStore h n (.ptr b i) (.agg vs) = some (und, h.set b (.cells (cs.take i ++ (vs ++ cs.drop (i + n))) .own l)) := by
  subst hn
  exact s_store rfl (s_writeRow e (s_putCells hi hv))

/-- All that was is as it was. -/
structure Keeps (h h' : Heap) : Prop where
  n : h.n ≤ h'.n
  get : ∀ b, b < h.n → h'.get b = h.get b
theorem Keeps.refl (h : Heap) : Keeps h h := ⟨Nat.le_refl _, fun _ _ => rfl⟩
theorem Keeps.trans {h h1 h2 : Heap} (a : Keeps h h1) (b : Keeps h1 h2) : Keeps h h2 := ⟨Nat.le_trans a.n b.n, fun c hc => (b.get c (Nat.lt_of_lt_of_le hc a.n)).trans (a.get c hc)⟩
theorem Keeps.push (h : Heap) (x : Blk) : Keeps h (h.push x) := ⟨by rw [s_n_push]; omega, fun b hb => s_get_push_ne (by omega)⟩
theorem Keeps.push' {h h1 : Heap} (a : Keeps h h1) (x : Blk) : Keeps h (h1.push x) := a.trans (Keeps.push h1 x)
theorem Keeps.set {h h1 : Heap} (a : Keeps h h1) {b : Nat} (hb : h.n ≤ b) (x : Blk) : Keeps h (h1.set b x) := ⟨by rw [Heap.set_n]; exact a.n, fun c hc => by rw [s_get_set_ne (by omega)]; exact a.get c hc⟩
theorem Keeps.some {h h' : Heap} (a : Keeps h h') {b : Nat} {x : Blk} (e : h.get b = some x) : h'.get b = some x := by rw [a.get b (Heap.get_lt e)]; exact e

attribute [go_sem] s_ok s_ok2 s_okB s_brt s_brf s_callV s_gsel_t s_gsel_f s_gsel_tf s_gsel_ft s_gsel_u s_gP_t s_gP_f s_gP_tf s_gP_ft s_gcase_t s_gcase_f s_gcase_tf s_gcase_ft
  s_add s_sub s_mul s_conv s_not s_neg s_oPick_t s_oPick_f s_n_push s_oNil s_oFA s_len s_len_nil s_lenS s_cap s_cap_nil s_ext0 s_ext1 s_ext2 s_get_push_eq s_push_set
end Go.Ax
