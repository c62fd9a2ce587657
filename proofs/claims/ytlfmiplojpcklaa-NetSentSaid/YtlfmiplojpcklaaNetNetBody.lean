/- The bytes that are sent: Pick, Made, body. -/
import Derived.Test.YtlfmiplojpcklaaNetNetSpares
set_option linter.unusedSimpArgs false
set_option linter.unusedVariables false
namespace Go.Proofs.Ytlfmiplojpcklaa.Net
open Go.Ax Go.Proofs
theorem pick_is (h : Heap) (x n : Int) (h0 : 0 < n) (h1 : n < 1000000000) : ∃ w : Int, 0 ≤ w ∧ w < n ∧ FnIs X musterlow_Pick [.int .i64 x, .int .i64 n] h (.int .i64 w) h := by
  have ht := Int.tmod_lt_of_pos x h0
  have hneg : -n < Int.tmod x n := by
    have := Int.lt_tmod_of_pos x h0
    omega
  refine ⟨if Int.tmod x n < 0 then Int.tmod x n + n else Int.tmod x n, by split <;> omega, by split <;> omega, FnIs.of (fn_musterlow_Pick ?_)⟩
  unfold vc_musterlow_Pick
  refine t_leq (fun hh => by omega) fun hh => ?_
  simp only [go_sem, s_rem _ _ _ (show n ≠ 0 by omega)]
  refine ⟨fun v h' => v = .int .i64 (if Int.tmod x n < 0 then Int.tmod x n + n else Int.tmod x n) ∧ h' = h, ?_, ?_⟩
  · unfold vc_musterlow_Pick_R1
    exact fun _ _ h => h
  · unfold vc_musterlow_Pick_A1
    refine t_lss (fun hh => ?_) fun hh => ?_
    · simp only [go_sem, wr_i64 (show -9223372036854775808 ≤ Int.tmod x n + n by omega) (by omega), if_pos hh]
    · simp only [go_sem, if_neg hh]
/-- What Made turns its number to, round by round. -/
def madeX (s : Int) : Nat → Int
  | 0 => wrapA .u64 (wrapA .u64 (wrapA .u64 s * 2862933555777941757) + 3037000493)
  | i + 1 => if i % 8 = 0 then wrapA .u64 (wrapA .u64 (madeX s i * 2862933555777941757) + 3037000493) else madeX s i
def madeB (s : Int) (i : Nat) : Int := wrapA .u8 ((madeX s (i + 1)).fdiv (2 ^ 40))
def madeL (s : Int) (n : Nat) : List AVal := (List.range n).map fun i => .int .u8 (madeB s i)
theorem madeL_len (s : Int) (n : Nat) : (madeL s n).length = n := by simp [madeL]
theorem madeL_ok (s : Int) (n : Nat) : (madeL s n).all cellOk = true := by
  rw [List.all_eq_true]; intro x hx; obtain ⟨i, _, rfl⟩ := List.mem_map.1 hx; rfl
theorem s_shr40 (a : Int) : binA .shr (.int .u64 a) (.int .u64 40) = some (.int .u64 (a.fdiv (2 ^ 40))) := of_rfl rfl
theorem s_shr8 (a : Int) : binA .shr (.int .i64 a) (.int .u64 8) = some (.int .i64 (a.fdiv (2 ^ 8))) := of_rfl rfl
theorem made_is (h : Heap) (s : Int) (n : Nat) (hn : n ≤ 1000) : FnC X musterlow_Made [.int .i64 s, .int .i64 n] h fun v h' => v = .slice h.n 0 n n 1 true ∧ h'.get h.n = some (.cells (madeL s n) .own h.n) ∧ Keeps h h' := by
  apply fn_musterlow_Made
  unfold vc_musterlow_Made
  simp only [go_sem, s_oMSl (show n ≤ 1073741824 by omega)]
  generalize hv9 : AVal.slice h.n 0 n n 1 true = v9
  refine ⟨fun m x i h2 => ∃ (k : Nat) (cs : List AVal), m = n - k ∧ k ≤ n ∧ x = .int .u64 (madeX s k) ∧ i = .int .i64 k ∧ h2.get h.n = some (.cells cs .own h.n) ∧ cs.length = n ∧ (∀ j, j < k → cs[j]? = some (.int .u8 (madeB s j))) ∧ Keeps h h2, ⟨_, 0, _, rfl, by omega, rfl, rfl, s_get_push_eq _ _, List.length_replicate, fun j hj => by omega, Keeps.push _ _⟩, ?_⟩
  unfold vc_musterlow_Made_L1
  rintro m x i h2 ⟨k, cs, rfl, hk, rfl, rfl, hb, hl, hc, hkp⟩
  refine t_lss (fun hlt => ?_) fun hlt => ?_
  · have hk' : k < n := by omega
    simp only [go_sem]
    refine ⟨fun x h3 => x = .int .u64 (madeX s (k + 1)) ∧ h3 = h2, ?_, ?_⟩
    · unfold vc_musterlow_Made_R2
      rintro x h3 ⟨rfl, e3⟩
      rw [e3]
      have ei : oIA 1 v9 (.int .i64 (k : Int)) = some (.ptr h.n k) := by rw [← hv9, s_oIA (by omega) (by omega) (by omega)]; simp
      have w1 : wrapA .i64 ((k : Int) + 1) = ((k + 1 : Nat) : Int) := by rw [wr_i64 (by omega) (by omega)]; rfl
      simp only [go_sem, s_shr40, ei]
      refine t_store hb (by omega) rfl rfl fun h4 b4 x4 => ?_
      simp only [go_sem, w1]
      have l4 := x4.n
      refine ⟨_, ?_, k + 1, _, rfl, hk', rfl, rfl, b4, by rw [List.length_set]; exact hl, fun j hj => ?_, ?_⟩
      · omega
      · rw [List.getElem?_set]
        by_cases e : k = j
        · subst e; rw [if_pos rfl, if_pos (by omega)]; rfl
        · rw [if_neg e]; exact hc j (by omega)
      · exact ((Ext.of hkp fun _ => False).trans x4 fun c hc e => by omega).keeps fun _ _ h => h
    · unfold vc_musterlow_Made_A2
      have hr : Int.tmod (k : Int) 8 = ((k % 8 : Nat) : Int) := by rw [Int.tmod_eq_emod_of_nonneg (by omega)]; omega
      simp only [go_sem, s_rem _ _ _ (show (8 : Int) ≠ 0 by decide), hr]
      refine t_eql (fun h => ?_) fun h => ?_
      · simp only [go_sem, madeX, if_pos (show k % 8 = 0 by omega)]
      · simp only [go_sem, madeX, if_neg (show ¬ k % 8 = 0 by omega)]
  · have : k = n := by omega
    subst this
    simp only [go_sem]
    refine ⟨?_, hkp⟩
    rw [hb]
    have : cs = madeL s k := by
      refine List.ext_getElem? fun j => ?_
      by_cases hj : j < k
      · rw [hc j hj]; simp [madeL, hj]
      · rw [List.getElem?_eq_none (by omega), List.getElem?_eq_none (by rw [madeL_len]; omega)]
    rw [this]
/-- What is sent as the so-manyth. -/
def bodyC (k : Nat) : List AVal := [.int .u8 (wrapA .u8 ((k : Int).fdiv (2 ^ 8))), .int .u8 (wrapA .u8 k)] ++ madeL k (k % 20)
theorem bodyC_ok (k : Nat) : (bodyC k).all cellOk = true := by unfold bodyC; rw [List.all_append, madeL_ok]; rfl
theorem bodyC_len (k : Nat) : (bodyC k).length = 2 + k % 20 := by unfold bodyC; rw [List.length_append, madeL_len]; rfl
theorem bodyC_U8 (k : Nat) : U8 (bodyC k) := by
  refine ⟨[wrapA .u8 ((k : Int).fdiv (2 ^ 8)), wrapA .u8 k] ++ (List.range (k % 20)).map (madeB k), ?_⟩
  unfold bodyC madeL
  rw [List.map_append, List.map_map]; rfl
theorem body_is (h : Heap) (k : Nat) (hk : k < 1000000) : FnC X musterlaw08_body [.int .i64 k] h fun v h' => Rd h' v (bodyC k) ∧ Keeps h h' ∧ ∀ b, OnB v b → h.n ≤ b := by
  apply fn_musterlaw08_body
  unfold vc_musterlaw08_body
  have hr : Int.tmod (k : Int) 20 = ((k % 20 : Nat) : Int) := by rw [Int.tmod_eq_emod_of_nonneg (by omega)]; omega
  have c1 : Cell1 (.int .u8 (wrapA .u8 ((k : Int).fdiv (2 ^ 8)))) := ⟨rfl, rfl, rfl⟩
  have c2 : Cell1 (.int .u8 (wrapA .u8 (k : Int))) := ⟨rfl, rfl, rfl⟩
  have eb : ∀ x0 x1 : AVal, Cell1 x0 → Cell1 x1 → oBSl h 2 1 [.int .u8 0] [(0, 1, x0), (1, 1, x1)] = some (.slice h.n 0 2 2 1 true, h.push (.cells [x0, x1] .own h.n)) := by
    intro x0 x1 h0 h1
    have e1 : (mapL (fun p : Nat × Nat × Arg => (p.1, p.2.1, p.2.2.eval .leaf)) (vP [(0, 1, x0), (1, 1, x1)])) = [(0, 1, x0), (1, 1, x1)] := rfl
    have : m_buildSlice .leaf h.n 2 1 [.int .u8 0] (vP [(0, 1, x0), (1, 1, x1)]) = some (.slice h.n 0 2 2 1 true, .cells [x0, x1] .own h.n) := by
      unfold m_buildSlice
      rw [e1]
      have e2 : repCells [.int .u8 0] 2 = [.int .u8 0, .int .u8 0] := rfl
      rw [e2]
      simp [fillA, h0.unk, h1.unk, h0.cells, h1.cells, lenL_eq, takeL_eq, dropL_eq, appL_eq, allL_eq, h0.ok, h1.ok]
    unfold oBSl; rw [this]; rfl
  simp only [go_sem, s_shr8, eb _ _ c1 c2, s_rem _ _ _ (show (20 : Int) ≠ 0 by decide), hr]
  refine (made_is _ k (k % 20) (by omega)).mono fun v h2 ⟨e, b2, k2⟩ => ?_
  subst e
  have hb0 : h2.get h.n = some (.cells [.int .u8 (wrapA .u8 ((k : Int).fdiv (2 ^ 8))), .int .u8 (wrapA .u8 k)] .own h.n) := k2.some (s_get_push_eq _ _)
  have K2 : Keeps h h2 := (Keeps.push _ _).trans k2
  replace b2 : h2.get (h.n + 1) = some (.cells (madeL k (k % 20)) .own (h.n + 1)) := b2
  have hm := madeL_len k (k % 20)
  have hmo := madeL_ok k (k % 20)
  have hmo' : (!(madeL k (k % 20)).all cellOk) = false := by rw [hmo]; rfl
  by_cases h0 : k % 20 = 0
  · have ea : appendA h2 1 1 (.slice h.n 0 2 2 1 true) (.slice (h.n + 1) 0 (k % 20) (k % 20) 1 true) = some (.slice h.n 0 2 2 1 true, h2) := by
      rw [h0]; rfl
    simp only [go_sem, ea]
    refine ⟨?_, K2, fun b hb => Nat.le_of_eq hb.symm⟩
    unfold bodyC
    rw [h0]
    exact .mk _ 0 2 2 true _ _ _ _ hb0 (by omega) (by omega) (by simp) rfl
  · have ea : appendA h2 1 1 (.slice h.n 0 2 2 1 true) (.slice (h.n + 1) 0 (k % 20) (k % 20) 1 true) = some (.slice h2.n 0 (2 + k % 20) (2 + k % 20) 1 false, h2.push (.cells (bodyC k) .own h2.n)) := by
      unfold appendA
      rw [srcCells_of b2 (by omega) (by omega), List.drop_zero, List.take_of_length_le (by omega)]
      simp only
      unfold appendN
      rw [allL_eq, hmo']
      simp only [Bool.false_eq_true, if_false]
      rw [if_neg h0, if_neg (by omega), if_neg (by omega)]
      simp only [if_true]
      rw [if_neg (by omega), s_rowOf hb0]
      simp only [lenL_eq, takeL_eq, dropL_eq, allL_eq, appL_eq]
      rfl
    simp only [go_sem, ea]
    exact ⟨.mk _ 0 (2 + k % 20) _ false (bodyC k) _ _ _ (s_get_push_eq _ _) (by omega) (Nat.le_refl _) (by rw [bodyC_len]; omega) (by rw [List.drop_zero, List.take_of_length_le (by rw [bodyC_len]; omega)]), K2.push' _, fun b hb => by have := K2.n; have : b = h2.n := hb; omega⟩
end Go.Proofs.Ytlfmiplojpcklaa.Net
/- NetSent: what is delivered is what was sent. -/
set_option linter.unusedSimpArgs false
set_option linter.unusedVariables false
namespace Go.Proofs.Ytlfmiplojpcklaa.Net
open Go.Ax Go.Proofs
theorem s_shl8 (a : Int) : binA .shl (.int .i64 a) (.int .u64 8) = some (.int .i64 (wrapA .i64 (a * 2 ^ 8))) := of_rfl rfl
def orV (a b : Int) : Int := wrapA .i64 (BitVec.ofInt 64 a ||| BitVec.ofInt 64 b).toNat
theorem s_or64 (a b : Int) : binA .or (.int .i64 a) (.int .i64 b) = some (.int .i64 (orV a b)) := of_rfl rfl
theorem two_bytes : ∀ k : Nat, k < 400 → orV (wrapA .i64 (wrapA .i64 (wrapA .u8 ((k : Int).fdiv (2 ^ 8))) * 2 ^ 8)) (wrapA .i64 (wrapA .u8 (k : Int))) = (k : Int) := by
  decide +kernel
theorem g2' (a b c : AVal) (l : List AVal) : (a :: b :: c :: l)[2]? = some c := of_rfl rfl
/-- What the law remembers of what was sent. -/
structure Mem (h : Heap) (sb ob gb : Nat) (S : Nat) (ow : List Int) : Prop where
  sent : h.get sb = some (.cells [.int .i64 S] .own sb)
  optr : h.get ob = some (.cells [.slice gb 0 400 400 1 true] .own ob)
  row : h.get gb = some (.cells (ow.map fun n => .int .i64 n) .own gb)
  len : ow.length = 400
theorem Mem.ext {h h' : Heap} {sb ob gb S : Nat} {ow : List Int} {P : Nat → Prop} (m : Mem h sb ob gb S ow) (x : Ext P h h') (h1 : ¬ P sb) (h2 : ¬ P ob) (h3 : ¬ P gb) : Mem h' sb ob gb S ow :=
  ⟨x.some m.sent h1, x.some m.optr h2, x.some m.row h3, m.len⟩
theorem Mem.keep {h h' : Heap} {sb ob gb S : Nat} {ow : List Int} (m : Mem h sb ob gb S ow) (k : Keeps h h') : Mem h' sb ob gb S ow :=
  m.ext (Ext.of k fun _ => False) id id id
theorem Mem.load {h : Heap} {sb ob gb S : Nat} {ow : List Int} (m : Mem h sb ob gb S ow) {n : Nat} (hn : n < 400) {x : Int} (hx : ow[n]? = some x) : oIA 1 (.slice gb 0 400 400 1 true) (.int .i64 (n : Int)) = some (.ptr gb n) ∧ oLoad h none (.ptr gb n) = some (.int .i64 x) := by
  refine ⟨by rw [s_oIA (by omega) (by omega) (by omega)]; simp, ?_⟩
  rw [s_load1 m.row, List.getElem?_map, hx]; rfl
theorem dlv_is {h : Heap} {sb ob gb S : Nat} {ow : List Int} (m : Mem h sb ob gb S ow) {n k : Nat} {body : AVal} (hb : Rd h body (bodyC k)) (hk : k < S) (hS : S ≤ 400) (hn : n < 400) (how : ow[n]? = some ((k : Int) + 1)) :
    FnC X musterlaw08_NetSent_1 [.agg [.int .i64 n, .int .i64 k, .int .i64 ((k : Int) + 1), body], .int .i64 0, .ptr sb 0, .ptr ob 0] h fun v h' => v = .bool true ∧ Keeps h h' := by
  apply fn_musterlaw08_NetSent_1
  unfold vc_musterlaw08_NetSent_1
  refine t_box (cells4_ok hb.cell.1) fun h1 b1 k1 n1 => ?_
  have hb1 := hb.keep k1
  have m1 := m.keep k1
  have d0 : decide ((0 : Int) ≠ 0) = false := rfl
  have hlen : ¬ (((bodyC k).length : Int) < 2) := by rw [bodyC_len]; omega
  obtain ⟨p0, o0, a0, l0⟩ := sl_get hb1.sl (j := 0) (by rw [bodyC_len]; omega)
  obtain ⟨p1, o1, a1, l1⟩ := sl_get hb1.sl (j := 1) (by rw [bodyC_len]; omega)
  have e0 : (bodyC k)[0]'(by rw [bodyC_len]; omega) = .int .u8 (wrapA .u8 ((k : Int).fdiv (2 ^ 8))) := rfl
  have e1 : (bodyC k)[1]'(by rw [bodyC_len]; omega) = .int .u8 (wrapA .u8 (k : Int)) := rfl
  rw [e0] at l0
  rw [e1] at l1
  have a0' : oIA 1 body (.int .i64 0) = some (.ptr p0 o0) := a0 .i64
  have a1' : oIA 1 body (.int .i64 1) = some (.ptr p1 o1) := a1 .i64
  have hlt : ((k : Int) < (S : Int)) := by omega
  have w1 : wrapA .i64 ((k : Int) + 1) = (k : Int) + 1 := wr_i64 (by omega) (by omega)
  simp only [go_sem, s_neq, d0, s_load1 b1, hb1.len, s_lss, hlen, decide_false, a0', l0, a1', l1, s_shl8, s_or64, two_bytes k (by omega), s_load1 m1.sent, hlt, decide_true, s_eql, w1]
  refine (body_is h1 k (by omega)).mono fun v h2 ⟨r2, k2, f2⟩ => ?_
  have b2 := k2.some b1
  have m2 := m1.keep k2
  have sm := same_is (hb1.keep k2).src r2.src (bodyC_U8 k) hb.noStr r2.noStr
  obtain ⟨oa, ol⟩ := m2.load hn how
  simp only [go_sem, s_load1 b2, sm.eq, s_load1 m2.optr, oa, ol, s_eql, decide_true, w1]
  exact k1.trans k2
end Go.Proofs.Ytlfmiplojpcklaa.Net
