/- The examples: awake. -/
import Derived.Test.YtlfmiplojpcklaaNetNetList
set_option linter.unusedSimpArgs false
set_option linter.unusedVariables false
namespace Go.Proofs.Ytlfmiplojpcklaa.Net
open Go.Ax Go.Proofs
section
variable {h h' : Heap} {np mb : Nat} {ps : List Pk} {last : Int} {S : Nat → Prop}
theorem t_mark {h : Heap} {b n l : Nat} {cs : List AVal} {ex : Bool} {K : AVal → Heap → Prop} (e : h.get b = some (.cells cs .own l)) (hn : 0 < n) (k : ∀ h', h'.get b = some (.cells cs .ro l) → Ext (fun c => c = b) h h' → K (.slice b 0 n n 1 ex) h') : ok2 (oMark h (.slice b 0 n n 1 ex)) K := by
  have : oMark h (.slice b 0 n n 1 ex) = some (.slice b 0 n n 1 ex, h.set b (.cells cs .ro l)) := by
    have e1 : oMark h (.slice b 0 n n 1 ex) = if n = 0 then none else (match h.get b with | some (.cells cs .own l) => some (.slice b 0 n n 1 ex, h.set b (.cells cs .ro l)) | _ => none) := rfl
    rw [e1, if_neg (by omega), e]
  rw [this]
  exact k _ (s_get_set_eq (Heap.get_lt e)) ((Ext.refl _ _).set _ fun _ => rfl)
theorem map_one {rs : List Pk} {x : Int} (h : rs.map Pk.num = [x]) : ∃ r, rs = [r] ∧ r.num = x := by
  cases rs with
  | nil => cases h
  | cons a t =>
    cases t with
    | nil => exact ⟨a, rfl, by simpa using h⟩
    | cons b t => simp at h
/-- A text of one byte, as bytes. -/
theorem t_text1 {h : Heap} {n : Int} {K : AVal → Heap → Prop} (k : ∀ v h', Rd h' v [.int .u8 n] → Keeps h h' → (∀ b, OnB v b → h.n ≤ b) → K v h') : ok2 (oBSl h 1 1 [.int .u8 0] [(0, 1, .int .u8 n)]) fun v h2 => ok2 (oMark h2 v) K := by
  rw [s_oBSl1 (k := 1) (x := .int .u8 n) (by omega) rfl rfl rfl rfl]
  simp only [go_sem]
  refine t_mark (s_get_push_eq _ _) (by omega) fun h3 b3 x3 => ?_
  have l3 := x3.n
  rw [s_n_push] at l3
  exact k _ _ (.mk _ _ 1 _ _ _ _ _ _ b3 (by omega) (by omega) (by simp [valCells]) rfl) ⟨by omega, fun b hb => by rw [x3.get b (by rw [s_n_push]; omega) (by omega), s_get_push_ne (by omega)]⟩ (fun b hb => Nat.le_of_eq hb.symm)
theorem awake_is (h : Heap) : FnC X musterlaw08_awake [] h fun v h' => v = .bool true := by
  apply fn_musterlaw08_awake
  unfold vc_musterlaw08_awake
  refine (new_is h).mono fun v h1 ⟨e, N1, k1⟩ => ?_
  subst e
  refine t_text1 fun ta h2 ra k2 fa => ?_
  have N2 := N1.keep k2
  refine (send_is N2 (Nat.zero_lt_succ _) (by omega) ra rfl (Nat.le_of_ble_eq_true rfl) (fun b hb e => by have := fa b hb; have := Heap.get_lt N1.box; omega)).mono fun v h3 ⟨e, ⟨ba, N3, _⟩, _⟩ => ?_
  subst e
  simp only [go_sem]
  refine t_text1 fun tb h4 rb k4 fb => ?_
  have N4 := N3.keep k4
  refine (send_is N4 (by simp) (by omega) rb rfl (Nat.le_of_ble_eq_true rfl) (fun b hb e => by have := fb b hb; have := Heap.get_lt N3.box; omega)).mono fun v h5 ⟨e, ⟨bb, N5, _⟩, _⟩ => ?_
  subst e
  simp only [go_sem]
  obtain ⟨q1, eq1⟩ : ∃ q : Pk, q = ⟨1, 1, 2, ba, [.int .u8 97]⟩ := ⟨_, rfl⟩
  obtain ⟨q2, eq2⟩ : ∃ q : Pk, q = ⟨2, 2, 1, bb, [.int .u8 98]⟩ := ⟨_, rfl⟩
  replace N5 : NetA h5 (h.n + 1) h.n [q1, q2] 2 := by rw [eq1, eq2]; exact N5
  have d : FnC X net_Net_Double [.ptr (h.n + 1) 0, .int .i64 1] h5 (Put h5 (h.n + 1) h.n [q1, q2] 2 1 2 [.int .u8 97]) := by
    have := double_is N5 (by simp) (by omega) (q := q1) (by simp)
    rw [eq1] at this ⊢; exact this
  refine d.mono fun v h6 ⟨e, ⟨bc, N6, _⟩, _⟩ => ?_
  subst e
  simp only [go_sem]
  obtain ⟨q3, eq3⟩ : ∃ q : Pk, q = ⟨3, 1, 2, bc, [.int .u8 97]⟩ := ⟨_, rfl⟩
  have n1 : q1.num = 1 := by rw [eq1]
  have n2 : q2.num = 2 := by rw [eq2]
  have n3 : q3.num = 3 := by rw [eq3]
  replace N6 : NetA h6 (h.n + 1) h.n [q1, q2, q3] 3 := by rw [eq3]; exact N6
  have d : FnC X net_Net_Deliver [.ptr (h.n + 1) 0, .int .i64 3] h6 (Got h6 (h.n + 1) h.n [q1, q2, q3] 3 q3) := by
    have := deliver_is N6 (q := q3) (by simp)
    rw [n3] at this; exact this
  refine d.mono fun v h7 ⟨⟨bd, e, o7, f7⟩, N7, X7⟩ => ?_
  subst e
  simp only [go_sem]
  replace N7 : NetA h7 (h.n + 1) h.n [q1, q2] 3 := by
    have : ([q1, q2, q3].filter fun p => p.num ≠ q3.num) = [q1, q2] := by simp [n1, n2, n3]
    rw [this] at N7; exact N7
  refine t_alloc _ fun h8 b8 k8 e8 => ?_
  refine t_storeN b8 rfl rfl (cells4_ok o7.cell.1) fun h9 b9 x9 => ?_
  have l9 := x9.n
  have N9 := (N7.keep k8).ext x9 fun b hb => by have := N7.foot b hb; omega
  refine (deliver_no N9 (n := 3) (by simp [n1, n2])).mono fun v h10 ⟨e, k10⟩ => ?_
  subst e
  simp only [go_sem]
  refine t_alloc _ fun h11 b11 k11 e11 => ?_
  refine t_storeN b11 rfl rfl zero4_ok fun h12 b12 x12 => ?_
  have l12 := x12.n
  have l10 := k10.n
  have N10 := N9.keep k10
  have N12 := (N10.keep k11).ext x12 fun b hb => by have := N10.foot b hb; omega
  have d : FnC X net_Net_Drop [.ptr (h.n + 1) 0, .int .i64 1] h12 fun v h' => v = .int .i64 0 ∧ NetA h' (h.n + 1) h.n [q2] 3 ∧ Ext (fun b => b = h.n) h12 h' := by
    have := drop_is N12 (q := q1) (by simp)
    have e : ([q1, q2].filter fun p => p.num ≠ q1.num) = [q2] := by simp [n1, n2]
    rw [n1] at this e
    rw [e] at this; exact this
  refine d.mono fun v h13 ⟨e, N13, x13⟩ => ?_
  subst e
  refine (list_is N13).mono fun v h14 ⟨rs, L⟩ => ?_
  have hs : sortI ([q2].map Pk.num) = [2] := by rw [List.map_cons, n2]; rfl
  have hr : rs.map Pk.num = [2] := by rw [L.nums, hs]
  obtain ⟨r, rfl, rn⟩ := map_one hr
  have hbl := Heap.get_lt N7.map
  have bp : h14.get h7.n = some (.cells [.int .i64 q3.num, .int .i64 q3.src, .int .i64 q3.dst, bd] .own h7.n) :=
    L.keeps.some (x13.some (x12.some (k11.some (k10.some b9)) (by omega)) (by omega))
  have o14 : Own h14 1 bd q3.cs := by
    have lt7 := o7.lt
    exact ((((((o7.keep k8).ext x9 fun b hb e => by have := lt7 b hb; omega).keep k10).keep k11).ext x12 fun b hb e => by have := lt7 b hb; omega).ext x13 fun b hb e => by have := f7 b hb; have := Heap.get_lt N6.map; omega).keep L.keeps
  have eb : oBytes h14 bd = some (.str ⟨#[97]⟩) := by
    have := src_bytes (l := [97]) o14.rd.noStr o14.src (by rw [eq3]; rfl)
    exact this
  have w0 : wrapA .i64 (0 + 0) = 0 := wr_i64 (by omega) (by omega)
  obtain ⟨bL, iL, aL, lL⟩ : ∃ b i, oIA 4 v (.int .i64 0) = some (.ptr b i) ∧ oLoad h14 none (.ptr b i) = some (.int .i64 2) := by
    obtain ⟨b, i, m, ln, cs, ha, hb, hi, hc⟩ := L.sl.at Pk.cells_len (show 0 < [r].length by simp)
    refine ⟨b, i, ha .i64, ?_⟩
    rw [s_load1 hb]
    have := hc 0 (by decide)
    rw [Nat.add_zero] at this
    rw [this]; show some (AVal.int .i64 r.num) = _; rw [rn]
  have lenL : oLen v = some (.int .i64 1) := L.sl.len
  have c0 : ∀ a : Int, decide (a = a) = true := fun a => by simp
  have e01 : (0 : Int) + 1 = 1 := rfl
  have e02 : (1 : Int) + 1 = 2 := rfl
  have e03 : (2 : Int) + 1 = 3 := rfl
  have q31 : q3.src = 1 := by rw [eq3]
  have q32 : q3.dst = 2 := by rw [eq3]
  simp only [go_sem, w0, s_eql, e01, e02, e03, c0, s_load1 bp, n3, q31, q32, eb, s_eqlS, decide_true, lenL, aL, lL]
end
end Go.Proofs.Ytlfmiplojpcklaa.Net
