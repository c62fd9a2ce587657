/- slices.Insert of cuts, run where the row's room is known. -/
import Derived.Test.YtlfmiplojpcklaaGreatAxInsT
import Derived.Test.YtlfmiplojpcklaaGreatAxSa
set_option linter.unusedSimpArgs false
set_option linter.unusedVariables false
namespace Go.Proofs.YtlfmiplojpcklaaGreat.Ins
open Go.Ax Go.Proofs
section
variable {h : Heap} {b o n i bv iv cv ev ln lv : Nat} {xv : Bool} {cs cv0 new : List AVal} {md mv : Go.Ax.Mode}
/-- No room: a new row. -/
theorem ins_out (hb : h.get b = some (.cells cs md ln)) (hv : h.get bv = some (.cells cv0 mv lv)) (hs : srcCells h 2 (.slice bv iv 1 cv ev xv) = some (1, new)) (hn2 : new.length = 2) (hi : i < n) (ho : o + n * 2 = cs.length) (hcs : cs.all cellOk = true) (hnew : new.all cellOk = true) (hbig : (n + 1) * 16 ≤ 35184372088832) :
    FnIs X slices_Insert_L_api_Cut_api_Cut [.slice b o n n 2 true, .int .i64 (i : Int), .slice bv iv 1 cv ev xv] h (.slice h.n 0 (n + 1) (n + 1) 2 false) (h.push (.cells ((cs.drop o).take (i * 2) ++ (new ++ cs.drop (o + i * 2))) .own h.n)) := by
  refine FnIs.of (fn_slices_Insert_L_api_Cut_api_Cut ?_)
  unfold vc_slices_Insert_L_api_Cut_api_Cut
  have e0 : ¬ ((1 : Nat) : Int) = 0 := by decide
  have e1 : ¬ (i : Int) = (n : Int) := by omega
  have w1 : wrapA .i64 ((n : Int) + ((1 : Nat) : Int)) = ((n + 1 : Nat) : Int) := by rw [wr_i64 (by omega) (by omega)]; omega
  have w2 : wrapA .i64 (((n + 1 : Nat) : Int) - (i : Int)) = ((n + 1 - i : Nat) : Int) := by rw [wr_i64 (by omega) (by omega)]; omega
  have w3 : wrapA .i64 ((i : Int) + ((1 : Nat) : Int)) = ((i + 1 : Nat) : Int) := by rw [wr_i64 (by omega) (by omega)]; omega
  have c1 : ((n : Int) < ((n + 1 : Nat) : Int)) := by omega
  simp only [go_sem, s_sl_lo (show i ≤ n by omega), s_sl_hi (show i ≤ n by omega), s_eql, e0, e1, decide_false, w1, w2, w3, s_gtr, c1, decide_true]
  have hbl := Heap.get_lt hb
  have hvl := Heap.get_lt hv
  have hP : ((cs.drop o).take (i * 2)).length = i * 2 := by rw [List.length_take, List.length_drop]; omega
  have hPok : ((cs.drop o).take (i * 2)).all cellOk = true := by
    rw [List.all_eq_true] at hcs ⊢
    exact fun x hx => hcs x (List.mem_of_mem_drop (List.mem_of_mem_take hx))
  have hSok : (cs.drop (o + i * 2)).all cellOk = true := by
    rw [List.all_eq_true] at hcs ⊢
    exact fun x hx => hcs x (List.mem_of_mem_drop hx)
  have hZ := rep_len [.int .i64 0, .int .i64 0] (n + 1 - i)
  have hZok := rep_ok (z := [.int .i64 0, .int .i64 0]) rfl (n + 1 - i)
  have eA : appendZA h 2 16 [.int .i64 0, .int .i64 0] (.slice b o i n 2 true) (.int .i64 ((n + 1 - i : Nat) : Int)) = some (.slice h.n 0 (n + 1) (n + 1) 2 false, h.push (.cells ((cs.drop o).take (i * 2) ++ repCells [.int .i64 0, .int .i64 0] (n + 1 - i)) .own h.n)) := by
    rw [appendZA_eq (by omega), appendN_out hb (by omega) (by omega) (by omega) (by decide) hZok (by omega) hPok]
    rw [show i + (n + 1 - i) = n + 1 by omega]
  generalize hPe : (cs.drop o).take (i * 2) = P at *
  generalize hSe : cs.drop (o + i * 2) = S at *
  have hS : S.length = (n - i) * 2 := by rw [← hSe, List.length_drop]; omega
  generalize repCells [.int .i64 0, .int .i64 0] (n + 1 - i) = Z at *
  have hZ2 : Z.length = (n + 1 - i) * 2 := hZ
  have eC : copyA (h.push (.cells (P ++ Z) .own h.n)) 2 (.slice h.n (0 + i * 2) (n + 1 - i) (n + 1 - i) 2 false) (.slice bv iv 1 cv ev xv) = some (.int .i64 ((1 : Nat) : Int), h.push (.cells (P ++ (new ++ Z.drop 2)) .own h.n)) := by
    refine copyA_some (k := 1) (by rw [srcCells_push hvl]; exact hs) (by have := Nat.min_eq_left (show 1 ≤ n + 1 - i by omega); exact this) (by decide) (by omega) ?_
    rw [s_writeRow (s_get_push_eq _ _) (s_putCells (by rw [List.length_take, List.length_append, hn2]; omega) (by rw [List.take_of_length_le (by omega)]; exact hnew)), s_push_set]
    rw [List.take_of_length_le (show new.length ≤ 1 * 2 by omega), Nat.zero_add, take_app hP, hn2, drop_app hP]
  have eE : copyA (h.push (.cells (P ++ (new ++ Z.drop 2)) .own h.n)) 2 (.slice h.n (0 + (i + 1) * 2) (n + 1 - (i + 1)) (n + 1 - (i + 1)) 2 false) (.slice b (o + i * 2) (n - i) (n - i) 2 true) = some (.int .i64 ((n - i : Nat) : Int), h.push (.cells (P ++ (new ++ S)) .own h.n)) := by
    refine copyA_some (m := n - i) (sc := S) (k := n - i) ?_ (by rw [show n + 1 - (i + 1) = n - i by omega]; exact Nat.min_self _) (by omega) (by omega) ?_
    · rw [srcCells_push hbl, srcCells_of hb (by omega) (by omega), hSe, List.take_of_length_le (by omega)]
    · rw [List.take_of_length_le (show S.length ≤ (n - i) * 2 by omega)]
      have hPn : (P ++ new).length = (i + 1) * 2 := by rw [List.length_append, hP, hn2]; omega
      rw [← List.append_assoc]
      rw [s_writeRow (s_get_push_eq _ _) (s_putCells (by rw [List.length_append, hPn, List.length_drop]; omega) hSok), s_push_set]
      rw [Nat.zero_add, take_app hPn, drop_app hPn, List.drop_of_length_le (by rw [List.length_drop]; omega), List.append_nil, List.append_assoc]
  simp only [go_sem, eA, s_sl_lo (show i ≤ n + 1 by omega), s_sl_lo (show i + 1 ≤ n + 1 by omega), eC, eE]
  simp only [and_self]
/-- There is room: in place. h1: the row as the writer's own. -/
theorem ins_in {C : Nat} {U : List AVal} {h1 : Heap} (hb : h.get b = some (.cells (cs ++ U) md ln)) (hv : h.get bv = some (.cells cv0 .own lv)) (hs : srcCells h 2 (.slice bv iv 1 cv ev xv) = some (1, new)) (hn2 : new.length = 2) (hi : i < n) (ho : o + n * 2 = cs.length) (hcs : cs.all cellOk = true) (hnew : new.all cellOk = true)
    (hC : n + 1 ≤ C) (hU : U.length = (C - n) * 2) (hbv : b ≠ bv) (hcv : 0 < cv) (hev : ev = 2) (hbig : (n + 1) * 16 ≤ 35184372088832) (hw : ∀ f cs', f (cs ++ U) = some cs' → writeRow h b f = some (h1.set b (.cells cs' .own ln))) (h1v : ∀ s, srcCells (h1.set b s) 2 (.slice bv iv 1 cv ev xv) = some (1, new)) (h1b : b < h1.n) :
    FnIs X slices_Insert_L_api_Cut_api_Cut [.slice b o n C 2 true, .int .i64 (i : Int), .slice bv iv 1 cv ev xv] h (.slice b o (n + 1) C 2 true) (h1.set b (.cells (cs.take (o + i * 2) ++ (new ++ (cs.drop (o + i * 2) ++ U.drop 2))) .own ln)) := by
  refine FnIs.of (fn_slices_Insert_L_api_Cut_api_Cut ?_)
  unfold vc_slices_Insert_L_api_Cut_api_Cut
  have e0 : ¬ ((1 : Nat) : Int) = 0 := by decide
  have e1 : ¬ (i : Int) = (n : Int) := by omega
  have w1 : wrapA .i64 ((n : Int) + ((1 : Nat) : Int)) = ((n + 1 : Nat) : Int) := by rw [wr_i64 (by omega) (by omega)]; omega
  have w3 : wrapA .i64 ((i : Int) + ((1 : Nat) : Int)) = ((i + 1 : Nat) : Int) := by rw [wr_i64 (by omega) (by omega)]; omega
  have c1 : ¬ ((C : Int) < ((n + 1 : Nat) : Int)) := by omega
  subst hev
  have eO : FnIs X slices_overlaps_api_Cut [.slice bv iv 1 cv 2 xv, .slice b (o + (i + 1) * 2) (n + 1 - (i + 1)) (C - (i + 1)) 2 true] h (.bool false) h := by
    refine FnIs.known (g := ovlG) (by kernel_rfl) ?_
    unfold ovlG
    simp only [hv, hb]
    rw [if_pos ⟨Ne.symm hbv, hcv, by omega, by decide⟩]
  generalize hPe : cs.take (o + i * 2) = P
  generalize hSe : cs.drop (o + i * 2) = S
  have hcsP : cs = P ++ S := by rw [← hPe, ← hSe, List.take_append_drop]
  have hP : P.length = o + i * 2 := by rw [← hPe, List.length_take]; omega
  have hS : S.length = (n - i) * 2 := by rw [← hSe, List.length_drop]; omega
  have hSok : S.all cellOk = true := by
    rw [hcsP, List.all_append, Bool.and_eq_true] at hcs; exact hcs.2
  rw [hcsP] at hb hw
  rw [List.append_assoc] at hb hw
  obtain ⟨S1, hS1, hS1l⟩ : ∃ S1, (S ++ U).take 2 = S1 ∧ S1.length = 2 := ⟨_, rfl, by rw [List.length_take, List.length_append]; omega⟩
  have eC : copyA h 2 (.slice b (o + (i + 1) * 2) (n + 1 - (i + 1)) (C - (i + 1)) 2 true) (.slice b (o + i * 2) (n + 1 - i) (C - i) 2 true) = some (.int .i64 ((n - i : Nat) : Int), h1.set b (.cells (P ++ (S1 ++ (S ++ U.drop 2))) .own ln)) := by
    refine copyA_some (m := n + 1 - i) (sc := ((P ++ (S ++ U)).drop (o + i * 2)).take ((n + 1 - i) * 2)) (k := n - i) (srcCells_of hb (by omega) (by rw [List.length_append, List.length_append]; omega)) (by rw [show n + 1 - (i + 1) = n - i by omega]; exact Nat.min_eq_right (by omega)) (by omega) (by omega) ?_
    have eT : (((P ++ (S ++ U)).drop (o + i * 2)).take ((n + 1 - i) * 2)).take ((n - i) * 2) = S := by
      rw [List.take_take, Nat.min_eq_left (by omega)]
      have := drop_app (r := S ++ U) (m := 0) hP
      rw [Nat.add_zero, List.drop_zero] at this
      rw [this, take_app hS]
    rw [eT]
    refine (hw _ _ (s_putCells (by rw [List.length_append, List.length_append]; omega) hSok)).trans ?_
    have e1 : (P ++ (S ++ U)).take (o + (i + 1) * 2) = P ++ S1 := by
      rw [List.take_append, List.take_of_length_le (by omega), ← hS1]
      congr 2; omega
    have e2 : (P ++ (S ++ U)).drop (o + (i + 1) * 2 + S.length) = U.drop 2 := by
      rw [show o + (i + 1) * 2 + S.length = (o + i * 2) + (S.length + 2) by omega, drop_app hP, drop_app rfl]
    rw [e1, e2, List.append_assoc]
  have eE : copyA (h1.set b (.cells (P ++ (S1 ++ (S ++ U.drop 2))) .own ln)) 2 (.slice b (o + i * 2) (n + 1 - i) (C - i) 2 true) (.slice bv iv 1 cv 2 xv) = some (.int .i64 ((1 : Nat) : Int), h1.set b (.cells (P ++ (new ++ (S ++ U.drop 2))) .own ln)) := by
    refine copyA_some (m := 1) (sc := new) (k := 1) (h1v _) (Nat.min_eq_left (by omega)) (by decide) (by omega) ?_
    rw [List.take_of_length_le (show new.length ≤ 1 * 2 by omega)]
    rw [s_writeRow (s_get_set_eq h1b) (s_putCells (by rw [List.length_append, List.length_append]; omega) hnew), s_set_set]
    rw [take_app hP, hn2, drop_app hP, drop_app0 hS1l]
  simp only [go_sem, s_sl_lo (show i ≤ n by omega), s_sl_lo (show i ≤ n + 1 by omega), s_sl_lo (show i + 1 ≤ n + 1 by omega), s_sl_hi (show n + 1 ≤ C by omega), s_eql, e0, e1, decide_false, w1, w3, s_gtr, c1, eO.eq, Bool.not_false, eC, eE]
  simp only [and_self]
end
end Go.Proofs.YtlfmiplojpcklaaGreat.Ins
