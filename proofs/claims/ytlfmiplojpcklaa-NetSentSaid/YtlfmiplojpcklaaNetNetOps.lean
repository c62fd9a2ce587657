/- The net's functions: find, Send, Deliver, Double. -/
import Derived.Test.YtlfmiplojpcklaaNetNetFns
set_option linter.unusedSimpArgs false
set_option linter.unusedVariables false
namespace Go.Proofs.Ytlfmiplojpcklaa.Net
open Go.Ax Go.Proofs
section
variable {h h' : Heap} {np mb : Nat} {ps : List Pk} {last : Int} {S : Nat → Prop}
theorem zero4_ok : ([.int .i64 0, .int .i64 0, .int .i64 0, .nilSlice] : List AVal).all cellOk = true := by rfl
theorem Pk.all_ok {q : Pk} (hv : cellOk q.body = true) : q.cells.all cellOk = true := cells4_ok hv
theorem find_is (hn : NetA h np mb ps last) {q : Pk} (hq : q ∈ ps) : FnC X net_Net_find [.ptr np 0, .int .i64 q.num] h fun v h' => v = .tup [.agg q.cells, .int .i64 0] ∧ Keeps h h' := by
  apply fn_net_Net_find
  unfold vc_net_Net_find
  refine t_alloc _ fun h1 b1 k1 n1 => ?_
  have hn1 := hn.keep k1
  have hc : q.cells.all cellOk = true := Pk.all_ok (hn.own q hq).cell.1
  simp only [go_sem, (none_is hn1).eq, s_load1 hn1.box, Nat.add_zero, g0, s_look hn1.map (find_some hq hn.nd), ansA]
  refine t_alloc _ fun h4 b4 k4 n4 => ?_
  refine t_storeN b4 rfl rfl hc fun h5 b5 x5 => ?_
  simp only [go_sem, Bool.not_true, load4 b5 rfl]
  refine t_storeN (x5.some (k4.some b1) (by omega)) rfl rfl hc fun h7 b7 x7 => ?_
  simp only [go_sem, load4 b7 rfl]
  refine ⟨by have := x7.n; have := x5.n; omega, fun b hb => ?_⟩
  rw [x7.get b (by have := x5.n; omega) (by omega), x5.get b (by omega) (by omega), k4.get b (by omega), k1.get b hb]
theorem find_no (hn : NetA h np mb ps last) {n : Int} (hq : ∀ q ∈ ps, q.num ≠ n) : FnC X net_Net_find [.ptr np 0, .int .i64 n] h fun v h' => v = .tup [.agg [.int .i64 0, .int .i64 0, .int .i64 0, .nilSlice], .int .i64 80] ∧ Keeps h h' := by
  apply fn_net_Net_find
  unfold vc_net_Net_find
  refine t_alloc _ fun h1 b1 k1 n1 => ?_
  have hn1 := hn.keep k1
  have eb : oBuild [.int .i64 0, .int .i64 0, .int .i64 0, .nilSlice] [] = some (.agg [.int .i64 0, .int .i64 0, .int .i64 0, .nilSlice]) := of_rfl rfl
  simp only [go_sem, (none_is hn1).eq, s_load1 hn1.box, Nat.add_zero, g0, s_look hn1.map (find_none hq), ansA]
  refine t_alloc _ fun h4 b4 k4 n4 => ?_
  refine t_storeN b4 rfl rfl zero4_ok fun h5 b5 x5 => ?_
  simp only [go_sem, Bool.not_false, eb]
  refine t_storeN (x5.some (k4.some b1) (by omega)) rfl rfl zero4_ok fun h7 b7 x7 => ?_
  simp only [go_sem, load4 b7 rfl]
  refine ⟨by have := x7.n; have := x5.n; omega, fun b hb => ?_⟩
  rw [x7.get b (by have := x5.n; omega) (by omega), x5.get b (by omega) (by omega), k4.get b (by omega), k1.get b hb]
/-- One more, and its number. -/
structure Put (h : Heap) (np mb : Nat) (ps : List Pk) (last src dst : Int) (cs : List AVal) (v : AVal) (h' : Heap) : Prop where
  val : v = .tup [.int .i64 (last + 1), .int .i64 0]
  net : ∃ body', NetA h' np mb (ps ++ [⟨last + 1, src, dst, body', cs⟩]) (last + 1) ∧ ∀ b, OnB body' b → h.n ≤ b
  ext : Ext (fun b => b = np ∨ b = mb) h h'
theorem send_is (hn : NetA h np mb ps last) (hfew : ps.length < 256) (hlast : last < 1000000000) {src dst : Int} {body : AVal} {cs : List AVal} (ho : Rd h body cs) (hok : cs.all cellOk = true) (hlen : cs.length ≤ 65545) (hb : ∀ b, OnB body b → b ≠ np) :
    FnC X net_Net_Send [.ptr np 0, .int .i64 src, .int .i64 dst, body] h (Put h np mb ps last src dst cs) := by
  apply fn_net_Net_Send
  unfold vc_net_Net_Send
  have c1 : ¬ ((65545 : Int) < (cs.length : Int)) := by omega
  have eb : oBuild [.int .i64 0, .int .i64 0, .int .i64 0, .nilSlice] [(1, 1, .int .i64 src), (2, 1, .int .i64 dst), (3, 1, body)] = some (.agg [.int .i64 0, .int .i64 src, .int .i64 dst, body]) := by
    rcases ho.isNil with ⟨rfl, _⟩ | ⟨B, i, n, cap, ex, rfl, _⟩ <;> rfl
  simp only [go_sem, (none_is hn).eq, ho.len, s_gtr, c1, decide_false, eb]
  refine (put_is hn hfew hlast ho hok hlen hb).mono fun v h' ⟨e, b', g1, g2, g3⟩ => ?_
  subst e
  simp only [go_sem]
  exact ⟨rfl, ⟨b', g1, g3⟩, g2⟩
theorem double_is (hn : NetA h np mb ps last) (hfew : ps.length < 256) (hlast : last < 1000000000) {q : Pk} (hq : q ∈ ps) :
    FnC X net_Net_Double [.ptr np 0, .int .i64 q.num] h (Put h np mb ps last q.src q.dst q.cs) := by
  apply fn_net_Net_Double
  unfold vc_net_Net_Double
  refine (find_is hn hq).mono fun v h1 ⟨e, k1⟩ => ?_
  subst e
  simp only [go_sem]
  refine t_alloc _ fun h2 b2 k2 n2 => ?_
  refine t_storeN b2 rfl rfl (Pk.all_ok (hn.own q hq).cell.1) fun h3 b3 x3 => ?_
  have c1 : decide ((0 : Int) ≠ 0) = false := rfl
  have n1 := k1.n
  have k3 : Keeps h h3 := ⟨by have := x3.n; omega, fun b hb => by rw [x3.get b (by omega) (by omega), k2.get b (by omega), k1.get b hb]⟩
  simp only [go_sem, s_neq, c1, load4 b3 rfl]
  refine (put_is (hn.keep k3) hfew hlast ((hn.own q hq).keep k3).rd (hn.ok q hq).1 (hn.ok q hq).2 (hn.sep q hq)).mono fun v h' ⟨e, b', g1, g2, g3⟩ => ?_
  subst e
  simp only [go_sem]
  exact ⟨rfl, ⟨b', g1, fun b hb => Nat.le_trans k3.n (g3 b hb)⟩, (Ext.of k3 _).trans g2 fun _ _ h => h⟩
/-- It arrives: a copy is told, and it is on its way no more. -/
structure Got (h : Heap) (np mb : Nat) (ps : List Pk) (last : Int) (q : Pk) (v : AVal) (h' : Heap) : Prop where
  val : ∃ body', v = .tup [.agg [.int .i64 q.num, .int .i64 q.src, .int .i64 q.dst, body'], .int .i64 0] ∧ Own h' 1 body' q.cs ∧ ∀ b, OnB body' b → h.n ≤ b
  net : NetA h' np mb (ps.filter fun p => p.num ≠ q.num) last
  ext : Ext (fun b => b = mb) h h'
theorem deliver_is (hn : NetA h np mb ps last) {q : Pk} (hq : q ∈ ps) : FnC X net_Net_Deliver [.ptr np 0, .int .i64 q.num] h (Got h np mb ps last q) := by
  apply fn_net_Net_Deliver
  unfold vc_net_Net_Deliver
  refine t_alloc _ fun h1 b1 k1 n1 => ?_
  have hn1 := hn.keep k1
  refine (find_is hn1 hq).mono fun v h2 ⟨e, k2⟩ => ?_
  subst e
  simp only [go_sem]
  refine t_alloc _ fun h3 b3 k3 n3 => ?_
  refine t_storeN b3 rfl rfl (Pk.all_ok (hn.own q hq).cell.1) fun h4 b4 x4 => ?_
  have c1 : decide ((0 : Int) ≠ 0) = false := rfl
  have l1 := k2.n
  have k4 : Keeps h h4 := ⟨by have := x4.n; omega, fun b hb => by rw [x4.get b (by omega) (by omega), k3.get b (by omega), k2.get b (by omega), k1.get b hb]⟩
  have b1' : h4.get h.n = _ := x4.some (k3.some (k2.some b1)) (by omega)
  have hn4 := hn.keep k4
  have hmb := Heap.get_lt hn.map
  have hnp := Heap.get_lt hn.box
  simp only [go_sem, s_neq, c1, s_load1 hn4.box, Nat.add_zero, g0]
  refine t_mdel hn4.map (find_some hq hn.nd) fun h6 m6 x6 => ?_
  have b6 := x6.some b4 (by omega)
  have eb : q.cells[3]? = some q.body := of_rfl rfl
  have o6 := (hn4.own q hq).ext x6 fun b hb e => hn4.apart q hq b hb (.inr e)
  simp only [go_sem, Nat.zero_add, s_load1 b6, eb]
  refine (clone_is o6.rd (hn.ok q hq).1 (by have := (hn.ok q hq).2; omega)).mono fun body' h7 ⟨o7, k7, f7⟩ => ?_
  have l6 := x6.n
  have l4 := x4.n
  have l7 := k7.n
  have f7' : ∀ b, OnB body' b → h2.n < b := fun b hb => by have := f7 b hb; omega
  refine t_store (k7.some b6) (by show 3 < 4; omega) o7.cell.1 o7.cell.2.2 fun h8 b8 x8 => ?_
  have es : q.cells.set 3 body' = [.int .i64 q.num, .int .i64 q.src, .int .i64 q.dst, body'] := rfl
  rw [es] at b8
  simp only [go_sem, load4 b8 rfl]
  have l8 := x8.n
  have b18 := x8.some (k7.some (x6.some b1' (by omega))) (by omega)
  refine t_storeN b18 rfl rfl (cells4_ok o7.cell.1) fun h9 b9 x9 => ?_
  simp only [go_sem, load4 b9 rfl]
  have l9 := x9.n
  have X : Ext (fun b => b = mb) h h9 := ⟨by omega, fun b hb hs => by rw [x9.get b (by omega) (by omega), x8.get b (by omega) (by omega), k7.get b (by omega), x6.get b (by omega) hs, k4.get b hb]⟩
  have m9 := x9.some (x8.some (k7.some m6) (by omega)) (by omega)
  refine ⟨⟨body', rfl, ?_, fun b hb => by have := f7' b hb; omega⟩, ⟨X.some hn.box hn.ne, ?_, ?_, ?_, ?_, ?_, ?_, hn.last, ?_⟩, X⟩
  · exact (o7.ext x8 fun b hb => by have := f7' b hb; have := f7 b hb; omega).ext x9 fun b hb => by have := f7' b hb; omega
  · rw [m9, del_is hn.nd]
  · intro p hp
    have hp := (List.mem_filter.1 hp).1
    exact (hn.own p hp).ext X fun b hb e => hn.apart p hp b hb (.inr e)
  · exact fun p hp => hn.ok p (List.mem_filter.1 hp).1
  · exact fun p hp => hn.sep p (List.mem_filter.1 hp).1
  · exact fun p hp => hn.num p (List.mem_filter.1 hp).1
  · exact (List.Sublist.map _ List.filter_sublist).nodup hn.nd
  · exact Nat.le_trans (List.length_filter_le _ _) hn.few
theorem deliver_no (hn : NetA h np mb ps last) {n : Int} (hq : ∀ q ∈ ps, q.num ≠ n) : FnC X net_Net_Deliver [.ptr np 0, .int .i64 n] h fun v h' => v = .tup [.agg [.int .i64 0, .int .i64 0, .int .i64 0, .nilSlice], .int .i64 80] ∧ Keeps h h' := by
  apply fn_net_Net_Deliver
  unfold vc_net_Net_Deliver
  refine t_alloc _ fun h1 b1 k1 n1 => ?_
  have hn1 := hn.keep k1
  refine (find_no hn1 hq).mono fun v h2 ⟨e, k2⟩ => ?_
  subst e
  simp only [go_sem]
  refine t_alloc _ fun h3 b3 k3 n3 => ?_
  refine t_storeN b3 rfl rfl zero4_ok fun h4 b4 x4 => ?_
  have c1 : decide ((80 : Int) ≠ 0) = true := rfl
  have l1 := k2.n
  have l4 := x4.n
  have eb : oBuild [.int .i64 0, .int .i64 0, .int .i64 0, .nilSlice] [] = some (.agg [.int .i64 0, .int .i64 0, .int .i64 0, .nilSlice]) := of_rfl rfl
  simp only [go_sem, s_neq, c1, eb]
  refine t_storeN (x4.some (k3.some (k2.some b1)) (by omega)) rfl rfl zero4_ok fun h5 b5 x5 => ?_
  simp only [go_sem, load4 b5 rfl]
  have l5 := x5.n
  exact ⟨by omega, fun b hb => by rw [x5.get b (by omega) (by omega), x4.get b (by omega) (by omega), k3.get b (by omega), k2.get b (by omega), k1.get b hb]⟩
theorem drop_is (hn : NetA h np mb ps last) {q : Pk} (hq : q ∈ ps) : FnC X net_Net_Drop [.ptr np 0, .int .i64 q.num] h fun v h' => v = .int .i64 0 ∧ NetA h' np mb (ps.filter fun p => p.num ≠ q.num) last ∧ Ext (fun b => b = mb) h h' := by
  apply fn_net_Net_Drop
  unfold vc_net_Net_Drop
  refine (deliver_is hn hq).mono fun v h1 ⟨⟨body', e, o1, f1⟩, N1, X1⟩ => ?_
  subst e
  simp only [go_sem]
  refine t_alloc _ fun h2 b2 k2 n2 => ?_
  refine t_storeN b2 rfl rfl (cells4_ok o1.cell.1) fun h3 b3 x3 => ?_
  have l3 := x3.n
  have K : Keeps h1 h3 := ⟨by omega, fun b hb => by rw [x3.get b (by omega) (by omega), k2.get b hb]⟩
  exact ⟨N1.keep K, X1.keepsTrans K⟩
end
end Go.Proofs.Ytlfmiplojpcklaa.Net
