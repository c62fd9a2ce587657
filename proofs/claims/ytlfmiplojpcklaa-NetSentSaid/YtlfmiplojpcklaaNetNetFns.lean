/- The net's functions: New, none, put, find, Send, Deliver, Double. -/
import Derived.Test.YtlfmiplojpcklaaNetNetLow
set_option linter.unusedSimpArgs false
set_option linter.unusedVariables false
namespace Go.Proofs.Ytlfmiplojpcklaa.Net
open Go.Ax Go.Proofs
structure Pk where
  num : Int
  src : Int
  dst : Int
  body : AVal
  cs : List AVal
def Pk.cells (q : Pk) : List AVal := [.int .i64 q.num, .int .i64 q.src, .int .i64 q.dst, q.body]
def Pk.ent (q : Pk) : AVal × AVal := (.int .i64 q.num, .agg q.cells)
theorem Pk.cells_len (q : Pk) : q.cells.length = 4 := of_rfl rfl
/-- A net. -/
structure NetA (h : Heap) (np mb : Nat) (ps : List Pk) (last : Int) : Prop where
  box : h.get np = some (.cells [.map mb, .int .i64 last] .own np)
  map : h.get mb = some (.map (ps.map Pk.ent))
  own : ∀ q ∈ ps, Own h 1 q.body q.cs
  ok : ∀ q ∈ ps, q.cs.all cellOk = true ∧ q.cs.length ≤ 65545
  sep : ∀ q ∈ ps, ∀ b, OnB q.body b → b ≠ np
  num : ∀ q ∈ ps, 1 ≤ q.num ∧ q.num ≤ last
  nd : (ps.map Pk.num).Nodup
  last : 0 ≤ last ∧ last ≤ 1000000000
  few : ps.length ≤ 256
/-- Its blocks. -/
def Foot (np mb : Nat) (ps : List Pk) (b : Nat) : Prop := b = np ∨ b = mb ∨ ∃ q ∈ ps, OnB q.body b
section
variable {h h' : Heap} {np mb : Nat} {ps : List Pk} {last : Int} {S : Nat → Prop}
theorem NetA.ne (hn : NetA h np mb ps last) : np ≠ mb := by
  rintro rfl; have := hn.box.symm.trans hn.map; cases this
theorem NetA.ext (hn : NetA h np mb ps last) (he : Ext S h h') (hs : ∀ b, Foot np mb ps b → ¬ S b) : NetA h' np mb ps last :=
  ⟨he.some hn.box (hs _ (.inl rfl)), he.some hn.map (hs _ (.inr (.inl rfl))), fun q hq => (hn.own q hq).ext he fun b hb => hs b (.inr (.inr ⟨q, hq, hb⟩)), hn.ok, hn.sep, hn.num, hn.nd, hn.last, hn.few⟩
theorem NetA.keep (hn : NetA h np mb ps last) (he : Keeps h h') : NetA h' np mb ps last := hn.ext (Ext.of he fun _ => False) fun _ _ h => h
theorem NetA.foot (hn : NetA h np mb ps last) : ∀ b, Foot np mb ps b → b < h.n := by
  rintro b (rfl | rfl | ⟨q, hq, hb⟩)
  · exact Heap.get_lt hn.box
  · exact Heap.get_lt hn.map
  · exact (hn.own q hq).lt b hb
theorem NetA.apart (hn : NetA h np mb ps last) (q : Pk) (hq : q ∈ ps) (b : Nat) (hb : OnB q.body b) : ¬ (b = np ∨ b = mb) := by
  rintro (e | e)
  · exact hn.sep q hq _ hb e
  · rcases (hn.own q hq).isNil with ⟨e2, _⟩ | ⟨B, n, e2, hB, _⟩
    · rw [e2] at hb; exact hb
    · rw [e2] at hb
      have : b = B := hb
      subst this; subst e; rw [hn.map] at hB; cases hB
theorem new_is (h : Heap) : FnC X net_New [] h fun v h' => v = .ptr (h.n + 1) 0 ∧ NetA h' (h.n + 1) h.n [] 0 ∧ Keeps h h' := by
  apply fn_net_New
  unfold vc_net_New
  have e1 : oBuild [.nilMap, .int .i64 0] [(0, 1, .map h.n)] = some (.agg [.map h.n, .int .i64 0]) := of_rfl rfl
  simp only [go_sem, s_oMMap, e1, s_oBox (show (valCells (.agg [.map h.n, .int .i64 0])).all cellOk = true by rfl)]
  refine ⟨⟨?_, ?_, by simp, by simp, by simp, by simp, .nil, by omega, by simp⟩, (Keeps.push _ _).push' _⟩
  · have := s_get_push_eq (h.push (.map [])) (.cells (valCells (.agg [.map h.n, .int .i64 0])) .own (h.n + 1))
    exact this
  · rw [s_get_push_ne (by rw [s_n_push]; omega)]; exact s_get_push_eq _ _
theorem none_is (hn : NetA h np mb ps last) : FnIs X net_Net_none [.ptr np 0] h (.bool false) h := by
  refine FnIs.of (fn_net_Net_none ?_)
  unfold vc_net_Net_none
  have e1 : oEqN 1 false (.ptr np 0) .nilPtr = some (.bool false) := of_rfl rfl
  have e2 : oEqN 3 false (.map mb) .nilMap = some (.bool false) := of_rfl rfl
  have e3 : ([.map mb, .int .i64 last] : List AVal)[0]? = some (.map mb) := of_rfl rfl
  simp only [go_sem, e1, s_load1 hn.box, Nat.add_zero, e3, e2]
theorem keyEq_i (a b : Int) : keyEq (.int .i64 a) (.int .i64 b) = some (decide (a = b)) := by
  have : keyEq (.int .i64 a) (.int .i64 b) = some (a == b) := rfl
  rw [this]; congr 1
theorem find_none {ps : List Pk} {n : Int} (hn : ∀ q ∈ ps, q.num ≠ n) : find (.int .i64 n) (ps.map Pk.ent) = some none := by
  induction ps with
  | nil => rfl
  | cons q ps ih =>
    rw [List.map_cons]; show (match keyEq (.int .i64 n) (.int .i64 q.num) with | some true => _ | some false => find (.int .i64 n) (ps.map Pk.ent) | none => _) = _
    rw [keyEq_i, decide_eq_false (fun e => hn q (by simp) e.symm)]
    exact ih fun q hq => hn q (by simp [hq])
theorem find_some {ps : List Pk} {q : Pk} (hq : q ∈ ps) (hd : (ps.map Pk.num).Nodup) : find (.int .i64 q.num) (ps.map Pk.ent) = some (some (.agg q.cells)) := by
  induction ps with
  | nil => cases hq
  | cons p ps ih =>
    rw [List.map_cons, List.nodup_cons] at hd
    rw [List.map_cons]; show (match keyEq (.int .i64 q.num) (.int .i64 p.num) with | some true => some (some (AVal.agg p.cells)) | some false => find (.int .i64 q.num) (ps.map Pk.ent) | none => _) = _
    rw [keyEq_i]
    rcases List.mem_cons.1 hq with rfl | hq
    · simp
    · have hne : q.num ≠ p.num := fun e => hd.1 (e ▸ List.mem_map_of_mem hq)
      rw [decide_eq_false hne]
      exact ih hq hd.2
theorem set_end {ps : List Pk} {q : Pk} (hn : ∀ p ∈ ps, p.num ≠ q.num) : mapSet (.int .i64 q.num) (.agg q.cells) (ps.map Pk.ent) = (ps ++ [q]).map Pk.ent := by
  induction ps with
  | nil => rfl
  | cons p ps ih =>
    rw [List.map_cons]; show (match keyEq (.int .i64 q.num) (.int .i64 p.num) with | some true => _ | _ => (p.ent :: mapSet (.int .i64 q.num) (.agg q.cells) (ps.map Pk.ent))) = _
    rw [keyEq_i, decide_eq_false (fun e => hn p (by simp) e.symm)]
    simp only
    rw [ih fun q hq => hn q (by simp [hq])]; rfl
theorem del_is {ps : List Pk} {n : Int} (hd : (ps.map Pk.num).Nodup) : mapDel (.int .i64 n) (ps.map Pk.ent) = (ps.filter fun q => q.num ≠ n).map Pk.ent := by
  induction ps with
  | nil => rfl
  | cons p ps ih =>
    rw [List.map_cons, List.nodup_cons] at hd
    rw [List.map_cons]; show (match keyEq (.int .i64 n) (.int .i64 p.num) with | some true => ps.map Pk.ent | _ => (p.ent :: mapDel (.int .i64 n) (ps.map Pk.ent))) = _
    rw [keyEq_i]
    by_cases e : n = p.num
    · subst e
      simp only [decide_true, List.filter_cons, ne_eq, not_true, decide_false, Bool.false_eq_true, if_false]
      rw [List.filter_eq_self.2]
      intro q hq
      simp only [ne_eq, decide_eq_true_eq, decide_not, Bool.not_eq_true', decide_eq_false_iff_not]
      exact fun e => hd.1 (e ▸ List.mem_map_of_mem hq)
    · rw [decide_eq_false e]
      simp only
      rw [ih hd.2, List.filter_cons, if_pos (by simpa using fun h => e h.symm), List.map_cons]
theorem s_look {es : List (AVal × AVal)} {z : AVal} {ok : Bool} {n : Int} {r : Option AVal} (hm : h.get mb = some (.map es)) (hf : find (.int .i64 n) es = some r) : oLook h false z ok (.map mb) (.int .i64 n) = some (ansA z ok r) := by
  have e : oLook h false z ok (.map mb) (.int .i64 n) = (match h.get mb with | some (.map es) => (match find (.int .i64 n) es with | some r => some (ansA z ok r) | none => none) | _ => none) := rfl
  rw [e, hm]; simp only; rw [hf]
theorem s_lenM {es : List (AVal × AVal)} (hm : h.get mb = some (.map es)) : oLenM h (.map mb) = some (.int .i64 es.length) := by
  have e : oLenM h (.map mb) = (match h.get mb with | some (.map es) => some (.int .i64 (lenL es)) | _ => none) := rfl
  rw [e, hm]; simp only [lenL_eq]
theorem s_mupd {es : List (AVal × AVal)} {n : Int} {v : AVal} {r : Option AVal} (hm : h.get mb = some (.map es)) (hf : find (.int .i64 n) es = some r) : oMUpd h false (.map mb) (.int .i64 n) v = some (und, h.set mb (.map (mapSet (.int .i64 n) v es))) := by
  have e : oMUpd h false (.map mb) (.int .i64 n) v = (match h.get mb with | some (.map es) => (match find (.int .i64 n) es with | some _ => some (und, h.set mb (.map (mapSet (.int .i64 n) v es))) | none => none) | _ => none) := rfl
  rw [e, hm]; simp only; rw [hf]
theorem s_mdel {es : List (AVal × AVal)} {n : Int} {r : Option AVal} (hm : h.get mb = some (.map es)) (hf : find (.int .i64 n) es = some r) : oMDel h false (.map mb) (.int .i64 n) = some (und, h.set mb (.map (mapDel (.int .i64 n) es))) := by
  have e : oMDel h false (.map mb) (.int .i64 n) = (match h.get mb with | some (.map es) => (match find (.int .i64 n) es with | some _ => some (und, h.set mb (.map (mapDel (.int .i64 n) es))) | none => none) | _ => none) := rfl
  rw [e, hm]; simp only; rw [hf]
theorem t_mupd {es : List (AVal × AVal)} {n : Int} {v : AVal} {r : Option AVal} {K : AVal → Heap → Prop} (hm : h.get mb = some (.map es)) (hf : find (.int .i64 n) es = some r) (k : ∀ h', h'.get mb = some (.map (mapSet (.int .i64 n) v es)) → Ext (fun c => c = mb) h h' → K und h') : ok2 (oMUpd h false (.map mb) (.int .i64 n) v) K := by
  rw [s_mupd hm hf]
  exact k _ (s_get_set_eq (Heap.get_lt hm)) ((Ext.refl _ _).set _ fun _ => rfl)
theorem t_mdel {es : List (AVal × AVal)} {n : Int} {r : Option AVal} {K : AVal → Heap → Prop} (hm : h.get mb = some (.map es)) (hf : find (.int .i64 n) es = some r) (k : ∀ h', h'.get mb = some (.map (mapDel (.int .i64 n) es)) → Ext (fun c => c = mb) h h' → K und h') : ok2 (oMDel h false (.map mb) (.int .i64 n)) K := by
  rw [s_mdel hm hf]
  exact k _ (s_get_set_eq (Heap.get_lt hm)) ((Ext.refl _ _).set _ fun _ => rfl)
theorem cells4_ok {a b c : Int} {v : AVal} (hv : cellOk v = true) : ([.int .i64 a, .int .i64 b, .int .i64 c, v] : List AVal).all cellOk = true := by
  simp only [List.all_cons, List.all_nil, hv, Bool.and_true]; rfl
theorem load4 {b : Nat} {cs : List AVal} {m : Go.Ax.Mode} {l : Nat} (e : h.get b = some (.cells cs m l)) (hl : cs.length = 4) : oLoad h (some 4) (.ptr b 0) = some (.agg cs) := by
  rw [s_loadN e (by omega), List.drop_zero, List.take_of_length_le (by omega)]
theorem put_is (hn : NetA h np mb ps last) (hfew : ps.length < 256) (hlast : last < 1000000000) {x src dst : Int} {body : AVal} {cs : List AVal} (ho : Rd h body cs) (hok : cs.all cellOk = true) (hlen : cs.length ≤ 65545) (hb : ∀ b, OnB body b → b ≠ np) :
    FnC X net_Net_put [.ptr np 0, .agg [.int .i64 x, .int .i64 src, .int .i64 dst, body]] h fun v h' => v = .tup [.int .i64 (last + 1), .int .i64 0] ∧ ∃ body', NetA h' np mb (ps ++ [⟨last + 1, src, dst, body', cs⟩]) (last + 1) ∧ Ext (fun b => b = np ∨ b = mb) h h' ∧ ∀ b, OnB body' b → h.n ≤ b := by
  apply fn_net_Net_put
  unfold vc_net_Net_put
  have hnp := Heap.get_lt hn.box
  have hmb := Heap.get_lt hn.map
  have hne := hn.ne
  refine t_box (cells4_ok ho.cell.1) fun h1 b1 k1 n1 => ?_
  have w1 : wrapA .i64 (last + 1) = last + 1 := wr_i64 (by have := hn.last; omega) (by omega)
  have c1 : ¬ ((256 : Int) ≤ ((ps.map Pk.ent).length : Int)) := by rw [List.length_map]; omega
  simp only [go_sem, true_and, and_true, s_load1 (k1.some hn.box), s_lenM (k1.some hn.map), Nat.zero_add, Nat.add_zero, g0, g1, s_geq, c1, decide_false, w1]
  refine t_store (k1.some hn.box) (by show 1 < 2; omega) rfl rfl fun h2 p2 x2 => ?_
  simp only [List.set_cons_succ, List.set_cons_zero] at p2
  have b2 := x2.some b1 (by omega)
  have m2 := x2.some (k1.some hn.map) (Ne.symm hne)
  simp only [go_sem, true_and, and_true, s_load1 p2, s_load1 b2, g1, g3]
  have hbn : ∀ b, OnB body b → ¬ b = np := hb
  refine (clone_is ((ho.keep k1).ext x2 hbn) hok (by omega)).mono fun body' h3 ⟨o3, k3, f3⟩ => ?_
  have hh3 : h.n < h3.n := by have := k3.n; have := x2.n; omega
  simp only [go_sem, true_and, and_true, s_load1 (k3.some p2), g1]
  refine t_store (k3.some b2) (by show 0 < 4; omega) rfl rfl fun h4 b4 x4 => ?_
  simp only [List.set_cons_succ, List.set_cons_zero] at b4
  refine t_store b4 (by show 3 < 4; omega) o3.cell.1 o3.cell.2.2 fun h5 b5 x5 => ?_
  simp only [List.set_cons_succ, List.set_cons_zero] at b5
  have p5 := x5.some (x4.some (k3.some p2) (by omega)) (by omega)
  have m5 := x5.some (x4.some (k3.some m2) (by omega)) (by omega)
  have hnew : ∀ q ∈ ps, q.num ≠ last + 1 := fun q hq => by have := (hn.num q hq).2; omega
  simp only [go_sem, true_and, and_true, s_load1 p5, load4 b5 rfl, g0, g1]
  refine t_mupd m5 (find_none hnew) fun h6 m6 x6 => ?_
  have p6 := x6.some p5 hne
  simp only [go_sem, true_and, and_true, s_load1 p6, g1]
  have X : Ext (fun b => b = np ∨ b = mb) h h6 := by
    refine ⟨by have := x6.n; have := x5.n; have := x4.n; omega, fun b hb hs => ?_⟩
    simp only [not_or] at hs
    have hk : b ≠ h.n := by omega
    rw [x6.get b (by have := x5.n; have := x4.n; omega) hs.2, x5.get b (by have := x4.n; omega) hk, x4.get b (by omega) hk, k3.get b (by have := x2.n; omega), x2.get b (by omega) hs.1, k1.get b hb]
  have fr : ∀ b, OnB body' b → h.n < b := fun b hb => by have := f3 b hb; have := x2.n; omega
  refine ⟨body', ⟨p6, ?_, ?_, ?_, ?_, ?_, ?_, ?_, ?_⟩, X, fun b hb => Nat.le_of_lt (fr b hb)⟩
  · rw [m6]; exact congrArg (fun l => some (Blk.map l)) (set_end (q := ⟨last + 1, src, dst, body', cs⟩) hnew)
  · intro q hq
    rcases List.mem_append.1 hq with hq | hq
    · exact (hn.own q hq).ext X fun b hbq => hn.apart q hq b hbq
    · simp only [List.mem_singleton] at hq; subst hq
      exact ((o3.ext x4 fun b hb => by have := fr b hb; omega).ext x5 fun b hb => by have := fr b hb; omega).ext x6 fun b hb => by have := fr b hb; omega
  · intro q hq
    rcases List.mem_append.1 hq with hq | hq
    · exact hn.ok q hq
    · simp only [List.mem_singleton] at hq; subst hq; exact ⟨hok, hlen⟩
  · intro q hq b hb
    rcases List.mem_append.1 hq with hq | hq
    · exact hn.sep q hq b hb
    · simp only [List.mem_singleton] at hq; subst hq; have := fr b hb; omega
  · intro q hq
    have := hn.last
    rcases List.mem_append.1 hq with hq | hq
    · have := hn.num q hq; omega
    · simp only [List.mem_singleton] at hq; subst hq; show 1 ≤ last + 1 ∧ last + 1 ≤ last + 1; omega
  · rw [List.map_append, List.nodup_append]
    refine ⟨hn.nd, by simp, ?_⟩
    intro a ha b hb
    obtain ⟨q, hq, rfl⟩ := List.mem_map.1 ha
    simp only [List.map_cons, List.map_nil, List.mem_singleton] at hb
    subst hb; exact hnew q hq
  · have := hn.last; omega
  · rw [List.length_append, List.length_singleton]; omega
end
end Go.Proofs.Ytlfmiplojpcklaa.Net
