/- The net's List. -/
import Derived.Test.YtlfmiplojpcklaaNetNetOps
set_option linter.unusedSimpArgs false
set_option linter.unusedVariables false
namespace Go.Proofs.Ytlfmiplojpcklaa.Net
open Go.Ax Go.Proofs
section
variable {h h' : Heap} {np mb : Nat} {ps : List Pk} {last : Int} {S : Nat → Prop}
theorem keysI_ps {ps : List Pk} (hw : ∀ q ∈ ps, (Lit.int .i64 q.num).wf = true) : keysI (ps.map Pk.ent) = some (ps.map Pk.num) := by
  induction ps with
  | nil => rfl
  | cons q ps ih =>
    rw [List.map_cons, List.map_cons]
    show (match (Lit.int .i64 q.num).wf with | true => (match keysI (ps.map Pk.ent) with | some l => some (q.num :: l) | none => none) | false => none) = _
    rw [hw q (by simp), ih fun p hp => hw p (by simp [hp])]
theorem hasI_no {x : Int} : ∀ {l : List Int}, x ∉ l → hasI x l = false
  | [], _ => rfl
  | y :: r, hn => by
    unfold hasI
    have e : eqI x y = false := by rw [eqI_eq]; simp only [beq_eq_false_iff_ne, ne_eq]; rintro rfl; exact hn (by simp)
    rw [e]; exact hasI_no fun hh => hn (by simp [hh])
theorem nodupI_of : ∀ {l : List Int}, l.Nodup → nodupI l = true
  | [], _ => rfl
  | x :: r, hn => by
    obtain ⟨h1, h2⟩ := List.nodup_cons.1 hn
    unfold nodupI
    rw [hasI_no h1]; exact nodupI_of h2
theorem sorted_is (hm : h.get mb = some (.map (ps.map Pk.ent))) (hn : ∀ q ∈ ps, 1 ≤ q.num ∧ q.num ≤ 1000000000) (hd : (ps.map Pk.num).Nodup) (hf : ps.length ≤ 256) {bx : Nat} {m : Go.Ax.Mode} {l : Nat} (hb : h.get bx = some (.cells [.map mb] m l)) :
    FnC X slices_Sorted_int [.func (.func maps_Keys_map_int_api_Packet_int_api_Packet_1) [] [.ptr bx 0]] h (NewRow h ((sortI (ps.map Pk.num)).map fun n => .int .i64 n)) := by
  have hw : ∀ q ∈ ps, (Lit.int .i64 q.num).wf = true := fun q hq => by
    have := hn q hq
    simp only [Lit.wf, IntKind.min, IntKind.max, IntKind.signed, IntKind.bits, Bool.and_eq_true, decide_eq_true_eq, if_true]
    omega
  have hle : Nat.ble (lenL (ps.map Pk.num)) 1048576 = true := by rw [lenL_eq, List.length_map]; exact Nat.ble_eq_true_of_le (by omega)
  have key : ∀ s, sortI (ps.map Pk.num) = s → srtG [153] [.func (.func maps_Keys_map_int_api_Packet_int_api_Packet_1) [] [.ptr bx 0]] h = (match s with
                | [] => some (.nilSlice, h)
                | s => some (.slice h.n 0 (lenL (ps.map Pk.num)) (lenL (ps.map Pk.num)) 1 false, h.push (.cells (mapL (fun n => .int .i64 n) s) .own h.n))) := by
    rintro s rfl
    unfold srtG
    have e1 : memN maps_Keys_map_int_api_Packet_int_api_Packet_1 [153] = true := rfl
    simp only [e1, s_rowOf hb]
    have e2 : nth [AVal.map mb] 0 = some (.map mb) := rfl
    simp only [e2, hm, keysI_ps hw, nodupI_of hd, hle, Bool.and_self]
    cases sortI (ps.map Pk.num) <;> rfl
  have hlen := (sortI_perm (ps.map Pk.num)).length_eq
  rw [List.length_map] at hlen
  cases hs : sortI (ps.map Pk.num) with
  | nil =>
    have e := FnIs.known (X := X) (f := slices_Sorted_int) (g := srtG [153]) (by kernel_rfl) (key [] hs)
    rw [e.eq]
    exact ⟨.nil, Keeps.refl _, fun b hb => by cases hb⟩
  | cons s0 sr =>
    have e := FnIs.known (X := X) (f := slices_Sorted_int) (g := srtG [153]) (by kernel_rfl) (key (s0 :: sr) hs)
    rw [e.eq]
    rw [hs] at hlen
    have hl2 : lenL (ps.map Pk.num) = (s0 :: sr).length := by rw [lenL_eq, List.length_map, hlen]
    rw [hl2, mapL_eq]
    exact ⟨.mk _ _ _ (s_get_push_eq _ _) (by rw [List.length_map]; omega) (by simp), Keeps.push _ _, fun b hb => Nat.le_of_eq hb.symm⟩
theorem keys_is : FnC X maps_Keys_map_int_api_Packet_int_api_Packet [.map mb] h fun v h' => v = .func (.func maps_Keys_map_int_api_Packet_int_api_Packet_1) [] [.ptr h.n 0] ∧ Keeps h h' ∧ h'.get h.n = some (.cells [.map mb] .own h.n) ∧ h'.n = h.n + 1 := by
  apply fn_maps_Keys_map_int_api_Packet_int_api_Packet
  unfold vc_maps_Keys_map_int_api_Packet_int_api_Packet
  refine t_box1 rfl rfl fun h1 b1 k1 n1 => ?_
  exact ⟨rfl, k1, b1, n1⟩
/-- What is told: all on their way, each in a row of its own. -/
structure Told1 (h : Heap) (h' : Heap) (ps : List Pk) (r : Pk) : Prop where
  of : ∃ q ∈ ps, r.num = q.num ∧ r.src = q.src ∧ r.dst = q.dst ∧ r.cs = q.cs
  own : Own h' 1 r.body r.cs
  ok : r.cs.all cellOk = true
  fresh : ∀ b, OnB r.body b → h.n ≤ b
structure ListA (h : Heap) (ps : List Pk) (v : AVal) (h' : Heap) (rs : List Pk) : Prop where
  sl : Sl h' 4 Pk.cells v rs
  keeps : Keeps h h'
  nums : rs.map Pk.num = sortI (ps.map Pk.num)
  each : ∀ r ∈ rs, Told1 h h' ps r
  apart : rs.Pairwise fun a b => ∀ x, OnB a.body x → ¬ OnB b.body x
theorem pk_flat_ok {rs : List Pk} (hr : ∀ r ∈ rs, cellOk r.body = true) : (rs.flatMap Pk.cells).all cellOk = true := by
  rw [List.all_eq_true]; intro x hx
  obtain ⟨r, h1, h2⟩ := List.mem_flatMap.1 hx
  exact List.all_eq_true.1 (Pk.all_ok (hr r h1)) x h2
/-- The loop's own. -/
structure LInv (h h3 : Heap) (ps : List Pk) (N : List Int) (n : Nat) (out i : AVal) (h4 : Heap) (k : Nat) (rs : List Pk) : Prop where
  en : n = N.length - k
  le : k ≤ N.length
  ei : i = .int .i64 k
  keeps : Keeps h3 h4
  grow : Grow h4 4 out (rs.flatMap Pk.cells)
  fresh : ∀ b, OnB out b → h3.n ≤ b
  num : rs.map Pk.num = N.take k
  each : ∀ r ∈ rs, Told1 h h4 ps r ∧ ∀ b, OnB r.body b → h3.n ≤ b ∧ ¬ OnB out b
  apart : rs.Pairwise fun a b => ∀ x, OnB a.body x → ¬ OnB b.body x
theorem list_is (hn : NetA h np mb ps last) : FnC X net_Net_List [.ptr np 0] h fun v h' => ∃ rs, ListA h ps v h' rs := by
  apply fn_net_Net_List
  unfold vc_net_Net_List
  simp only [go_sem, (none_is hn).eq, s_load1 hn.box]
  refine keys_is.mono fun v13 h2 ⟨e, k2, b2, n2⟩ => ?_
  subst e
  have hn2 := hn.keep k2
  refine (sorted_is hn2.map (fun q hq => by have := hn.num q hq; have := hn.last; omega) hn.nd hn.few b2).mono fun v14 h3 ⟨o3, k3, f3⟩ => ?_
  have kk3 := k2.trans k3
  generalize hN : sortI (ps.map Pk.num) = N at *
  have hNl : N.length ≤ 256 := by have := (sortI_perm (ps.map Pk.num)).length_eq; rw [List.length_map, hN] at this; have := hn.few; omega
  have hNm : ∀ x ∈ N, ∃ q ∈ ps, q.num = x := by
    intro x hx
    have : x ∈ ps.map Pk.num := (sortI_perm (ps.map Pk.num)).mem_iff.1 (hN ▸ hx)
    obtain ⟨q, hq, e⟩ := List.mem_map.1 this
    exact ⟨q, hq, e⟩
  have hlen : oLen v14 = some (.int .i64 N.length) := by rw [o3.len, List.length_map]
  simp only [go_sem, hlen]
  refine ⟨fun n out i h4 => ∃ k rs, LInv h h3 ps N n out i h4 k rs, ⟨_, 0, [], ⟨rfl, by omega, rfl, Keeps.refl _, .nil, (fun b hb => by cases hb), rfl, (fun r hr => by cases hr), .nil⟩⟩, ?_⟩
  unfold vc_net_Net_List_L1
  rintro n out i h4 ⟨k, rs, ⟨rfl, hk, rfl, k4, gr, fo, hnum, heach, hap⟩⟩
  refine t_lss (fun hlt => ?_) (fun hlt => ?_)
  · have hk' : k < N.length := by omega
    obtain ⟨q, hq, hqn⟩ := hNm N[k] (List.getElem_mem hk')
    have hn4 := (hn.keep kk3).keep k4
    -- the number
    obtain ⟨bl, i0, m0, l0, c0, ha, hb0, hi0, hc0⟩ := Sl.at (k := 1) (enc := fun x => [x]) (fun _ => rfl) (o3.keep k4).sl (show k < (N.map fun n => AVal.int .i64 n).length by rw [List.length_map]; exact hk')
    have hc0' : c0[i0]? = some (.int .i64 q.num) := by
      have := hc0 0 (by decide)
      rw [Nat.add_zero] at this
      rw [this, List.getElem_map, hqn]; rfl
    simp only [go_sem, ha, s_load1 hb0, hc0', s_load1 hn4.box, s_look hn4.map (find_some hq hn.nd), ansA]
    refine t_alloc _ fun h5 b5 k5 n5 => ?_
    have hc : q.cells.all cellOk = true := Pk.all_ok (hn.own q hq).cell.1
    refine t_storeN b5 rfl rfl hc fun h6 b6 x6 => ?_
    have eb : q.cells[3]? = some q.body := of_rfl rfl
    have l6 := x6.n
    have K6 : Keeps h4 h6 := ⟨by omega, fun b hb => by rw [x6.get b (by omega) (by omega), k5.get b hb]⟩
    simp only [go_sem, s_load1 b6, eb]
    refine (clone_is ((hn4.own q hq).keep K6).rd (hn.ok q hq).1 (by have := (hn.ok q hq).2; omega)).mono fun body' h7 ⟨o7, k7, f7⟩ => ?_
    refine t_store (k7.some b6) (by show 3 < 4; omega) o7.cell.1 o7.cell.2.2 fun h8 b8 x8 => ?_
    have es : q.cells.set 3 body' = [.int .i64 q.num, .int .i64 q.src, .int .i64 q.dst, body'] := rfl
    rw [es] at b8
    have l8 := x8.n
    have l7 := k7.n
    have K8 : Keeps h4 h8 := ⟨by omega, fun b hb => by rw [x8.get b (by omega) (by omega), k7.get b (by omega), K6.get b hb]⟩
    have o8 := o7.ext x8 fun b hb => by have := f7 b hb; omega
    have kn := k4.n
    let r : Pk := ⟨q.num, q.src, q.dst, body', q.cs⟩
    have er : valCells (.agg r.cells) = r.cells := rfl
    have hrl : rs.length = k := by have := congrArg List.length hnum; rw [List.length_map, List.length_take] at this; omega
    obtain ⟨v', h', ea, ga, xa, ra, fa⟩ := grow_one (bytes := 48) (N := k) (x := .agg r.cells) (gr.keep K8) (by omega) rfl (cells4_ok o8.cell.1) (pk_flat_ok fun r hr => (heach r hr).1.own.cell.1) (by rw [flat_length Pk.cells_len, hrl]) (by omega)
    rw [er] at ea ga
    have w1 : wrapA .i64 ((k : Int) + 1) = ((k + 1 : Nat) : Int) := by rw [wr_i64 (by omega) (by omega)]; rfl
    have eS : oBSl h8 1 4 [.int .i64 0, .int .i64 0, .int .i64 0, .nilSlice] [(0, 4, .agg r.cells)] = some (.slice h8.n 0 1 1 4 true, h8.push (.cells r.cells .own h8.n)) := s_oBSl1 (by omega) rfl rfl rfl (cells4_ok o8.cell.1)
    have eL : oLoad h8 (some 4) (.ptr h4.n 0) = some (.agg r.cells) := load4 b8 rfl
    simp only [go_sem, eL, eS, ea, w1]
    have fb : ∀ b, OnB body' b → h4.n ≤ b := fun b hb => by have := f7 b hb; omega
    refine ⟨_, ?_, k + 1, rs ++ [r], ⟨rfl, hk', rfl, ?_, ?_, ?_, ?_, ?_, ?_⟩⟩
    · omega
    · exact ((Ext.of (k4.trans K8) fun _ => False).trans xa (fun c hc ho => by have := fo c ho; omega)).keeps fun _ _ h => h
    · rw [List.flatMap_append, List.flatMap_singleton]; exact ga
    · exact fun b hb => by have := fa b hb; omega
    · rw [List.map_append, hnum, List.take_add_one, List.getElem?_eq_getElem hk']; simp [r, hqn]
    · intro r' hr'
      rcases List.mem_append.1 hr' with hr' | hr'
      · obtain ⟨⟨t1, t2, t3, t4⟩, t5⟩ := heach r' hr'
        refine ⟨⟨t1, (t2.keep K8).ext xa fun b hb => (t5 b hb).2, t3, t4⟩, fun b hb => ⟨(t5 b hb).1, fun ho => ?_⟩⟩
        have := fa b ho; have := (t2.lt b hb); omega
      · simp only [List.mem_singleton] at hr'; subst hr'
        have hno : ∀ b, OnB body' b → ¬ OnB out b := fun b hb ho => by have := fb b hb; have := gr.lt b ho; omega
        refine ⟨⟨⟨q, hq, rfl, rfl, rfl, rfl⟩, o8.ext xa hno, (hn.ok q hq).1, fun b hb => by have := fb b hb; have := kk3.n; omega⟩, fun b hb => ⟨by have := fb b hb; omega, fun ho => ?_⟩⟩
        have := fa b ho; have := o8.lt b hb; omega
    · rw [List.pairwise_append]
      refine ⟨hap, by simp, fun a ha b hb x hx hx2 => ?_⟩
      simp only [List.mem_singleton] at hb; subst hb
      have := fb x hx2; have := ((heach a ha).1.own.lt x hx); omega
  · have : k = N.length := by omega
    subst this
    simp only [go_sem]
    exact ⟨rs, gr.sl Pk.cells_len (by omega) rfl, kk3.trans k4, by rw [hnum, List.take_length, hN], fun r hr => (heach r hr).1, hap⟩
end
end Go.Proofs.Ytlfmiplojpcklaa.Net
