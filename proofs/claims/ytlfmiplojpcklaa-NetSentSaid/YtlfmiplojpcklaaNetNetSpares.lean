/- NetSpares: the law's walk. -/
import Derived.Test.YtlfmiplojpcklaaNetNetAwake
import Derived.Test.YtlfmiplojpcklaaNetNetApart
set_option linter.unusedSimpArgs false
set_option linter.unusedVariables false
namespace Go.Proofs.Ytlfmiplojpcklaa.Net
open Go.Ax Go.Proofs
def u8 (n : Int) : List AVal := [.int .u8 n]
theorem u8_len (n : Int) : (u8 n).length = 1 := of_rfl rfl
theorem u8_U8 (l : List Int) : U8 (l.flatMap u8) := ⟨l, by induction l with
  | nil => rfl
  | cons x l ih => rw [List.flatMap_cons, ih]; rfl⟩
theorem min_is (a : Nat) : oMin [.int .i64 a, .int .i64 3000] = some (.int .i64 ((min a 3000 : Nat) : Int)) := by
  have e : oMin [.int .i64 a, .int .i64 3000] = some (.int .i64 (if (3000 : Int) < a then 3000 else a)) := rfl
  rw [e]; congr 2
  split <;> omega
/-- A cell of its own. -/
structure Cell1 (x : AVal) : Prop where
  unk : isUnk x = false
  cells : valCells x = [x]
  ok : cellOk x = true
theorem _root_.Go.Ax.Own.cell1 {h : Heap} {k : Nat} {v : AVal} {cs : List AVal} (ho : Own h k v cs) : Cell1 v := ⟨ho.cell.2.1, ho.cell.2.2, ho.cell.1⟩
theorem build5 {b : Nat} {x0 x1 x2 x3 x4 : AVal} (h0 : Cell1 x0) (h1 : Cell1 x1) (h2 : Cell1 x2) (h3 : Cell1 x3) (h4 : Cell1 x4) :
    m_buildSlice .leaf b 5 1 [.nilSlice] (vP [(0, 1, x0), (1, 1, x1), (2, 1, x2), (3, 1, x3), (4, 1, x4)]) = some (.slice b 0 5 5 1 true, .cells [x0, x1, x2, x3, x4] .own b) := by
  have e1 : (mapL (fun p : Nat × Nat × Arg => (p.1, p.2.1, p.2.2.eval .leaf)) (vP [(0, 1, x0), (1, 1, x1), (2, 1, x2), (3, 1, x3), (4, 1, x4)])) = [(0, 1, x0), (1, 1, x1), (2, 1, x2), (3, 1, x3), (4, 1, x4)] := rfl
  unfold m_buildSlice
  rw [e1]
  have e2 : repCells [.nilSlice] 5 = [.nilSlice, .nilSlice, .nilSlice, .nilSlice, .nilSlice] := rfl
  rw [e2]
  simp [fillA, h0.unk, h1.unk, h2.unk, h3.unk, h4.unk, h0.cells, h1.cells, h2.cells, h3.cells, h4.cells, lenL_eq, takeL_eq, dropL_eq, appL_eq, allL_eq, h0.ok, h1.ok, h2.ok, h3.ok, h4.ok]
theorem build2 {h : Heap} {x0 x1 : AVal} (h0 : Cell1 x0) (h1 : Cell1 x1) :
    oBSl h 2 1 [.nilSlice] [(0, 1, x0), (1, 1, x1)] = some (.slice h.n 0 2 2 1 true, h.push (.cells [x0, x1] .own h.n)) := by
  have e1 : (mapL (fun p : Nat × Nat × Arg => (p.1, p.2.1, p.2.2.eval .leaf)) (vP [(0, 1, x0), (1, 1, x1)])) = [(0, 1, x0), (1, 1, x1)] := rfl
  have : m_buildSlice .leaf h.n 2 1 [.nilSlice] (vP [(0, 1, x0), (1, 1, x1)]) = some (.slice h.n 0 2 2 1 true, .cells [x0, x1] .own h.n) := by
    unfold m_buildSlice
    rw [e1]
    have e2 : repCells [.nilSlice] 2 = [.nilSlice, .nilSlice] := rfl
    rw [e2]
    simp [fillA, h0.unk, h1.unk, h0.cells, h1.cells, lenL_eq, takeL_eq, dropL_eq, appL_eq, allL_eq, h0.ok, h1.ok]
  unfold oBSl; rw [this]; rfl
theorem apart_of {vs : List AVal} (hp : vs.Pairwise fun a b => ∀ x, OnB a x → ¬ OnB b x) (i j : Nat) (hi : i < vs.length) (hj : j < vs.length) (hne : i ≠ j) (b : Nat) (h1 : OnB vs[i] b) (h2 : OnB vs[j] b) : False := by
  rw [List.pairwise_iff_getElem] at hp
  rcases Nat.lt_or_gt_of_ne hne with h | h
  · exact hp i j hi hj h b h1 h2
  · exact hp j i hj hi h b h2 h1
/-- A row of lists, new. -/
theorem apart_new {h : Heap} {vs : List AVal} {n : Nat} {cs : List AVal} (hn : vs.length = n) (h0 : 0 < n) (hf : n ≤ 1000) (ho : ∀ v ∈ vs, Own h 1 v cs) (hl : cs.length ≤ 100000) (hp : vs.Pairwise fun a b => ∀ x, OnB a x → ¬ OnB b x) :
    Apart (h.push (.cells vs .own h.n)) (.slice h.n 0 n n 1 true) vs (fun _ => cs) := by
  subst hn
  refine ⟨.mk _ _ _ _ vs _ _ vs (s_get_push_eq _ _) h0 (Nat.le_refl _) (by omega) (by rw [one_flat]; simp), hf, ?_, fun j hj => (ho _ (List.getElem_mem hj)).keep (Keeps.push _ _), fun _ _ => hl, fun i j hi hj hne b h1 h2 => apart_of hp i j hi hj hne b h1 h2⟩
  rintro b hb ⟨v, hv, hb2⟩
  have := (ho v hv).lt b hb2
  have : b = h.n := hb
  omega
theorem map_two {rs : List Pk} {x y : Int} (h : rs.map Pk.num = [x, y]) : ∃ r s, rs = [r, s] ∧ r.num = x ∧ s.num = y := by
  match rs, h with
  | [r, s], h => simp at h; exact ⟨r, s, rfl, h.1, h.2⟩
/-- A packet's bytes, out of a list. -/
theorem body_at {h : Heap} {v : AVal} {rs : List Pk} (hs : Sl h 4 Pk.cells v rs) {j : Nat} (hj : j < rs.length) : ∃ b i, oIA 4 v (.int .i64 (j : Int)) = some (.ptr b i) ∧ oLoad h none (.ptr b (i + 3)) = some rs[j].body ∧ ∃ cs m l, h.get b = some (.cells cs m l) ∧ cs[i + 3]? = some rs[j].body := by
  obtain ⟨b, i, m, ln, cs, ha, hb, hi, hc⟩ := Sl.at Pk.cells_len hs hj
  have e : cs[i + 3]? = some rs[j].body := by rw [hc 3 (by decide)]; rfl
  exact ⟨b, i, ha .i64, by rw [s_load1 hb, e], cs, m, ln, hb, e⟩
theorem load_keep {h h' : Heap} {b i : Nat} {cs : List AVal} {m : Go.Ax.Mode} {l : Nat} {x : AVal} (e : h.get b = some (.cells cs m l)) (k : Keeps h h') (hx : cs[i]? = some x) : oLoad h' none (.ptr b i) = some x := by rw [s_load1 (k.some e), hx]

theorem Keeps.ext' {S : Nat → Prop} {h h1 h2 : Heap} (k : Keeps h h1) (x : Ext S h1 h2) (hs : ∀ b, S b → h.n ≤ b) : Keeps h h2 :=
  ((Ext.of k (fun _ => False)).trans x fun c hc h => by have := hs c h; omega).keeps fun _ _ h => h
theorem spares_is {h : Heap} {v : AVal} {l : List Int} (hs : Sl h 1 u8 v l) : FnC X musterlaw08_NetSpares [v] h fun r _ => r = .bool true := by
  apply fn_musterlaw08_NetSpares
  unfold vc_musterlaw08_NetSpares
  obtain ⟨v20, e20, s20, _⟩ := sl_hi u8_len hs (show min l.length 3000 ≤ l.length from Nat.min_le_left _ _) (kd := .i64)
  simp only [go_sem, hs.len, min_is, e20]
  have hU := u8_U8 (l.take (min l.length 3000))
  have hsrc0 := sl_src u8_len s20
  have hcl : ((l.take (min l.length 3000)).flatMap u8).length = (l.take (min l.length 3000)).length := by rw [flat_length u8_len, Nat.mul_one]
  have hc3 : ((l.take (min l.length 3000)).flatMap u8).length ≤ 3000 := by rw [hcl, List.length_take]; omega
  have hsrc : ∀ h', Keeps h h' → srcCells h' 1 v20 = some (((l.take (min l.length 3000)).flatMap u8).length, (l.take (min l.length 3000)).flatMap u8) := fun h' k => by rw [hcl]; exact sl_src u8_len (s20.keep k)
  generalize (l.take (min l.length 3000)).flatMap u8 = cs at *
  refine (copyBytes_is (hsrc h (Keeps.refl _)) rfl hU.ok (by omega)).mono fun v22 h1 ⟨o1, k1, f1⟩ => ?_
  refine (new_is h1).mono fun v h2 ⟨e, N2, k2⟩ => ?_
  subst e
  have l22 := o1.lt
  have nb22 : ∀ b, OnB v22 b → b ≠ h1.n + 1 := fun b hb => by have := l22 b hb; omega
  refine (send_is N2 (Nat.zero_lt_succ _) (by omega) (o1.keep k2).rd hU.ok (by omega) nb22).mono fun v h3 ⟨e, ⟨b1, N3, fb1⟩, x3⟩ => ?_
  subst e
  simp only [go_sem]
  obtain ⟨q1, eq1⟩ : ∃ q : Pk, q = ⟨1, 1, 2, b1, cs⟩ := ⟨_, rfl⟩
  replace N3 : NetA h3 (h1.n + 1) h1.n [q1] 1 := by rw [eq1]; exact N3
  have n1 : q1.num = 1 := by rw [eq1]
  have c1 : q1.cs = cs := by rw [eq1]
  have d : FnC X net_Net_Double [.ptr (h1.n + 1) 0, .int .i64 1] h3 (Put h3 (h1.n + 1) h1.n [q1] 1 1 2 cs) := by
    have := double_is N3 (by simp) (by omega) (q := q1) (by simp)
    rw [eq1] at this ⊢; exact this
  refine d.mono fun v h4 ⟨e, ⟨b2, N4, fb2⟩, x4⟩ => ?_
  subst e
  simp only [go_sem]
  obtain ⟨q2, eq2⟩ : ∃ q : Pk, q = ⟨2, 1, 2, b2, cs⟩ := ⟨_, rfl⟩
  have n2 : q2.num = 2 := by rw [eq2]
  have c2 : q2.cs = cs := by rw [eq2]
  replace N4 : NetA h4 (h1.n + 1) h1.n [q1, q2] 2 := by rw [eq2]; exact N4
  refine (list_is N4).mono fun v36 h5 ⟨rs, L5⟩ => ?_
  have N5 := N4.keep L5.keeps
  refine (list_is N5).mono fun v38 h6 ⟨ms, L6⟩ => ?_
  have N6 := N5.keep L6.keeps
  have hsort : sortI ([q1, q2].map Pk.num) = [1, 2] := by rw [List.map_cons, List.map_cons, n1, n2]; rfl
  obtain ⟨r1, r2, rfl, _, _⟩ := map_two (L5.nums.trans hsort)
  obtain ⟨m1, m2, rfl, _, _⟩ := map_two (L6.nums.trans hsort)
  have w0 : wrapA .i64 (0 + 0) = 0 := wr_i64 (by omega) (by omega)
  have d0 : decide ((0 : Int) ≠ 0) = false := rfl
  have d2 : decide ((2 : Int) ≠ 2) = false := rfl
  have lenL : oLen v36 = some (.int .i64 2) := L5.sl.len
  have lenM : oLen v38 = some (.int .i64 2) := L6.sl.len
  obtain ⟨br1, ir1, ar1, lr1, xr1, mr1, ll1, gr1, er1⟩ := body_at L5.sl (j := 0) (by simp)
  obtain ⟨br2, ir2, ar2, lr2, xr2, mr2, ll2, gr2, er2⟩ := body_at L5.sl (j := 1) (by simp)
  obtain ⟨bm1, im1, am1, lm1, xm1, mm1, lm1', gm1, em1⟩ := body_at L6.sl (j := 0) (by simp)
  obtain ⟨bm2, im2, am2, lm2, xm2, mm2, lm2', gm2, em2⟩ := body_at L6.sl (j := 1) (by simp)
  have kp : ∀ x, Keeps h6 (h6.push x) := fun x => Keeps.push _ _
  have cs_of : ∀ {hh h' : Heap} {r : Pk}, Told1 hh h' [q1, q2] r → r.cs = cs := by
    intro hh h' r t
    obtain ⟨q, hq, _, _, _, e⟩ := t.of
    rw [e]
    rcases List.mem_cons.1 hq with rfl | hq
    · exact c1
    · rw [List.mem_singleton.1 hq]; exact c2
  have T1 := L5.each r1 (by simp)
  have T2 := L5.each r2 (by simp)
  have T3 := L6.each m1 (by simp)
  have T4 := L6.each m2 (by simp)
  have O1 : Own h6 1 r1.body cs := cs_of T1 ▸ T1.own.keep L6.keeps
  have O2 : Own h6 1 r2.body cs := cs_of T2 ▸ T2.own.keep L6.keeps
  have O3 : Own h6 1 m1.body cs := cs_of T3 ▸ T3.own
  have O4 : Own h6 1 m2.body cs := cs_of T4 ▸ T4.own
  have lh1 : h1.n + 1 < h2.n := Heap.get_lt N2.box
  have lh3 := x3.n
  have lh4 := x4.n
  have lh5 := L5.keeps.n
  have lh6 := L6.keeps.n
  have X46 : Ext (fun b => b = h1.n + 1 ∨ b = h1.n) h1 h6 := by
    have a := (Ext.of k2 (fun b => b = h1.n + 1 ∨ b = h1.n)).trans x3 (fun _ _ h => h)
    exact ((a.trans x4 (fun _ _ h => h)).keepsTrans L5.keeps).keepsTrans L6.keeps
  have O5 : Own h6 1 v22 cs := o1.ext X46 fun b hb => by have := l22 b hb; omega
  have lt1 := T1.own.lt
  have lt2 := T2.own.lt
  have AP : ([r1.body, r2.body, m1.body, m2.body, v22] : List AVal).Pairwise fun a b => ∀ x, OnB a x → ¬ OnB b x := by
    have p5 := L5.apart
    have p6 := L6.apart
    simp only [List.pairwise_cons, List.mem_cons, List.not_mem_nil, or_false, forall_eq_or_imp, forall_eq, List.Pairwise.nil, and_true] at p5 p6 ⊢
    have z : ∀ {a b : AVal} {n : Nat}, (∀ x, OnB a x → x < n) → (∀ x, OnB b x → n ≤ x) → ∀ x, OnB a x → ¬ OnB b x := fun h1 h2 x hx hy => by have := h1 x hx; have := h2 x hy; omega
    have z' : ∀ {a b : AVal} {n : Nat}, (∀ x, OnB b x → x < n) → (∀ x, OnB a x → n ≤ x) → ∀ x, OnB a x → ¬ OnB b x := fun h1 h2 x hx hy => by have := h1 x hy; have := h2 x hx; omega
    have l22' : ∀ x, OnB v22 x → x < h4.n := fun x hx => by have := l22 x hx; omega
    have l22'' : ∀ x, OnB v22 x → x < h5.n := fun x hx => by have := l22 x hx; omega
    exact ⟨⟨p5.1, z lt1 T3.fresh, z lt1 T4.fresh, z' l22' T1.fresh⟩, ⟨z lt2 T3.fresh, z lt2 T4.fresh, z' l22' T2.fresh⟩, ⟨p6.1, z' l22'' T3.fresh⟩, z' l22'' T4.fresh, fun a ha => ha.elim⟩
  simp only [go_sem, w0, s_neq, d0, lenL, lenM, d2, show ((0 : Nat) : Int) = 0 from rfl, show ((1 : Nat) : Int) = 1 from rfl] at ar1 ar2 am1 am2 ⊢
  have a1 := load_keep gr1 L6.keeps er1
  have a2 := load_keep gr2 L6.keeps er2
  have a3 := load_keep gm1 (Keeps.refl _) em1
  have a4 := load_keep gm2 (Keeps.refl _) em2
  have b1' := fun x => load_keep gr1 (L6.keeps.push' x) er1
  have b2' := fun x => load_keep gr2 (L6.keeps.push' x) er2
  have b3' := fun x => load_keep gm1 ((Keeps.refl _).push' x) em1
  have b4' := fun x => load_keep gm2 ((Keeps.refl _).push' x) em2
  simp only [List.getElem_cons_zero, List.getElem_cons_succ] at a1 a2 a3 a4 b1' b2' b3' b4'
  simp only [go_sem, ar1, a1, ar2, a2, am1, a3, am2, a4, build5 O1.cell1 O2.cell1 O3.cell1 O4.cell1 O5.cell1, b1', b2', b3', b4']
  have hAp := apart_new (h := h6) (vs := [r1.body, r2.body, m1.body, m2.body, v22]) (n := 5) rfl (by omega) (by omega) (fun v hv => by
    simp only [List.mem_cons, List.not_mem_nil, or_false] at hv
    rcases hv with rfl | rfl | rfl | rfl | rfl
    · exact O1
    · exact O2
    · exact O3
    · exact O4
    · exact O5) (by omega) AP
  have onv : ∀ b, On [r1.body, r2.body, m1.body, m2.body, v22] b → h4.n ≤ b ∨ (h.n ≤ b ∧ b < h1.n) := by
    rintro b ⟨v, hv, hb⟩
    simp only [List.mem_cons, List.not_mem_nil, or_false] at hv
    rcases hv with rfl | rfl | rfl | rfl | rfl
    · exact .inl (T1.fresh b hb)
    · exact .inl (T2.fresh b hb)
    · have := T3.fresh b hb; exact .inl (by omega)
    · have := T4.fresh b hb; exact .inl (by omega)
    · exact .inr ⟨f1 b hb, l22 b hb⟩
  have foot : ∀ b, Foot (h1.n + 1) h1.n [q1, q2] b → h1.n ≤ b ∧ b < h4.n := by
    intro b hb
    refine ⟨?_, N4.foot b hb⟩
    rcases hb with rfl | rfl | ⟨q, hq, hb⟩
    · omega
    · omega
    · simp only [List.mem_cons, List.not_mem_nil, or_false] at hq
      rcases hq with rfl | rfl
      · rw [eq1] at hb; have := fb1 b hb; omega
      · rw [eq2] at hb; have := fb2 b hb; omega
  refine (apart_is hAp).mono fun v71 h7 ⟨e, X7⟩ => ?_
  subst e
  have N7 := (N6.keep (kp (.cells [r1.body, r2.body, m1.body, m2.body, v22] .own h6.n))).ext X7 fun b hb ho => by
    have := foot b hb
    rcases onv b ho with h | h <;> omega
  have d : FnC X net_Net_Deliver [.ptr (h1.n + 1) 0, .int .i64 1] h7 (Got h7 (h1.n + 1) h1.n [q1, q2] 2 q1) := by
    have := deliver_is N7 (q := q1) (by simp)
    rw [n1] at this; exact this
  have lh7 := X7.n
  rw [s_n_push] at lh7
  refine d.mono fun v h8 ⟨⟨bp, e, o8, f8⟩, N8, X8⟩ => ?_
  subst e
  simp only [go_sem]
  replace N8 : NetA h8 (h1.n + 1) h1.n [q2] 2 := by
    have : ([q1, q2].filter fun p => p.num ≠ q1.num) = [q2] := by simp [n1, n2]
    rw [this] at N8; exact N8
  have lh8 := X8.n
  refine t_alloc _ fun h9 a9 k9 e9 => ?_
  refine t_storeN a9 rfl rfl (cells4_ok o8.cell.1) fun h10 a10 x10 => ?_
  have lh10 := x10.n
  have f8' : ∀ b, Foot (h1.n + 1) h1.n [q2] b → b < h8.n := N8.foot
  have N10 := (N8.keep k9).ext x10 fun b hb => by have := f8' b hb; omega
  have d : FnC X net_Net_Deliver [.ptr (h1.n + 1) 0, .int .i64 2] h10 (Got h10 (h1.n + 1) h1.n [q2] 2 q2) := by
    have := deliver_is N10 (q := q2) (by simp)
    rw [n2] at this; exact this
  refine d.mono fun v h11 ⟨⟨bq, e, o11, f11⟩, _, X11⟩ => ?_
  subst e
  simp only [go_sem]
  have lh11 := X11.n
  refine t_alloc _ fun h12 a12 k12 e12 => ?_
  refine t_storeN a12 rfl rfl (cells4_ok o11.cell.1) fun h13 a13 x13 => ?_
  have lh13 := x13.n
  have l8 := o8.lt
  have l11 := o11.lt
  have O8 : Own h13 1 bp cs := c1 ▸ ((((o8.keep k9).ext x10 fun b hb e => by have := l8 b hb; omega).ext X11 fun b hb e => by have := f8 b hb; omega).keep k12).ext x13 fun b hb e => by have := l8 b hb; omega
  have O11 : Own h13 1 bq cs := c2 ▸ (o11.keep k12).ext x13 fun b hb e => by have := l11 b hb; omega
  have A10 := x13.some (k12.some (X11.some a10 (by omega))) (by omega)
  have K13 : Keeps h h13 := by
    have hn1 := k1.n
    have a := Keeps.ext' k1 X46 (fun b hb => by omega)
    have a := Keeps.ext' (a.trans (kp _)) X7 (fun b hb => by rcases onv b hb with h | h <;> omega)
    have a := (Keeps.ext' a X8 fun b hb => by omega).trans k9
    have a := Keeps.ext' (Keeps.ext' a x10 fun b hb => by omega) X11 fun b hb => by omega
    exact Keeps.ext' (a.trans k12) x13 fun b hb => by omega
  have noS : ∀ s, v20 ≠ .str s := s20.noStr
  have sm1 := same_is O8.rd.src (hsrc h13 K13) hU O8.rd.noStr noS
  have sm2 := same_is O11.rd.src (hsrc h13 K13) hU O11.rd.noStr noS
  have dd : decide ((0 : Int) = 0) = true := rfl
  simp only [go_sem, w0, s_eql, dd, decide_true, s_load1 A10, s_load1 a13, sm1.eq, sm2.eq, build2 O8.cell1 O11.cell1]
  have hAp2 := apart_new (h := h13) (vs := [bp, bq]) (n := 2) (cs := cs) rfl (by omega) (by omega) (fun v hv => by
    simp only [List.mem_cons, List.not_mem_nil, or_false] at hv
    rcases hv with rfl | rfl
    · exact O8
    · exact O11) (by omega) (by
    simp only [List.pairwise_cons, List.mem_cons, List.not_mem_nil, or_false, forall_eq, List.Pairwise.nil, and_true]
    exact ⟨fun x h1 h2 => by have := l8 x h1; have := f11 x h2; omega, fun a ha => ha.elim⟩)
  refine (apart_is hAp2).mono fun v h17 ⟨e, _⟩ => ?_
  subst e
  simp only [go_sem]
  refine (awake_is h17).mono fun v h18 e => ?_
  subst e
  simp only [go_sem]
end Go.Proofs.Ytlfmiplojpcklaa.Net
