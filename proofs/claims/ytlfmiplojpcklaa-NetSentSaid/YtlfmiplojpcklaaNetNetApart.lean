/- ApartBytes: lists that lie apart are told apart. -/
import Derived.Test.YtlfmiplojpcklaaNetNetLow
set_option linter.unusedSimpArgs false
set_option linter.unusedVariables false
namespace Go.Proofs.Ytlfmiplojpcklaa.Net
open Go.Ax Go.Proofs
def one (x : AVal) : List AVal := [x]
theorem one_flat (l : List AVal) : l.flatMap one = l := by
  induction l with
  | nil => rfl
  | cons x l ih => rw [List.flatMap_cons, ih]; rfl
theorem sl_get {h : Heap} {v : AVal} {vs : List AVal} (hs : Sl h 1 one v vs) {j : Nat} (hj : j < vs.length) : ∃ b i, (∀ kd, oIA 1 v (.int kd (j : Int)) = some (.ptr b i)) ∧ oLoad h none (.ptr b i) = some vs[j] := by
  obtain ⟨b, i, m, ln, cs, ha, hb, hi, hc⟩ := Sl.at (k := 1) (enc := one) (fun _ => rfl) hs hj
  exact ⟨b, i, ha, by rw [s_load1 hb]; have := hc 0 (by decide); rw [Nat.add_zero] at this; rw [this]; rfl⟩
theorem s_oMSl {h : Heap} {z : AVal} {m : Nat} (hm : m ≤ 1073741824) : oMSl h 1 [z] (.int .i64 m) (.int .i64 m) = some (.slice h.n 0 m m 1 true, h.push (.cells (List.replicate m z) .own h.n)) := by
  have hr : repCells [z] m = List.replicate m z := by
    induction m with
    | zero => rfl
    | succ m ih => rw [repCells, ih (by omega), appL_eq]; rfl
  have e : m_makeSlice .leaf h.n 1 [z] (.val (.int .i64 m)) (.val (.int .i64 m)) = some (.slice h.n 0 m m 1 true, .cells (List.replicate m z) .own h.n) := by
    unfold m_makeSlice
    show (if 0 ≤ (m : Int) ∧ (m : Int) ≤ m ∧ (m : Int) ≤ 1073741824 ∧ 0 < 1 ∧ lenL [z] = 1 then some (AVal.slice h.n 0 (m : Int).toNat (m : Int).toNat 1 true, Blk.cells (repCells [z] (m : Int).toNat) .own h.n) else none) = _
    rw [if_pos ⟨by omega, by omega, by omega, by decide, rfl⟩, Int.toNat_natCast, hr]
  unfold oMSl; rw [e]; rfl
def mk (k i : Nat) : AVal := .int .u8 (markV k i)
def M (k n : Nat) : List AVal := (List.range n).map (mk k)
theorem M_len (k n : Nat) : (M k n).length = n := by simp [M]
theorem M_ok (k n : Nat) : (M k n).all cellOk = true := by
  rw [List.all_eq_true]; intro x hx; obtain ⟨i, _, rfl⟩ := List.mem_map.1 hx; rfl
theorem M_get {k n i : Nat} (h : i < n) : (M k n)[i]'(by rw [M_len]; exact h) = mk k i := by simp [M]
theorem M_succ (k n : Nat) : M k (n + 1) = M k n ++ [mk k n] := by simp [M, List.range_succ]
theorem M_of {k : Nat} {l : List AVal} (h : ∀ i, i < l.length → l[i]? = some (mk k i)) : l = M k l.length := by
  refine List.ext_getElem? fun i => ?_
  by_cases hi : i < l.length
  · rw [h i hi, List.getElem?_eq_getElem (by rw [M_len]; exact hi), M_get hi]
  · rw [List.getElem?_eq_none (by omega), List.getElem?_eq_none (by rw [M_len]; omega)]
def On (vs : List AVal) (b : Nat) : Prop := ∃ v ∈ vs, OnB v b
/-- What is handed in. -/
structure Apart (h : Heap) (v0 : AVal) (vs : List AVal) (C : Nat → List AVal) : Prop where
  ls : Sl h 1 one v0 vs
  few : vs.length ≤ 1000
  sep : ∀ b, OnB v0 b → ¬ On vs b
  own : ∀ j (hj : j < vs.length), Own h 1 vs[j] (C j)
  len : ∀ j, j < vs.length → (C j).length ≤ 100000
  apart : ∀ i j (hi : i < vs.length) (hj : j < vs.length), i ≠ j → ∀ b, OnB vs[i] b → ¬ OnB vs[j] b
structure AInv (h h2 : Heap) (bg : Nat) (vs : List AVal) (C W : Nat → List AVal) : Prop where
  ext : Ext (On vs) h h2
  row : h2.get bg = some (.cells (List.replicate vs.length .nilSlice) .own bg)
  own : ∀ j (hj : j < vs.length), Own h2 1 vs[j] (W j)
  len : ∀ j, j < vs.length → (W j).length = (C j).length
section
variable {h : Heap} {v0 : AVal} {vs : List AVal} {C : Nat → List AVal}
theorem Apart.ls' (H : Apart h v0 vs C) {h2 : Heap} (x : Ext (On vs) h h2) : Sl h2 1 one v0 vs := H.ls.ext x H.sep
theorem Apart.lt (H : Apart h v0 vs C) {j : Nat} (hj : j < vs.length) : ∀ b, OnB vs[j] b → b < h.n := (H.own j hj).lt
theorem AInv.store (H : Apart h v0 vs C) {h2 : Heap} {bg : Nat} (hbg : h.n ≤ bg) {W : Nat → List AVal} (a : AInv h h2 bg vs C W) {k i : Nat} (hk : k < vs.length) (hi : i < (W k).length) {n : Int} {K : AVal → Heap → Prop}
    (kk : ∀ h3, AInv h h3 bg vs C (fun j => if j = k then (W k).set i (.int .u8 n) else W j) → K und h3) : ∃ b o, oIA 1 vs[k] (.int .i64 (i : Int)) = some (.ptr b o) ∧ ok2 (oStore h2 1 (.ptr b o) (.int .u8 n)) K := by
  have hown := a.own k hk
  rcases hown.isNil with ⟨_, e⟩ | ⟨B, m, e, hB, hl, h0⟩
  · rw [e] at hi; cases hi
  · rw [Nat.mul_one] at hl
    refine ⟨B, i, by rw [e, s_oIA (by omega) (by omega) h0]; simp, ?_⟩
    have hon : ∀ b, b = B ↔ OnB vs[k] b := fun b => by rw [e]; exact Iff.rfl
    refine t_store hB hi rfl rfl fun h3 b3 x3 => kk h3 ⟨?_, ?_, ?_, ?_⟩
    · exact a.ext.trans x3 fun c _ hc => ⟨vs[k], List.getElem_mem hk, (hon c).1 hc⟩
    · refine x3.some a.row fun hc => ?_
      have := H.lt hk _ ((hon bg).1 hc); omega
    · intro j hj
      by_cases hjk : j = k
      · subst hjk
        rw [if_pos rfl, e]
        exact .mk B m _ b3 (by rw [List.length_set]; omega) h0
      · rw [if_neg hjk]
        exact (a.own j hj).ext x3 fun b hb hc => H.apart j k hj hk hjk b hb ((hon b).1 hc)
    · intro j hj
      show (if j = k then (W k).set i (.int .u8 n) else W j).length = _
      by_cases hjk : j = k
      · subst hjk; rw [if_pos rfl, List.length_set]; exact a.len j hj
      · rw [if_neg hjk]; exact a.len j hj
/-- While they are grown. -/
structure BInv (h h2 : Heap) (bg : Nat) (vs : List AVal) (C : Nat → List AVal) (kk : Nat) (gs : List AVal) : Prop where
  ext : Ext (On vs) h h2
  row : h2.get bg = some (.cells gs .own bg)
  gl : gs.length = vs.length
  rd : ∀ j (hj : j < vs.length), Sl h2 1 one vs[j] (M j (C j).length)
  gr : ∀ j (hj : j < gs.length), j < kk → Sl h2 1 one gs[j] (M j ((C j).length + 40)) ∧ ∀ b, OnB gs[j] b → b ≠ bg
theorem binv_start (H : Apart h v0 vs C) {h2 : Heap} {bg : Nat} {W : Nat → List AVal} (a : AInv h h2 bg vs C W) (hw : ∀ j, j < vs.length → ∀ i, i < (C j).length → (W j)[i]? = some (mk j i)) :
    BInv h h2 bg vs C 0 (List.replicate vs.length .nilSlice) ∧ ∀ j (hj : j < vs.length), 0 ≤ j → Own h2 1 vs[j] (M j (C j).length) := by
  have e : ∀ j, j < vs.length → W j = M j (C j).length := fun j hj => by rw [← a.len j hj]; exact M_of fun i hi => hw j hj i (by rw [← a.len j hj]; exact hi)
  have o : ∀ j (hj : j < vs.length), Own h2 1 vs[j] (M j (C j).length) := fun j hj => e j hj ▸ a.own j hj
  exact ⟨⟨a.ext, a.row, List.length_replicate, fun j hj => (o j hj).sl, fun j hj h => by omega⟩, fun j hj _ => o j hj⟩
theorem apart_is (H : Apart h v0 vs C) : FnC X musterlow_ApartBytes [v0] h fun v h' => v = .bool true ∧ Ext (On vs) h h' := by
  apply fn_musterlow_ApartBytes
  unfold vc_musterlow_ApartBytes
  have hfew := H.few
  simp only [go_sem, H.ls.len, s_oMSl (show vs.length ≤ 1073741824 by omega)]
  generalize hgs : AVal.slice h.n 0 vs.length vs.length 1 true = gsv
  refine ⟨fun n v h2 => ∃ k W, n = vs.length - k ∧ k ≤ vs.length ∧ v = .int .i64 (k : Nat) ∧ AInv h h2 h.n vs C W ∧ ∀ j, j < k → ∀ i, i < (C j).length → (W j)[i]? = some (mk j i), ⟨_, 0, C, rfl, by omega, rfl, ⟨(Ext.refl _ _).push _, s_get_push_eq _ _, fun j hj => (H.own j hj).keep (Keeps.push _ _), fun _ _ => rfl⟩, fun j hj => by omega⟩, ?_⟩
  unfold vc_musterlow_ApartBytes_L1
  rintro n v h2 ⟨k, W, rfl, hk, rfl, a, hw⟩
  simp only [go_sem, H.ls.len]
  refine t_lss (fun hlt => ?_) (fun hlt => ?_)
  · -- one list is marked
    have hk' : k < vs.length := by omega
    simp only [go_sem]
    refine ⟨fun n v h3 => ∃ i W, n = (C k).length - i ∧ i ≤ (C k).length ∧ v = .int .i64 (i : Nat) ∧ AInv h h3 h.n vs C W ∧ (∀ j, j < k → ∀ i, i < (C j).length → (W j)[i]? = some (mk j i)) ∧ ∀ i', i' < i → (W k)[i']? = some (mk k i'), ⟨_, 0, W, rfl, by omega, rfl, a, hw, fun i hi => by omega⟩, ?_⟩
    unfold vc_musterlow_ApartBytes_L2
    rintro n v h3 ⟨i, W, rfl, hi, rfl, a, hw, hwi⟩
    obtain ⟨b0, o0, ha0, hl0⟩ := sl_get (H.ls' a.ext) hk'
    have hlk := a.len k hk'
    have hC := H.len k hk'
    have hln : oLen vs[k] = some (.int .i64 (C k).length) := by rw [(a.own k hk').len, hlk]
    simp only [go_sem, ha0, hl0, hln]
    refine t_lss (fun hli => ?_) (fun hli => ?_)
    · have w1 : wrapA .i64 ((i : Int) + 1) = ((i + 1 : Nat) : Int) := by rw [wr_i64 (by omega) (by omega)]; rfl
      simp only [go_sem, (mark_is h3 k i).eq, hl0, w1]
      obtain ⟨b, o, e1, e2⟩ := AInv.store H (Nat.le_refl _) a hk' (i := i) (by omega) (n := markV k i) (K := fun _ h5 => ∃ m2, m2 < (C k).length - i ∧ ∃ i' W, m2 = (C k).length - i' ∧ i' ≤ (C k).length ∧ AVal.int .i64 ((i + 1 : Nat) : Int) = .int .i64 (i' : Nat) ∧ AInv h h5 h.n vs C W ∧ (∀ j, j < k → ∀ i, i < (C j).length → (W j)[i]? = some (mk j i)) ∧ ∀ i'', i'' < i' → (W k)[i'']? = some (mk k i'')) (by
        intro h5 a5
        refine ⟨_, ?_, i + 1, _, rfl, by omega, rfl, a5, ?_, ?_⟩
        · omega
        · intro j hj i' hi'
          show (if j = k then (W k).set i (.int .u8 (markV k i)) else W j)[i']? = _
          rw [if_neg (by omega)]; exact hw j hj i' hi'
        · intro i' hi'
          show (if k = k then (W k).set i (.int .u8 (markV k i)) else W k)[i']? = _
          rw [if_pos rfl, List.getElem?_set]
          by_cases e : i = i'
          · subst e; rw [if_pos rfl, if_pos (by omega)]; rfl
          · rw [if_neg e]; exact hwi i' (by omega))
      simp only [e1, go_sem]
      exact e2
    · have w1 : wrapA .i64 ((k : Int) + 1) = ((k + 1 : Nat) : Int) := by rw [wr_i64 (by omega) (by omega)]; rfl
      simp only [go_sem, w1]
      refine ⟨_, ?_, k + 1, W, rfl, hk', rfl, a, ?_⟩
      · omega
      · intro j hj i' hi'
        by_cases e : j = k
        · subst e; exact hwi i' (by omega)
        · exact hw j (by omega) i' hi'
  · -- each is grown
    have : k = vs.length := by omega
    subst this
    simp only [go_sem]
    obtain ⟨B0, O0⟩ := binv_start H a hw
    refine ⟨fun n v h2 => ∃ k gs, n = vs.length - k ∧ k ≤ vs.length ∧ v = .int .i64 (k : Nat) ∧ BInv h h2 h.n vs C k gs ∧ ∀ j (hj : j < vs.length), k ≤ j → Own h2 1 vs[j] (M j (C j).length), ⟨_, 0, _, rfl, by omega, rfl, B0, O0⟩, ?_⟩
    unfold vc_musterlow_ApartBytes_L3
    rintro n v h6 ⟨k, gs, rfl, hk, rfl, B, O⟩
    simp only [go_sem, H.ls.len]
    refine t_lss (fun hlt => ?_) (fun hlt => ?_)
    · have hk' : k < vs.length := by omega
      obtain ⟨b0, o0, ha0, hl0⟩ := sl_get (H.ls' B.ext) hk'
      have hC := H.len k hk'
      simp only [go_sem, ha0, hl0]
      refine ⟨fun n g v h7 => ∃ j, n = 40 - j ∧ j ≤ 40 ∧ v = .int .i64 (j : Nat) ∧ BInv h h7 h.n vs C k gs ∧ (∀ j (hj : j < vs.length), k < j → Own h7 1 vs[j] (M j (C j).length)) ∧ Grow h7 1 g (M k ((C k).length + j)) ∧ (∀ b, OnB g b → OnB vs[k] b ∨ (h.n ≤ b ∧ b ≠ h.n)), ⟨_, 0, rfl, by omega, rfl, B, fun j hj h => O j hj (by omega), (O k hk' (Nat.le_refl _)).grow, fun b hb => .inl hb⟩, ?_⟩
      unfold vc_musterlow_ApartBytes_L4
      rintro n g v h7 ⟨j, rfl, hj, rfl, B, O, gr, fo⟩
      refine t_lss (fun hlj => ?_) (fun hlj => ?_)
      · obtain ⟨b0, o0, ha0, hl0⟩ := sl_get (H.ls' B.ext) hk'
        have hln : oLen vs[k] = some (.int .i64 (C k).length) := by rw [(B.rd k hk').len, M_len]
        have w1 : wrapA .i64 (((C k).length : Int) + (j : Int)) = (((C k).length + j : Nat) : Int) := by rw [wr_i64 (by omega) (by omega)]; omega
        have w2 : wrapA .i64 ((j : Int) + 1) = ((j + 1 : Nat) : Int) := by rw [wr_i64 (by omega) (by omega)]; rfl
        obtain ⟨v', h', ea, ga, xa, ra, fa⟩ := grow_one (bytes := 1) (N := (C k).length + j) (x := mk k ((C k).length + j)) gr (by omega) rfl rfl (M_ok _ _) (by rw [M_len]; omega) (by omega)
        have eS : oBSl h7 1 1 [.int .u8 0] [(0, 1, .int .u8 (markV k (((C k).length + j : Nat) : Int)))] = some (.slice h7.n 0 1 1 1 true, h7.push (.cells (valCells (mk k ((C k).length + j))) .own h7.n)) := s_oBSl1 (by omega) rfl rfl rfl rfl
        simp only [go_sem, ha0, hl0, hln, w1, (mark_is h7 k (((C k).length + j : Nat) : Int)).eq, eS, ea, w2]
        have hg7 : h.n < h7.n := Heap.get_lt B.row
        have hnot : ∀ j' (hj' : j' < vs.length), j' ≠ k → ∀ b, OnB vs[j'] b → ¬ OnB g b := by
          intro j' hj' hne b hb ho
          rcases fo b ho with h1 | h1
          · exact H.apart j' k hj' hk' hne b hb h1
          · have := H.lt hj' b hb; omega
        refine ⟨_, ?_, j + 1, rfl, by omega, rfl, ⟨?_, ?_, B.gl, ?_, ?_⟩, ?_, ?_, ?_⟩
        · omega
        · refine B.ext.trans xa fun c hc ho => ?_
          rcases fo c ho with h1 | h1
          · exact ⟨_, List.getElem_mem hk', h1⟩
          · omega
        · refine xa.some B.row fun ho => ?_
          rcases fo _ ho with h1 | h1
          · have := H.lt hk' _ h1; omega
          · exact h1.2 rfl
        · exact fun j' hj' => (B.rd j' hj').rd ra
        · exact fun j' hj' hl => ⟨(B.gr j' hj' hl).1.rd ra, (B.gr j' hj' hl).2⟩
        · exact fun j' hj' hl => (O j' hj' hl).ext xa fun b hb => hnot j' hj' (by omega) b hb
        · rw [show (C k).length + (j + 1) = ((C k).length + j) + 1 by omega, M_succ]; exact ga
        · exact fun b hb => by have := fa b hb; exact .inr ⟨by omega, by omega⟩
      · have hj40 : j = 40 := by omega
        subst hj40
        have ei : oIA 1 gsv (.int .i64 (k : Int)) = some (.ptr h.n k) := by rw [← hgs, s_oIA (by omega) (by omega) (by omega)]; simp
        have w1 : wrapA .i64 ((k : Int) + 1) = ((k + 1 : Nat) : Int) := by rw [wr_i64 (by omega) (by omega)]; rfl
        simp only [go_sem, ei]
        refine t_store B.row (by rw [B.gl]; exact hk') gr.cell.1 gr.cell.2.2 fun h11 b11 x11 => ?_
        simp only [go_sem, w1]
        have hgb : ∀ b, OnB g b → b ≠ h.n := by
          intro b hb
          rcases fo b hb with h1 | h1
          · have := H.lt hk' b h1; omega
          · exact h1.2
        refine ⟨_, ?_, k + 1, _, rfl, hk', rfl, ⟨?_, b11, by rw [List.length_set]; exact B.gl, ?_, ?_⟩, ?_⟩
        · omega
        · exact B.ext.trans x11 fun c hc e => by omega
        · exact fun j' hj' => (B.rd j' hj').ext x11 fun b hb => by have := H.lt hj' b hb; omega
        · intro j' hj' hl
          rw [List.length_set] at hj'
          rw [List.getElem_set]
          by_cases e : k = j'
          · subst e
            rw [if_pos rfl]
            refine ⟨?_, hgb⟩
            have := gr.sl (enc := one) (l := M k ((C k).length + 40)) (fun _ => rfl) Nat.one_pos (one_flat _).symm
            exact this.ext x11 hgb
          · rw [if_neg e]
            obtain ⟨g1, g2⟩ := B.gr j' hj' (by omega)
            exact ⟨g1.ext x11 g2, g2⟩
        · exact fun j' hj' hl => (O j' hj' (by omega)).ext x11 fun b hb => by have := H.lt hj' b hb; omega
    · -- all are looked at
      have : k = vs.length := by omega
      subst this
      simp only [go_sem]
      have G : ∀ j (hj : j < gs.length), Sl h6 1 one gs[j] (M j ((C j).length + 40)) := fun j hj => (B.gr j hj (by rw [← B.gl]; exact hj)).1
      have gsl : Sl h6 1 one gsv gs := by
        rw [← hgs, ← B.gl]
        by_cases h0 : gs.length = 0
        · rw [h0, List.eq_nil_of_length_eq_zero h0]; exact .zero _ _ _ _ (.inl rfl)
        · exact .mk _ _ _ _ gs _ _ gs B.row (by omega) (Nat.le_refl _) (by omega) (by rw [one_flat]; simp)
      refine ⟨fun n v h2 => ∃ k : Nat, n = vs.length - k ∧ k ≤ vs.length ∧ v = .int .i64 k ∧ h2 = h6, ⟨_, 0, rfl, by omega, rfl, rfl⟩, ?_⟩
      unfold vc_musterlow_ApartBytes_L5
      rintro n v h12 ⟨k, rfl, hk, rfl, e12⟩
      rw [e12]; clear e12 h12
      simp only [go_sem, H.ls.len]
      refine t_lss (fun hlt => ?_) (fun hlt => ?_)
      · have hk' : k < vs.length := by omega
        have hC := H.len k hk'
        simp only [go_sem]
        refine ⟨fun n v h2 => ∃ i : Nat, n = (C k).length + 40 - i ∧ i ≤ (C k).length + 40 ∧ v = .int .i64 i ∧ h2 = h6, ⟨_, 0, rfl, by omega, rfl, rfl⟩, ?_⟩
        unfold vc_musterlow_ApartBytes_L6
        rintro n v h13 ⟨i, rfl, hi, rfl, e13⟩
        rw [e13]; clear e13 h13
        have hkg : k < gs.length := by rw [B.gl]; exact hk'
        obtain ⟨b1, o1, ha1, hl1⟩ := sl_get gsl hkg
        have hlg : oLen gs[k] = some (.int .i64 ((C k).length + 40 : Nat)) := by rw [(G k hkg).len, M_len]
        simp only [go_sem, ha1, hl1, hlg]
        refine t_lss (fun hli => ?_) (fun hli => ?_)
        · simp only [go_sem]
          have hi' : i < (C k).length + 40 := by omega
          refine ⟨fun v h2 => v = .bool false ∧ h2 = h6, ?_, ?_⟩
          · unfold vc_musterlow_ApartBytes_R7
            rintro v14 h14 ⟨e14, e15⟩
            rw [e14, e15]; clear e14 e15 v14 h14
            have w1 : wrapA .i64 ((i : Int) + 1) = ((i + 1 : Nat) : Int) := by rw [wr_i64 (by omega) (by omega)]; rfl
            simp only [go_sem, w1]
            exact ⟨_, by omega, i + 1, rfl, hi', rfl⟩
          · unfold vc_musterlow_ApartBytes_A7
            obtain ⟨b2, o2, ha2, hl2⟩ := sl_get (G k hkg) (show i < (M k ((C k).length + 40)).length by rw [M_len]; exact hi')
            obtain ⟨b3, o3, ha3, hl3⟩ := sl_get (H.ls' B.ext) hk'
            have hlv : oLen vs[k] = some (.int .i64 (C k).length) := by rw [(B.rd k hk').len, M_len]
            rw [M_get hi'] at hl2
            unfold mk at hl2
            have c1 : decide (markV k i ≠ markV k i) = false := by simp
            simp only [go_sem, ha1, hl1, ha2, hl2, (mark_is h6 k i).eq, s_neq, c1, ha3, hl3, hlv, s_lss]
            by_cases hil : (i : Int) < ((C k).length : Int)
            · have hi2 : i < (C k).length := by omega
              obtain ⟨b4, o4, ha4, hl4⟩ := sl_get (B.rd k hk') (show i < (M k (C k).length).length by rw [M_len]; exact hi2)
              rw [M_get hi2] at hl4
              unfold mk at hl4
              simp only [go_sem, hil, decide_true, ha3, hl3, ha4, hl4, (mark_is h6 k i).eq, s_neq, c1, ha1, hl1, ha2, hl2]
            · have eu : binA .neq und und = none := rfl
              simp only [go_sem, hil, decide_false, ha3, hl3, ha1, hl1, ha2, hl2]
        · have w1 : wrapA .i64 ((k : Int) + 1) = ((k + 1 : Nat) : Int) := by rw [wr_i64 (by omega) (by omega)]; rfl
          simp only [go_sem, w1]
          exact ⟨_, by omega, k + 1, rfl, hk', rfl⟩
      · simp only [go_sem]
        exact B.ext
end
end Go.Proofs.Ytlfmiplojpcklaa.Net
