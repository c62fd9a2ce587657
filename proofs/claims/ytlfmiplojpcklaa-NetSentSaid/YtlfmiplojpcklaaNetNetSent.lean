/- NetSent: the law's walk, the calls. -/
import Derived.Test.YtlfmiplojpcklaaNetNetBody
set_option linter.unusedSimpArgs false
set_option linter.unusedVariables false
namespace Go.Proofs.Ytlfmiplojpcklaa.Net
open Go.Ax Go.Proofs
theorem filt_len {ps : List Pk} {q : Pk} (hq : q ∈ ps) (hd : (ps.map Pk.num).Nodup) : (ps.filter fun r => r.num ≠ q.num).length + 1 = ps.length := by
  induction ps with
  | nil => cases hq
  | cons r ps ih =>
    rw [List.map_cons, List.nodup_cons] at hd
    rw [List.filter_cons]
    rcases List.mem_cons.1 hq with rfl | hq
    · rw [if_neg (by simp), List.length_cons, List.filter_eq_self.2]
      intro r hr
      simp only [ne_eq, decide_not, Bool.not_eq_true', decide_eq_false_iff_not]
      exact fun e => hd.1 (e ▸ List.mem_map_of_mem hr)
    · have hne : r.num ≠ q.num := fun e => hd.1 (e ▸ List.mem_map_of_mem hq)
      rw [if_pos (by simpa using hne), List.length_cons, List.length_cons, ih hq hd.2]
theorem sum_set {cp : List Int} {j : Nat} (hj : j < cp.length) (x : Int) : (cp.set j x).sum = cp.sum - cp[j] + x := by
  induction cp generalizing j with
  | nil => cases hj
  | cons c cp ih =>
    cases j with
    | zero => simp only [List.set_cons_zero, List.sum_cons, List.getElem_cons_zero]; omega
    | succ j => simp only [List.set_cons_succ, List.sum_cons, List.getElem_cons_succ, ih (show j < cp.length by simpa using hj)]; omega
/-- Where the law's own things lie. -/
structure Places where
  np : Nat
  mb : Nat
  sb : Nat
  ob : Nat
  gb : Nat
  base : Nat
structure Places.Ok (p : Places) (h0 : Heap) : Prop where
  mb : h0.n ≤ p.mb
  np : p.mb < p.np
  sb : p.np < p.sb
  gb : p.sb < p.gb
  ob : p.gb < p.ob
  base : p.ob < p.base
structure SSt where
  ps : List Pk
  last : Int
  S : Nat
  ow : List Int
  cv : AVal
  cp : List Int
  lc : Nat
  lost : Int
  dl : Int
/-- The law's own state, i calls in. -/
structure SInv (h0 h : Heap) (p : Places) (s : SSt) (i : Nat) : Prop where
  keeps : Keeps h0 h
  bn : p.base ≤ h.n
  net : NetA h p.np p.mb s.ps s.last
  mem : Mem h p.sb p.ob p.gb s.S s.ow
  cop : Cop h s.cv s.cp s.lc
  cl : s.cp.length = s.S
  each : ∀ q ∈ s.ps, ∃ k : Nat, k < s.S ∧ q.src = k ∧ q.dst = (k : Int) + 1 ∧ q.cs = bodyC k ∧ s.ow[q.num.toNat]? = some ((k : Int) + 1)
  fresh : ∀ q ∈ s.ps, ∀ b, OnB q.body b → p.base ≤ b ∧ ¬ OnB s.cv b ∧ (s.cp ≠ [] → b ≠ s.lc)
  cb : ∀ b, OnB s.cv b → p.base ≤ b
  lb : s.cp ≠ [] → p.base ≤ s.lc
  ln : s.cp ≠ [] → s.lc < h.n
  le : s.last ≤ i
  Sl : (s.S : Int) ≤ s.last
  sum : s.cp.sum = s.ps.length + s.dl
  tot : s.last = s.cp.sum + s.lost
  bnd : ∀ x ∈ s.cp, -(i : Int) ≤ x ∧ x ≤ (i : Int) + 1
  lo : 0 ≤ s.lost ∧ s.lost ≤ i
  dlo : 0 ≤ s.dl ∧ s.dl ≤ i
section
variable {h0 h h' : Heap} {p : Places} {s : SSt} {i : Nat}
theorem SInv.keep (I : SInv h0 h p s i) (k : Keeps h h') : SInv h0 h' p s i :=
  { I with keeps := I.keeps.trans k, bn := Nat.le_trans I.bn k.n, net := I.net.keep k, mem := I.mem.keep k, cop := I.cop.keep k, ln := fun e => Nat.lt_of_lt_of_le (I.ln e) k.n }
theorem SInv.next (I : SInv h0 h p s i) : SInv h0 h p s (i + 1) :=
  { I with le := by have := I.le; omega, bnd := fun x hx => by have := I.bnd x hx; omega, lo := by have := I.lo; omega, dlo := by have := I.dlo; omega }
theorem SInv.owRoom (I : SInv h0 h p s i) {q : Pk} (hq : q ∈ s.ps) : ∃ n : Nat, q.num = n ∧ 1 ≤ n ∧ (n : Int) ≤ s.last := by
  have := I.net.num q hq
  exact ⟨q.num.toNat, by omega, by omega, by omega⟩
/-- A packet of the list that is told. -/
theorem told_of {hl : Heap} {rs : List Pk} {v : AVal} (I : SInv h0 h p s i) (L : ListA h s.ps v hl rs) {r : Pk} (hr : r ∈ rs) : ∃ q ∈ s.ps, ∃ k n : Nat, r.num = q.num ∧ q.num = n ∧ 1 ≤ n ∧ (n : Int) ≤ s.last ∧ k < s.S ∧ q.src = k ∧ q.dst = (k : Int) + 1 ∧ q.cs = bodyC k ∧ s.ow[n]? = some ((k : Int) + 1) := by
  obtain ⟨q, hq, e1, _, _, _⟩ := (L.each r hr).of
  obtain ⟨k, g1, g2, g3, g4, g5⟩ := I.each q hq
  obtain ⟨n, hn, h1, h2⟩ := I.owRoom hq
  refine ⟨q, hq, k, n, e1, hn, h1, h2, g1, g2, g3, g4, ?_⟩
  rw [hn] at g5
  simpa using g5
theorem ListA.len {hl : Heap} {ps rs : List Pk} {v : AVal} (L : ListA h ps v hl rs) : rs.length = ps.length := by
  have := congrArg List.length L.nums
  rw [List.length_map, (sortI_perm _).length_eq, List.length_map] at this
  exact this
/-- Delivered: it was sent. -/
theorem deliver_step (hP : p.Ok h0) (I : SInv h0 h p s i) {q : Pk} (hq : q ∈ s.ps) {k n : Nat} (hn : q.num = n) (hnl : (n : Int) ≤ s.last) (hi : i ≤ 399) (hk : k < s.S) (h1 : q.src = k) (h2 : q.dst = (k : Int) + 1) (h3 : q.cs = bodyC k) (h4 : s.ow[n]? = some ((k : Int) + 1)) {K : AVal → Heap → Prop}
    (kk : ∀ h', SInv h0 h' p { s with ps := s.ps.filter fun r => r.num ≠ q.num, dl := s.dl + 1 } (i + 1) → Ext (fun c => c = p.mb) h h' → K (.bool true) h') :
    FnC X net_Net_Deliver [.ptr p.np 0, .int .i64 q.num] h fun v h1 => ok (oExt 0 v) fun a => ok (oExt 1 v) fun e => callV X (.func (.func musterlaw08_NetSent_1) [] [.ptr p.sb 0, .ptr p.ob 0]) [a, e] h1 K := by
  have hS := I.Sl
  have hle := I.le
  refine (deliver_is I.net hq).mono fun v ha ⟨⟨body', e, oa, fa⟩, Na, Xa⟩ => ?_
  subst e
  have ma := I.mem.ext Xa (by have := hP.np; have := hP.sb; omega) (by have := hP.np; have := hP.sb; have := hP.gb; have := hP.ob; omega) (by have := hP.np; have := hP.sb; have := hP.gb; omega)
  rw [h3] at oa
  simp only [go_sem, appL_eq, List.nil_append, List.cons_append]
  rw [hn, h1, h2]
  refine (dlv_is ma oa.rd hk (by omega) (by omega) h4).mono fun v hb ⟨e, kb⟩ => ?_
  subst e
  refine kk hb ?_ (Xa.keepsTrans kb)
  have hlen := filt_len hq I.net.nd
  have J := I.next
  exact { keeps := (((Ext.of I.keeps fun _ => False).trans Xa fun c hc e => by have := hP.mb; omega).keeps fun _ _ h => h).trans kb
          bn := by have := I.bn; have := Xa.n; have := kb.n; show p.base ≤ hb.n; omega
          net := Na.keep kb
          mem := ma.keep kb
          cop := (I.cop.ext Xa fun b hb e => by have := I.cb b hb; have := hP.np; have := hP.sb; have := hP.gb; have := hP.ob; have := hP.base; omega).keep kb
          cl := I.cl
          each := fun r hr => I.each r (List.mem_filter.1 hr).1
          fresh := fun r hr => I.fresh r (List.mem_filter.1 hr).1
          cb := I.cb
          lb := I.lb
          ln := fun e => by have := I.ln e; have := Xa.n; have := kb.n; show s.lc < hb.n; omega
          le := J.le
          Sl := I.Sl
          sum := by have := I.sum; show s.cp.sum = ((s.ps.filter fun r => r.num ≠ q.num).length : Int) + (s.dl + 1); omega
          tot := I.tot
          bnd := J.bnd
          lo := J.lo
          dlo := by have := I.dlo; show 0 ≤ s.dl + 1 ∧ s.dl + 1 ≤ ((i + 1 : Nat) : Int); omega }
/-- A copy more, a copy less. -/
theorem write_step (hP : p.Ok h0) (hi0 : HInv h0) (I : SInv h0 h p s i) {k : Nat} (hk : k < s.S) (x : Int) {b : Nat} (hb : OnB s.cv b) {K : AVal → Heap → Prop}
    (kk : ∀ h', Keeps h0 h' → p.base ≤ h'.n → NetA h' p.np p.mb s.ps s.last → Mem h' p.sb p.ob p.gb s.S s.ow → Cop h' s.cv (s.cp.set k x) s.lc → s.lc < h'.n → K und h') : ok2 (oStore h 1 (.ptr b k) (.int .i64 x)) K := by
  have hkl : k < s.cp.length := by rw [I.cl]; exact hk
  have hne : s.cp ≠ [] := fun e => by rw [e] at hkl; cases hkl
  have lb := I.lb hne
  have p1 := hP.mb; have p2 := hP.np; have p3 := hP.sb; have p4 := hP.gb; have p5 := hP.ob; have p6 := hP.base
  have cb : ∀ c, OnB s.cv c → p.base ≤ c := I.cb
  refine Cop.set I.cop hkl hb fun h' C X => kk h' (X.keeps I.keeps hi0 (fun c hc => by have := cb c hc; omega) (by omega)) (Nat.le_trans I.bn X.n) ?_ ?_ C (Nat.lt_of_lt_of_le (I.ln hne) X.n)
  · exact ⟨X.cells I.net.box (fun hc => by have := cb _ hc; omega) (by omega), X.map I.net.map (fun hc => by have := cb _ hc; omega), fun q hq => X.own (I.net.own q hq) fun c hc => ⟨(I.fresh q hq c hc).2.1, (I.fresh q hq c hc).2.2 hne⟩, I.net.ok, I.net.sep, I.net.num, I.net.nd, I.net.last, I.net.few⟩
  · exact ⟨X.cells I.mem.sent (fun hc => by have := cb _ hc; omega) (by omega), X.cells I.mem.optr (fun hc => by have := cb _ hc; omega) (by omega), X.cells I.mem.row (fun hc => by have := cb _ hc; omega) (by omega), I.mem.len⟩
/-- Dropped. -/
theorem drop_step (hP : p.Ok h0) (hi0 : HInv h0) (I : SInv h0 h p s i) {q : Pk} (hq : q ∈ s.ps) {k n : Nat} (hn : q.num = n) (hnl : (n : Int) ≤ s.last) (hi : i ≤ 100) (hk : k < s.S) (h4 : s.ow[n]? = some ((k : Int) + 1)) {K : Heap → Prop}
    (kk : ∀ h' cp', SInv h0 h' p { s with ps := s.ps.filter fun r => r.num ≠ q.num, cp := cp', lost := s.lost + 1 } (i + 1) → K h') :
    FnC X net_Net_Drop [.ptr p.np 0, .int .i64 q.num] h fun v h1 => v = .int .i64 0 ∧ Ext (fun c => c = p.mb) h h1 ∧ (∃ b, oLoad h1 none (.ptr p.ob 0) = some (.slice p.gb 0 400 400 1 true) ∧ oIA 1 (.slice p.gb 0 400 400 1 true) (.int .i64 n) = some (.ptr p.gb n) ∧ oLoad h1 none (.ptr p.gb n) = some (.int .i64 ((k : Int) + 1)) ∧ oIA 1 s.cv (.int .i64 k) = some (.ptr b k) ∧ ∃ x : Int, -1000 ≤ x ∧ x ≤ 1000 ∧ oLoad h1 none (.ptr b k) = some (.int .i64 x) ∧ ok2 (oStore h1 1 (.ptr b k) (.int .i64 (x - 1))) fun _ h2 => K h2) := by
  have p1 := hP.mb; have p2 := hP.np; have p3 := hP.sb; have p4 := hP.gb; have p5 := hP.ob; have p6 := hP.base
  refine (drop_is I.net hq).mono fun v ha ⟨e, Na, Xa⟩ => ⟨e, Xa, ?_⟩
  have ma := I.mem.ext Xa (by omega) (by omega) (by omega)
  have hkl : k < s.cp.length := by rw [I.cl]; exact hk
  have hne : s.cp ≠ [] := fun e => by rw [e] at hkl; cases hkl
  have Ca := I.cop.ext Xa fun b hb e => by have := I.cb b hb; omega
  have hlen := filt_len hq I.net.nd
  let s' : SSt := { s with ps := s.ps.filter fun r => r.num ≠ q.num, lost := s.lost + 1, dl := s.dl, cp := s.cp }
  obtain ⟨b, ob, oi, ol⟩ := Ca.at hkl
  have hbn := I.bnd s.cp[k] (List.getElem_mem hkl)
  have hle := I.le; have hSl := I.Sl
  refine ⟨b, by rw [s_load1 ma.optr]; rfl, (ma.load (by omega) h4).1, (ma.load (by omega) h4).2, oi, s.cp[k], by omega, by omega, ol, ?_⟩
  have lb := I.lb hne
  have cb : ∀ c, OnB s.cv c → p.base ≤ c := I.cb
  have ka : Keeps h0 ha := ((Ext.of I.keeps fun _ => False).trans Xa fun c hc e => by omega).keeps fun _ _ h => h
  refine Cop.set Ca hkl ob fun h' C X => kk h' (s.cp.set k (s.cp[k] - 1)) ?_
  exact { keeps := X.keeps ka hi0 (fun c hc => by have := cb c hc; omega) (by show h0.n ≤ s.lc; omega)
          bn := by have := I.bn; have := Xa.n; have := X.n; show p.base ≤ h'.n; omega
          net := ⟨X.cells Na.box (fun hc => by have := cb _ hc; omega) (by omega), X.map Na.map (fun hc => by have := cb _ hc; omega), fun r hr => X.own (Na.own r hr) fun c hc => ⟨(I.fresh r (List.mem_filter.1 hr).1 c hc).2.1, (I.fresh r (List.mem_filter.1 hr).1 c hc).2.2 hne⟩, Na.ok, Na.sep, Na.num, Na.nd, Na.last, Na.few⟩
          mem := ⟨X.cells ma.sent (fun hc => by have := cb _ hc; omega) (by omega), X.cells ma.optr (fun hc => by have := cb _ hc; omega) (by omega), X.cells ma.row (fun hc => by have := cb _ hc; omega) (by omega), ma.len⟩
          cop := C
          cl := by rw [List.length_set]; exact I.cl
          each := fun r hr => I.each r (List.mem_filter.1 hr).1
          fresh := fun r hr c hc => ⟨(I.fresh r (List.mem_filter.1 hr).1 c hc).1, (I.fresh r (List.mem_filter.1 hr).1 c hc).2.1, fun _ => (I.fresh r (List.mem_filter.1 hr).1 c hc).2.2 hne⟩
          cb := I.cb
          lb := fun _ => lb
          ln := fun _ => by have := I.ln hne; have := Xa.n; have := X.n; show s.lc < h'.n; omega
          le := I.next.le
          Sl := I.Sl
          sum := by have := I.sum; show (s.cp.set k (s.cp[k] - 1)).sum = ((s.ps.filter fun r => r.num ≠ q.num).length : Int) + s.dl; rw [sum_set hkl]; omega
          tot := by have := I.tot; show s.last = (s.cp.set k (s.cp[k] - 1)).sum + (s.lost + 1); rw [sum_set hkl]; omega
          bnd := fun x hx => by
            rcases List.mem_or_eq_of_mem_set hx with hx | hx
            · exact I.next.bnd x hx
            · rw [hx]; omega
          lo := by have := I.lo; show 0 ≤ s.lost + 1 ∧ s.lost + 1 ≤ ((i + 1 : Nat) : Int); omega
          dlo := I.next.dlo }
end
end Go.Proofs.Ytlfmiplojpcklaa.Net
/- NetSent: the law's walk: sent, doubled. -/
set_option linter.unusedSimpArgs false
set_option linter.unusedVariables false
namespace Go.Proofs.Ytlfmiplojpcklaa.Net
open Go.Ax Go.Proofs
section
variable {h0 h h' : Heap} {p : Places} {s : SSt} {i : Nat}
theorem ow_set {ow : List Int} {n m : Nat} {x y : Int} (hne : n ≠ m) (h : ow[n]? = some x) : (ow.set m y)[n]? = some x := by
  rw [List.getElem?_set, if_neg (Ne.symm hne)]; exact h
/-- What changes is no cell of the net's bodies. -/
theorem own_fresh {h h' : Heap} {P : Nat → Prop} {q : Pk} (ho : Own h 1 q.body q.cs) (x : Ext P h h') (hp : ∀ b, OnB q.body b → ¬ P b) : Own h' 1 q.body q.cs := ho.ext x hp
/-- Another one of those on their way. -/
theorem double_step (hP : p.Ok h0) (hi0 : HInv h0) (I : SInv h0 h p s i) {q : Pk} (hq : q ∈ s.ps) {k n m : Nat} (hn : q.num = n) (hnl : (n : Int) ≤ s.last) (hm : s.last + 1 = (m : Int)) (hi : i ≤ 100) (hk : k < s.S) (h1 : q.src = k) (h2 : q.dst = (k : Int) + 1) (h3 : q.cs = bodyC k) (h4 : s.ow[n]? = some ((k : Int) + 1)) {K : Heap → Prop}
    (kk : ∀ h' s', s'.cv = s.cv → s'.last = s.last + 1 → s'.lost = s.lost → s'.dl = s.dl → SInv h0 h' p s' (i + 1) → K h') :
    FnC X net_Net_Double [.ptr p.np 0, .int .i64 q.num] h fun v h1 => v = .tup [.int .i64 (s.last + 1), .int .i64 0] ∧ Ext (fun c => c = p.np ∨ c = p.mb) h h1 ∧ oLoad h1 none (.ptr p.ob 0) = some (.slice p.gb 0 400 400 1 true) ∧ oIA 1 (.slice p.gb 0 400 400 1 true) (.int .i64 n) = some (.ptr p.gb n) ∧ oLoad h1 none (.ptr p.gb n) = some (.int .i64 ((k : Int) + 1)) ∧
      oIA 1 (.slice p.gb 0 400 400 1 true) (.int .i64 (s.last + 1)) = some (.ptr p.gb m) ∧ ok2 (oStore h1 1 (.ptr p.gb m) (.int .i64 ((k : Int) + 1))) fun _ h2 => oLoad h2 none (.ptr p.ob 0) = some (.slice p.gb 0 400 400 1 true) ∧ oLoad h2 none (.ptr p.gb m) = some (.int .i64 ((k : Int) + 1)) ∧
        ∃ b, oIA 1 s.cv (.int .i64 k) = some (.ptr b k) ∧ ∃ x : Int, -1000 ≤ x ∧ x ≤ 1000 ∧ oLoad h2 none (.ptr b k) = some (.int .i64 x) ∧ ok2 (oStore h2 1 (.ptr b k) (.int .i64 (x + 1))) fun _ h3 => K h3 := by
  have p1 := hP.mb; have p2 := hP.np; have p3 := hP.sb; have p4 := hP.gb; have p5 := hP.ob; have p6 := hP.base
  have hle := I.le; have hSl := I.Sl
  have hnum := I.net.num q hq
  have hpl : s.ps.length ≤ 200 := by
    have := I.sum; have := I.tot; have := I.lo; have := I.dlo; omega
  refine (double_is I.net (by omega) (by omega) hq).mono fun v ha ⟨e, ⟨body', Na, fa⟩, Xa⟩ => ⟨e, Xa, ?_⟩
  have ma := I.mem.ext Xa (by omega) (by omega) (by omega)
  have hkl : k < s.cp.length := by rw [I.cl]; exact hk
  have hne : s.cp ≠ [] := fun e => by rw [e] at hkl; cases hkl
  have cb : ∀ c, OnB s.cv c → p.base ≤ c := I.cb
  have lb := I.lb hne
  have lnn := I.ln hne
  have bn := I.bn
  have Ca := I.cop.ext Xa fun b hb e => by have := cb b hb; omega
  have ka : Keeps h0 ha := ((Ext.of I.keeps fun _ => False).trans Xa fun c hc e => by omega).keeps fun _ _ h => h
  refine ⟨by rw [s_load1 ma.optr]; rfl, (ma.load (by omega) h4).1, (ma.load (by omega) h4).2, by rw [hm]; exact by rw [s_oIA (by omega) (by omega) (by omega)]; simp, ?_⟩
  have hol := ma.len
  refine t_store ma.row (by rw [List.length_map]; omega) rfl rfl fun hb rb Xb => ?_
  have mb2 : Mem hb p.sb p.ob p.gb s.S (s.ow.set m ((k : Int) + 1)) := ⟨Xb.some ma.sent (by omega), Xb.some ma.optr (by omega), by rw [rb, List.map_set], by rw [List.length_set]; exact ma.len⟩
  have Cb := Ca.ext Xb fun b hb e => by have := cb b hb; omega
  have Nb := Na.ext Xb fun b hb e => by
    subst e
    rcases hb with hb | hb | ⟨r, hr, hb⟩
    · omega
    · omega
    · rcases List.mem_append.1 hr with hr | hr
      · have := (I.fresh r hr _ hb).1; omega
      · rw [List.mem_singleton.1 hr] at hb
        have := fa _ hb; omega
  have kb : Keeps h0 hb := ((Ext.of ka fun _ => False).trans Xb fun c hc e => by omega).keeps fun _ _ h => h
  obtain ⟨b, ob, oi, ol⟩ := Cb.at hkl
  have hbn := I.bnd s.cp[k] (List.getElem_mem hkl)
  have hmm : (s.ow.set m ((k : Int) + 1))[m]? = some ((k : Int) + 1) := by rw [List.getElem?_set, if_pos rfl, if_pos (by omega)]
  refine ⟨by rw [s_load1 mb2.optr]; rfl, (mb2.load (by omega) hmm).2, b, oi, s.cp[k], by omega, by omega, ol, ?_⟩
  have lxa := Xa.n
  have lxb := Xb.n
  refine Cop.set Cb hkl ob fun hc C X => kk hc { s with ps := s.ps ++ [⟨s.last + 1, q.src, q.dst, body', q.cs⟩], last := s.last + 1, ow := s.ow.set m ((k : Int) + 1), cp := s.cp.set k (s.cp[k] + 1) } rfl rfl rfl rfl ?_
  have frA : ∀ r ∈ s.ps ++ [⟨s.last + 1, q.src, q.dst, body', q.cs⟩], ∀ c, OnB r.body c → p.base ≤ c ∧ ¬ OnB s.cv c ∧ c ≠ s.lc := by
    intro r hr c hc
    rcases List.mem_append.1 hr with hr | hr
    · exact ⟨(I.fresh r hr c hc).1, (I.fresh r hr c hc).2.1, (I.fresh r hr c hc).2.2 hne⟩
    · rw [List.mem_singleton.1 hr] at hc
      have := fa c hc
      exact ⟨by omega, fun ho => by have := I.cop.lt c ho; omega, by omega⟩
  exact { keeps := X.keeps kb hi0 (fun c hc => by have := cb c hc; omega) (by show h0.n ≤ s.lc; omega)
          bn := by have := X.n; show p.base ≤ hc.n; omega
          net := ⟨X.cells Nb.box (fun hc => by have := cb _ hc; omega) (by omega), X.map Nb.map (fun hc => by have := cb _ hc; omega), fun r hr => X.own (Nb.own r hr) fun c hc => ⟨(frA r hr c hc).2.1, (frA r hr c hc).2.2⟩, Nb.ok, Nb.sep, Nb.num, Nb.nd, Nb.last, Nb.few⟩
          mem := ⟨X.cells mb2.sent (fun hc => by have := cb _ hc; omega) (by omega), X.cells mb2.optr (fun hc => by have := cb _ hc; omega) (by omega), X.cells mb2.row (fun hc => by have := cb _ hc; omega) (by omega), mb2.len⟩
          cop := C
          cl := by rw [List.length_set]; exact I.cl
          each := fun r hr => by
            rcases List.mem_append.1 hr with hr | hr
            · obtain ⟨k', g1, g2, g3, g4, g5⟩ := I.each r hr
              have := I.net.num r hr
              exact ⟨k', g1, g2, g3, g4, ow_set (by omega) g5⟩
            · rw [List.mem_singleton.1 hr]
              refine ⟨k, hk, h1, h2, h3, ?_⟩
              have : (s.last + 1).toNat = m := by omega
              show (s.ow.set m ((k : Int) + 1))[(s.last + 1).toNat]? = _
              rw [this]; exact hmm
          fresh := fun r hr c hc => ⟨(frA r hr c hc).1, (frA r hr c hc).2.1, fun _ => (frA r hr c hc).2.2⟩
          cb := I.cb
          lb := fun _ => lb
          ln := fun _ => by have := X.n; show s.lc < hc.n; omega
          le := by show s.last + 1 ≤ ((i + 1 : Nat) : Int); omega
          Sl := by show (s.S : Int) ≤ s.last + 1; omega
          sum := by have := I.sum; show (s.cp.set k (s.cp[k] + 1)).sum = ((s.ps ++ [_]).length : Int) + s.dl; rw [sum_set hkl, List.length_append, List.length_singleton]; omega
          tot := by have := I.tot; show s.last + 1 = (s.cp.set k (s.cp[k] + 1)).sum + s.lost; rw [sum_set hkl]; omega
          bnd := fun x hx => by
            rcases List.mem_or_eq_of_mem_set hx with hx | hx
            · exact I.next.bnd x hx
            · rw [hx]; omega
          lo := I.next.lo
          dlo := I.next.dlo }
/-- One is sent. -/
theorem send_step (hP : p.Ok h0) (hi0 : HInv h0) (I : SInv h0 h p s i) {m : Nat} (hm : s.last + 1 = (m : Int)) (hi : i ≤ 100) {body : AVal} (hr : Rd h body (bodyC s.S)) (hbf : ∀ b, OnB body b → b ≠ p.np) {K : AVal → Heap → Prop}
    (kk : ∀ h' s', s'.last = s.last + 1 → s'.lost = s.lost → s'.dl = s.dl → SInv h0 h' p s' (i + 1) → K s'.cv h') :
    FnC X net_Net_Send [.ptr p.np 0, .int .i64 s.S, .int .i64 ((s.S : Int) + 1), body] h fun v h1 => v = .tup [.int .i64 (s.last + 1), .int .i64 0] ∧ oLoad h1 none (.ptr p.sb 0) = some (.int .i64 s.S) ∧ ok2 (oStore h1 1 (.ptr p.sb 0) (.int .i64 ((s.S : Int) + 1))) fun _ h2 =>
      oLoad h2 none (.ptr p.ob 0) = some (.slice p.gb 0 400 400 1 true) ∧ oLoad h2 none (.ptr p.sb 0) = some (.int .i64 ((s.S : Int) + 1)) ∧ oIA 1 (.slice p.gb 0 400 400 1 true) (.int .i64 (s.last + 1)) = some (.ptr p.gb m) ∧
      ok2 (oStore h2 1 (.ptr p.gb m) (.int .i64 ((s.S : Int) + 1))) fun _ h3 => ok2 (oBSl h3 1 1 [.int .i64 0] [(0, 1, .int .i64 1)]) fun u h4 => ok2 (appendA h4 1 8 s.cv u) K := by
  have p1 := hP.mb; have p2 := hP.np; have p3 := hP.sb; have p4 := hP.gb; have p5 := hP.ob; have p6 := hP.base
  have hle := I.le; have hSl := I.Sl
  have hl0 := I.net.last
  have hpl : s.ps.length ≤ 200 := by
    have := I.sum; have := I.tot; have := I.lo; have := I.dlo; omega
  refine (send_is I.net (by omega) (by omega) hr (bodyC_ok _) (by rw [bodyC_len]; omega) hbf).mono fun v ha ⟨e, ⟨body', Na, fa⟩, Xa⟩ => ⟨e, ?_⟩
  have ma := I.mem.ext Xa (by omega) (by omega) (by omega)
  have cb : ∀ c, OnB s.cv c → p.base ≤ c := I.cb
  have bn := I.bn
  have Ca := I.cop.ext Xa fun b hb e => by have := cb b hb; omega
  have ka : Keeps h0 ha := ((Ext.of I.keeps fun _ => False).trans Xa fun c hc e => by omega).keeps fun _ _ h => h
  have lxa := Xa.n
  refine ⟨by rw [s_load1 ma.sent]; rfl, t_store ma.sent (by show 0 < 1; omega) rfl rfl fun hb rb Xb => ?_⟩
  simp only [List.set_cons_zero] at rb
  have hol := ma.len
  have lxb := Xb.n
  have optr := Xb.some ma.optr (by omega)
  refine ⟨by rw [s_load1 optr]; rfl, by rw [s_load1 rb]; rfl, by rw [hm, s_oIA (by omega) (by omega) (by omega)]; simp, t_store (Xb.some ma.row (by omega)) (by rw [List.length_map]; omega) rfl rfl fun hc rc Xc => ?_⟩
  have lxc := Xc.n
  have XX : Ext (fun b => b = p.sb ∨ b = p.gb) ha hc := (Xb.mono fun c _ e => .inl e).trans Xc fun c _ e => .inr e
  have fo : ∀ r ∈ s.ps ++ [⟨s.last + 1, (s.S : Int), (s.S : Int) + 1, body', bodyC s.S⟩], ∀ c, OnB r.body c → p.base ≤ c ∧ ¬ OnB s.cv c ∧ (s.cp ≠ [] → c ≠ s.lc) ∧ c < ha.n := by
    intro r hr c hcc
    refine ⟨?_, ?_, ?_, (Na.own r hr).lt c hcc⟩
    all_goals
      rcases List.mem_append.1 hr with hr | hr
      · first | exact (I.fresh r hr c hcc).1 | exact (I.fresh r hr c hcc).2.1 | exact (I.fresh r hr c hcc).2.2
      · rw [List.mem_singleton.1 hr] at hcc
        have := fa c hcc
        first | omega | exact fun ho => by have := I.cop.lt c ho; omega | exact fun hne => by have := I.ln hne; omega
  have Nc := Na.ext XX fun b hb e => by
    rcases hb with hb | hb | ⟨r, hr, hb⟩
    · omega
    · omega
    · have := (fo r hr b hb).1; omega
  have Cc := Ca.ext XX fun b hb e => by have := cb b hb; omega
  have kc : Keeps h0 hc := ((Ext.of ka fun _ => False).trans XX fun c hc e => by omega).keeps fun _ _ h => h
  have mc : Mem hc p.sb p.ob p.gb (s.S + 1) (s.ow.set m ((s.S : Int) + 1)) := ⟨Xc.some rb (by omega), Xc.some optr (by omega), by rw [rc, List.map_set], by rw [List.length_set]; exact ma.len⟩
  refine Cop.app Cc (by have := I.cl; omega) fun cv' hd lc' Cd Xd hlc hfr => ?_
  have lxd := Xd.n
  refine kk hd { ps := s.ps ++ [⟨s.last + 1, (s.S : Int), (s.S : Int) + 1, body', bodyC s.S⟩], last := s.last + 1, S := s.S + 1, ow := s.ow.set m ((s.S : Int) + 1), cv := cv', cp := s.cp ++ [1], lc := lc', lost := s.lost, dl := s.dl } rfl rfl rfl ?_
  exact { keeps := ((Ext.of kc fun _ => False).trans Xd fun c hcc e => by have := cb c e; omega).keeps fun _ _ h => h
          bn := by show p.base ≤ hd.n; omega
          net := Nc.ext Xd fun b hb e => by
            have := cb b e
            rcases hb with hb | hb | ⟨r, hr, hb⟩
            · omega
            · omega
            · exact (fo r hr b hb).2.1 e
          mem := mc.ext Xd (fun e => by have := cb _ e; omega) (fun e => by have := cb _ e; omega) (fun e => by have := cb _ e; omega)
          cop := Cd
          cl := by rw [List.length_append, List.length_singleton]; have := I.cl; show s.cp.length + 1 = s.S + 1; omega
          each := fun r hr => by
            rcases List.mem_append.1 hr with hr | hr
            · obtain ⟨k', g1, g2, g3, g4, g5⟩ := I.each r hr
              have := I.net.num r hr
              exact ⟨k', by show k' < s.S + 1; omega, g2, g3, g4, ow_set (by omega) g5⟩
            · rw [List.mem_singleton.1 hr]
              refine ⟨s.S, Nat.lt_succ_self _, rfl, rfl, rfl, ?_⟩
              have : (s.last + 1).toNat = m := by omega
              show (s.ow.set m ((s.S : Int) + 1))[(s.last + 1).toNat]? = _
              rw [this, List.getElem?_set, if_pos rfl, if_pos (by omega)]
          fresh := fun r hr c hcc => by
            have := fo r hr c hcc
            refine ⟨this.1, fun ho => by have := hfr c ho; omega, fun _ => ?_⟩
            show c ≠ lc'
            rcases hlc with ⟨rfl, hne⟩ | hl
            · exact this.2.2.1 hne
            · omega
          cb := fun b hb => by have := hfr b hb; omega
          lb := fun _ => by
            show p.base ≤ lc'
            rcases hlc with ⟨rfl, hne⟩ | hl
            · exact I.lb hne
            · omega
          ln := fun _ => by
            show lc' < hd.n
            rcases hlc with ⟨rfl, hne⟩ | hl
            · have := I.ln hne; omega
            · exact hl.2
          le := by show s.last + 1 ≤ ((i + 1 : Nat) : Int); omega
          Sl := by show ((s.S + 1 : Nat) : Int) ≤ s.last + 1; omega
          sum := by have := I.sum; show (s.cp ++ [1]).sum = ((s.ps ++ [_]).length : Int) + s.dl; rw [List.sum_append, List.length_append, List.length_singleton, List.sum_singleton]; omega
          tot := by have := I.tot; show s.last + 1 = (s.cp ++ [1]).sum + s.lost; rw [List.sum_append, List.sum_singleton]; omega
          bnd := fun x hx => by
            rcases List.mem_append.1 hx with hx | hx
            · exact I.next.bnd x hx
            · rw [List.mem_singleton.1 hx]; omega
          lo := I.next.lo
          dlo := I.next.dlo }
end
end Go.Proofs.Ytlfmiplojpcklaa.Net
/- NetSent: the law's walk: one call, all calls. -/
set_option linter.unusedSimpArgs false
set_option linter.unusedVariables false
namespace Go.Proofs.Ytlfmiplojpcklaa.Net
open Go.Ax Go.Proofs
section
variable {h0 h h' : Heap} {p : Places} {s : SSt} {i : Nat}
theorem ok2_mono {o : Option (AVal × Heap)} {K K' : AVal → Heap → Prop} (H : ok2 o K) (k : ∀ v h, K v h → K' v h) : ok2 o K' := by
  cases o with
  | none => exact H
  | some r => exact k _ _ H
/-- An element of the list that is told. -/
theorem elem_at {h : Heap} {v : AVal} {rs : List Pk} (hs : Sl h 4 Pk.cells v rs) {j : Nat} (hj : j < rs.length) : ∃ b o, oIA 4 v (.int .i64 (j : Int)) = some (.ptr b o) ∧ oLoad h (some 4) (.ptr b o) = some (.agg rs[j].cells) ∧ ∃ cs m l, h.get b = some (.cells cs m l) ∧ cs[o]? = some (.int .i64 rs[j].num) := by
  obtain ⟨b, o, m, ln, cs, ha, hb, hi, hc⟩ := Sl.at Pk.cells_len hs hj
  refine ⟨b, o, ha .i64, ?_, cs, m, ln, hb, by have := hc 0 (by decide); rw [Nat.add_zero] at this; rw [this]; rfl⟩
  rw [s_loadN hb hi]
  congr 2
  refine List.ext_getElem? fun x => ?_
  by_cases hx : x < 4
  · rw [List.getElem?_take, if_pos hx, List.getElem?_drop]; exact hc x hx
  · rw [List.getElem?_eq_none (by rw [List.length_take]; omega), List.getElem?_eq_none (by rw [Pk.cells_len]; omega)]
theorem step_is (hP : p.Ok h0) (hi0 : HInv h0) {Q : AVal → Heap → Prop} (hi : i < 100) {wv : AVal} {wl : List Int} (hw : Sl h0 1 (fun n => [.int .i64 n]) wv wl) (hwi : i < wl.length) (I : SInv h0 h p s i) :
    vc_musterlaw08_NetSent_A2 X Q (fun lost cv last dl h => ∃ s', SInv h0 h p s' (i + 1) ∧ lost = .int .i64 s'.lost ∧ cv = s'.cv ∧ last = .int .i64 s'.last ∧ dl = .int .i64 s'.dl) wv (.int .i64 i) (.ptr p.np 0) (.ptr p.sb 0) (.int .i64 s.last) (.ptr p.ob 0) s.cv (.int .i64 s.lost) (.int .i64 s.dl) h := by
  have p1 := hP.mb; have p2 := hP.np; have p3 := hP.sb; have p4 := hP.gb; have p5 := hP.ob; have p6 := hP.base
  unfold vc_musterlaw08_NetSent_A2
  obtain ⟨wb, wo, m0, l0, c0, wa, wg, wr, wc⟩ := Sl.at (k := 1) (enc := fun n : Int => [AVal.int .i64 n]) (fun _ => rfl) (hw.keep I.keeps) hwi
  have wx : c0[wo]? = some (.int .i64 wl[i]) := by have := wc 0 (by decide); rw [Nat.add_zero] at this; rw [this]; rfl
  obtain ⟨w, w0, w1, hpick⟩ := pick_is h wl[i] 1000003 (by decide) (by decide)
  simp only [go_sem, wa, s_load1 wg, wx, hpick.eq]
  refine (list_is I.net).mono fun l hl ⟨rs, L⟩ => ?_
  have J := I.keep L.keeps
  have hlen := L.sl.len
  have hrl := ListA.len L
  have hle := I.le
  have hl0 := I.net.last
  have hSl := I.Sl
  obtain ⟨m, hm⟩ : ∃ m : Nat, s.last + 1 = (m : Int) := ⟨(s.last + 1).toNat, by omega⟩
  have wl1 : wrapA .i64 (s.last + 1) = s.last + 1 := wr_i64 (by omega) (by omega)
  have wS : wrapA .i64 ((s.S : Int) + 1) = (s.S : Int) + 1 := wr_i64 (by omega) (by omega)
  have d0 : decide ((0 : Int) ≠ 0) = false := rfl
  have dn : ∀ a : Int, decide (a ≠ a) = false := fun a => by simp
  have h5 : Int.tmod w 5 = w % 5 := Int.tmod_eq_emod_of_nonneg w0
  have hq5 : Int.tdiv w 5 = w / 5 := Int.tdiv_eq_ediv_of_nonneg w0
  have ws : wrapA .i64 (w / 5) = w / 5 := wr_i64 (by omega) (by omega)
  -- one is sent
  have send : ok (oLoad hl none (.ptr p.sb 0)) fun v53 => ok (oLoad hl none (.ptr p.sb 0)) fun v54 => ok (binA .add v54 (.int .i64 1)) fun v55 => ok (oLoad hl none (.ptr p.sb 0)) fun v56 =>
      (oLoad hl none (.ptr p.sb 0) = some v56 ∧ oLoad hl none (.ptr p.sb 0) = some v54 ∧ oLoad hl none (.ptr p.sb 0) = some v53) ∧
      FnC X musterlaw08_body [v56] hl fun v57 h11 => (oLoad h11 none (.ptr p.sb 0) = some v54 ∧ oLoad h11 none (.ptr p.sb 0) = some v53) ∧
      FnC X net_Net_Send [.ptr p.np 0, v53, v55, v57] h11 fun v58 h12 => ok (oExt 0 v58) fun v59 => ok (oExt 1 v58) fun v60 => ok (binA .neq v60 (.int .i64 0)) fun v62 => ok (gsel v62 false (some v59)) fun v64 => ok (gsel v62 false (some (.int .i64 s.last))) fun v65 =>
      ok (gsel v62 false (binA .add v65 (.int .i64 1))) fun v66 => ok (gsel v62 false (binA .neq v64 v66)) fun v67 => ok (oPick v62 (.bool true) v67) fun v68 => br v68 (Q (.bool false) h12) (
      ok (oLoad h12 none (.ptr p.sb 0)) fun v69 => ok (binA .add v69 (.int .i64 1)) fun v70 => ok2 (oStore h12 1 (.ptr p.sb 0) v70) fun _ h13 => ok (oLoad h13 none (.ptr p.ob 0)) fun v72 => ok (oLoad h13 none (.ptr p.sb 0)) fun v74 => ok (oIA 1 v72 v59) fun v75 => ok2 (oStore h13 1 v75 v74) fun _ h14 =>
      ok2 (oBSl h14 1 1 [.int .i64 0] [(0, 1, .int .i64 1)]) fun v77 h15 => ok2 (appendA h15 1 8 s.cv v77) fun v78 h16 => ∃ s', SInv h0 h16 p s' (i + 1) ∧ .int .i64 s.lost = AVal.int .i64 s'.lost ∧ v78 = s'.cv ∧ v59 = .int .i64 s'.last ∧ .int .i64 s.dl = AVal.int .i64 s'.dl) := by
    have e0 : oLoad hl none (.ptr p.sb 0) = some (.int .i64 s.S) := by rw [s_load1 J.mem.sent]; rfl
    simp only [go_sem, e0, wS]
    refine (body_is hl s.S (by omega)).mono fun body h11 ⟨rb, kb, fb⟩ => ?_
    have J2 := J.keep kb
    have e1 : oLoad h11 none (.ptr p.sb 0) = some (.int .i64 s.S) := by rw [s_load1 J2.mem.sent]; rfl
    simp only [go_sem, e1]
    refine (send_step hP hi0 J2 hm (by omega) rb (fun b hb e => by have := fb b hb; have := J.bn; omega) (K := fun cv' h16 => ∃ s', SInv h0 h16 p s' (i + 1) ∧ .int .i64 s.lost = AVal.int .i64 s'.lost ∧ cv' = s'.cv ∧ .int .i64 (s.last + 1) = AVal.int .i64 s'.last ∧ .int .i64 s.dl = AVal.int .i64 s'.dl) fun h16 s' e1 e2 e3 I' => ⟨s', I', by rw [e2], rfl, by rw [e1], by rw [e3]⟩).mono fun v h12 ⟨e, f1, f2⟩ => ?_
    subst e
    simp only [go_sem, s_neq, d0, dn, wl1, f1, wS]
    refine ok2_mono f2 fun _ h13 ⟨g1, g2, g3, g4⟩ => ?_
    simp only [go_sem, g1, g2, g3]
    exact g4
  simp only [go_sem, hlen]
  refine t_eql (fun hz => ?_) fun hz => ?_
  · simp only [go_sem]
    exact send
  · simp only [go_sem, s_rem _ _ _ (show (5 : Int) ≠ 0 by decide), h5]
    refine t_lss (fun hs => ?_) fun hs => ?_
    · simp only [go_sem]
      exact send
    · have hpos : 0 < rs.length := by omega
      obtain ⟨j, hj, hjl⟩ : ∃ j : Nat, Int.tmod (w / 5) (rs.length : Int) = (j : Int) ∧ j < rs.length := by
        have e1 : Int.tmod (w / 5) (rs.length : Int) = (w / 5) % (rs.length : Int) := Int.tmod_eq_emod_of_nonneg (by omega)
        have e2 := Int.emod_nonneg (w / 5) (show (rs.length : Int) ≠ 0 by omega)
        have e3 := Int.emod_lt_of_pos (w / 5) (show (0 : Int) < rs.length by omega)
        exact ⟨((w / 5) % (rs.length : Int)).toNat, by rw [e1]; omega, by omega⟩
      obtain ⟨eb, eo, ea, el, _⟩ := elem_at L.sl hjl
      obtain ⟨q, hq, k, n, t1, t2, t3, t4, t5, t6, t7, t8, t9⟩ := told_of I L (List.getElem_mem hjl)
      have rok := (L.each _ (List.getElem_mem hjl)).own.cell.1
      generalize rs[j] = r at *
      have rnum : r.num = (n : Int) := t1.trans t2
      simp only [go_sem, s_quo _ _ _ (show (5 : Int) ≠ 0 by decide), hq5, ws, hlen, s_rem _ _ _ (show (rs.length : Int) ≠ 0 by omega), hj, ea, el]
      refine t_alloc _ fun h17 b17 k17 n17 => ?_
      refine t_storeN b17 rfl rfl (Pk.all_ok rok) fun h18 b18 x18 => ?_
      have J18 := J.keep (((Ext.of k17 fun _ => False).trans x18 fun c hc e => by omega).keeps fun _ _ h => h)
      have bnl := J.bn
      have wd : wrapA .i64 (s.dl + 1) = s.dl + 1 := wr_i64 (by have := I.dlo; omega) (by have := I.dlo; omega)
      have wlo : wrapA .i64 (s.lost + 1) = s.lost + 1 := wr_i64 (by have := I.lo; omega) (by have := I.lo; omega)
      have wk : wrapA .i64 ((k : Int) + 1 - 1) = (k : Int) := by rw [wr_i64 (by omega) (by omega)]; omega
      have en : r.cells[0]? = some (.int .i64 r.num) := of_rfl rfl
      have l18 : oLoad h18 none (.ptr hl.n 0) = some (.int .i64 q.num) := by rw [s_load1 b18, en, t1]
      simp only [go_sem, s_rem _ _ _ (show (5 : Int) ≠ 0 by decide), h5]
      refine t_eql (fun h2 => ?_) fun h2 => ?_
      · simp only [go_sem, l18]
        refine deliver_step hP J18 hq t2 t4 (by omega) t5 t6 t7 t8 t9 (K := fun v98 h20 => ok (unA .not v98) fun v99 => br v99 (Q (.bool false) h20) (ok (binA .add (.int .i64 s.dl) (.int .i64 1)) fun v101 => ∃ s', SInv h0 h20 p s' (i + 1) ∧ .int .i64 s.lost = AVal.int .i64 s'.lost ∧ s.cv = s'.cv ∧ .int .i64 s.last = AVal.int .i64 s'.last ∧ v101 = .int .i64 s'.dl)) fun h20 I' _ => ?_
        simp only [go_sem, wd]
        exact ⟨_, I', rfl, rfl, rfl, rfl⟩
      · simp only [go_sem]
        refine t_eql (fun h3 => ?_) fun h3 => ?_
        · simp only [go_sem, l18]
          refine (drop_step hP hi0 J18 hq t2 t4 (by omega) t5 t9 (K := fun h' => ∃ s', SInv h0 h' p s' (i + 1) ∧ .int .i64 (s.lost + 1) = AVal.int .i64 s'.lost ∧ s.cv = s'.cv ∧ .int .i64 s.last = AVal.int .i64 s'.last ∧ .int .i64 s.dl = AVal.int .i64 s'.dl) fun h' cp' I' => ⟨_, I', rfl, rfl, rfl, rfl⟩).mono fun v h21 ⟨e, X, b, f1, f2, f3, f4, x, x0, x1, f5, f6⟩ => ?_
          subst e
          have l21 : oLoad h21 none (.ptr hl.n 0) = some (.int .i64 n) := by rw [s_load1 (X.some b18 (by omega)), en, rnum]
          have wx1 : wrapA .i64 (x - 1) = x - 1 := wr_i64 (by omega) (by omega)
          simp only [go_sem, s_neq, d0, f1, l21, f2, f3, wk, f4, f5, wx1]
          refine ok2_mono f6 fun _ h22 g => ?_
          simp only [wlo]
          exact g
        · simp only [go_sem]
          refine t_eql (fun h4 => ?_) fun h4 => ?_
          · simp only [go_sem, l18]
            refine (double_step hP hi0 J18 hq t2 t4 hm (by omega) t5 t6 t7 t8 t9 (K := fun h' => ∃ s', SInv h0 h' p s' (i + 1) ∧ .int .i64 s.lost = AVal.int .i64 s'.lost ∧ s.cv = s'.cv ∧ .int .i64 (s.last + 1) = AVal.int .i64 s'.last ∧ .int .i64 s.dl = AVal.int .i64 s'.dl) fun h' s' e1 e2 e3 e4 I' => ⟨s', I', by rw [e3], e1.symm, by rw [e2], by rw [e4]⟩).mono fun v h23 ⟨e, X, f1, f2, f3, f4, f5⟩ => ?_
            subst e
            have l23 : oLoad h23 none (.ptr hl.n 0) = some (.int .i64 n) := by rw [s_load1 (X.some b18 (by omega)), en, rnum]
            simp only [go_sem, s_neq, d0, dn, wl1, f1, l23, f2, f3, f4]
            refine ok2_mono f5 fun _ h24 ⟨g1, g2, b, g3, x, x0, x1, g4, g5⟩ => ?_
            have wx1 : wrapA .i64 (x + 1) = x + 1 := wr_i64 (by omega) (by omega)
            simp only [go_sem, g1, f4, g2, wk, g3, g4, wx1]
            exact g5
          · omega
end
end Go.Proofs.Ytlfmiplojpcklaa.Net
/- NetSent: the law's walk: all calls, and what is left. -/
set_option linter.unusedSimpArgs false
set_option linter.unusedVariables false
namespace Go.Proofs.Ytlfmiplojpcklaa.Net
open Go.Ax Go.Proofs
theorem sum_small {B : Int} : ∀ {l : List Int}, (∀ x ∈ l, -B ≤ x ∧ x ≤ B) → -(B * l.length) ≤ l.sum ∧ l.sum ≤ B * l.length
  | [], _ => by simp
  | x :: l, h => by
    have h1 := h x (by simp)
    have h2 := sum_small (B := B) (l := l) fun y hy => h y (by simp [hy])
    rw [List.sum_cons, List.length_cons]
    have e : B * ((l.length + 1 : Nat) : Int) = B * l.length + B := by rw [Int.natCast_add, Int.mul_add]; simp
    rw [e]; omega
theorem perm_step {ps : List Pk} {x : Int} {r : List Int} (hp : (ps.map Pk.num).Perm (x :: r)) (hd : (ps.map Pk.num).Nodup) : ((ps.filter fun q => q.num ≠ x).map Pk.num).Perm r := by
  have e : (ps.filter fun q => q.num ≠ x).map Pk.num = (ps.map Pk.num).filter fun n => n ≠ x := by
    rw [List.filter_map]; rfl
  rw [e]
  have h1 := hp.filter fun n => decide (n ≠ x)
  have hnd := hp.nodup_iff.1 hd
  have e2 : (x :: r).filter (fun n => decide (n ≠ x)) = r := by
    rw [List.filter_cons, if_neg (by simp), List.filter_eq_self.2]
    intro n hn
    simp only [ne_eq, decide_not, Bool.not_eq_true', decide_eq_false_iff_not]
    exact fun e => (List.nodup_cons.1 hnd).1 (e ▸ hn)
  rw [e2] at h1; exact h1
section
variable {h0 h h' : Heap} {p : Places} {s : SSt} {i : Nat}
/-- All is told: what came is what was sent. -/
theorem last_is {s : SSt} (I : SInv h0 h p s i) (hi : i ≤ 250) (hps : s.ps = []) : vc_musterlaw08_NetSent_L4 X (fun v _ => v = .bool true) (fun n all k h2 => ∃ j : Nat, n = s.cp.length - j ∧ j ≤ s.cp.length ∧ all = .int .i64 ((s.cp.take j).sum) ∧ k = .int .i64 j ∧ h2 = h) s.cv (.int .i64 s.dl) (.ptr p.np 0) (.int .i64 s.last) (.int .i64 s.lost) := by
  unfold vc_musterlaw08_NetSent_L4
  rintro n all k h2 ⟨j, rfl, hj, rfl, rfl, e⟩
  rw [e]; clear e h2
  have hle := I.le
  have hl0 := I.net.last
  have hSl := I.Sl
  have hcl := I.cl
  have small : ∀ j, j ≤ s.cp.length → -100000 ≤ (s.cp.take j).sum ∧ (s.cp.take j).sum ≤ 100000 := by
    intro j hj
    have := sum_small (B := 300) (l := s.cp.take j) fun x hx => by have := I.bnd x (List.mem_of_mem_take hx); omega
    rw [List.length_take] at this
    omega
  have hs0 := small j hj
  simp only [go_sem, I.cop.len]
  refine t_lss (fun hlt => ?_) fun hlt => ?_
  · have hj' : j < s.cp.length := by omega
    obtain ⟨b, ob, oi, ol⟩ := I.cop.at hj'
    have hb := I.bnd s.cp[j] (List.getElem_mem hj')
    have w1 : wrapA .i64 ((j : Int) + 1) = ((j + 1 : Nat) : Int) := by rw [wr_i64 (by omega) (by omega)]; rfl
    have w2 : wrapA .i64 ((s.cp.take j).sum + s.cp[j]) = (s.cp.take (j + 1)).sum := by
      have et : s.cp.take (j + 1) = s.cp.take j ++ [s.cp[j]] := by rw [List.take_add_one, List.getElem?_eq_getElem hj']; rfl
      rw [wr_i64 (by omega) (by omega), et, List.sum_append, List.sum_singleton]
    simp only [go_sem, oi, ol, w1, w2]
    exact ⟨_, by omega, j + 1, rfl, hj', rfl, rfl⟩
  · have : j = s.cp.length := by omega
    subst this
    have hsum := I.sum
    have htot := I.tot
    rw [hps] at hsum
    simp only [List.length_nil] at hsum
    have e1 : s.dl = s.cp.sum := by omega
    have wt : wrapA .i64 (s.cp.sum + s.lost) = s.last := by rw [wr_i64 (by omega) (by omega)]; omega
    simp only [go_sem, List.take_length, s_eql, e1, decide_true]
    refine (list_is I.net).mono fun l hl ⟨rs, L⟩ => ?_
    have hrl := ListA.len L
    rw [hps] at hrl
    have hll : oLen l = some (.int .i64 0) := by rw [L.sl.len, hrl]; rfl
    simp only [go_sem, hll, s_eql, decide_true, wt]
    refine (awake_is hl).mono fun v h3 e => ?_
    subst e
    simp only [go_sem]
theorem rest_is (hP : p.Ok h0) (I : SInv h0 h p s i) (hi : i ≤ 100) : FnC X net_Net_List [.ptr p.np 0] h fun v159 h26 => ∃ I3 : Nat → AVal → AVal → Heap → Prop, (∃ n3, I3 n3 (.int .i64 s.dl) (.int .i64 0) h26) ∧
    vc_musterlaw08_NetSent_L3 X (fun v _ => v = .bool true) I3 v159 (.ptr p.np 0) (.ptr p.sb 0) (.ptr p.ob 0) s.cv (.int .i64 s.last) (.int .i64 s.lost) := by
  refine (list_is I.net).mono fun l hl ⟨rs, L⟩ => ?_
  have hrl := ListA.len L
  have hpl : s.ps.length ≤ 100 := by
    have := I.sum; have := I.tot; have := I.lo; have := I.dlo; have := I.le; omega
  refine ⟨fun n dl k h2 => ∃ (j : Nat) (s' : SSt), n = rs.length - j ∧ j ≤ rs.length ∧ k = .int .i64 j ∧ dl = .int .i64 s'.dl ∧ SInv h0 h2 p s' (i + j) ∧ s'.cv = s.cv ∧ s'.last = s.last ∧ s'.lost = s.lost ∧ (s'.ps.map Pk.num).Perm ((rs.drop j).map Pk.num) ∧ Ext (fun c => c = p.mb) hl h2, ⟨_, 0, s, rfl, by omega, rfl, rfl, I.keep L.keeps, rfl, rfl, rfl, by rw [List.drop_zero, L.nums]; exact (sortI_perm _).symm, Ext.refl _ _⟩, ?_⟩
  unfold vc_musterlaw08_NetSent_L3
  rintro n dl k h2 ⟨j, s', rfl, hj, rfl, rfl, I', e1, e2, e3, hperm, X2⟩
  simp only [go_sem, L.sl.len]
  refine t_lss (fun hlt => ?_) fun hlt => ?_
  · have hj' : j < rs.length := by omega
    obtain ⟨b, o, a, _, cs, m, ll, gb, gc⟩ := elem_at L.sl hj'
    have hm : b ≠ p.mb := by
      rintro rfl
      have := (I.net.keep L.keeps).map
      rw [gb] at this; cases this
    have gb2 := X2.some gb hm
    rw [List.drop_eq_getElem_cons hj', List.map_cons] at hperm
    obtain ⟨q, hq, hqn⟩ : ∃ q ∈ s'.ps, q.num = rs[j].num := by
      have : rs[j].num ∈ s'.ps.map Pk.num := hperm.mem_iff.2 (by simp)
      obtain ⟨q, hq, e⟩ := List.mem_map.1 this
      exact ⟨q, hq, e⟩
    obtain ⟨k, t5, t6, t7, t8, t9⟩ := I'.each q hq
    obtain ⟨n, hn, n1, n2⟩ := I'.owRoom hq
    rw [hn] at t9
    have t9' : s'.ow[n]? = some ((k : Int) + 1) := by simpa using t9
    have w1 : wrapA .i64 ((j : Int) + 1) = ((j + 1 : Nat) : Int) := by rw [wr_i64 (by omega) (by omega)]; rfl
    have hd := I'.dlo
    have wd : wrapA .i64 (s'.dl + 1) = s'.dl + 1 := wr_i64 (by omega) (by omega)
    simp only [go_sem, a, s_load1 gb2, gc, ← hqn, w1]
    refine deliver_step hP I' hq hn n2 (by omega) t5 t6 t7 t8 t9' (K := fun v h29 => ok (unA .not v) fun v177 => br v177 (AVal.bool false = .bool true) (ok (binA .add (.int .i64 s'.dl) (.int .i64 1)) fun v179 => ∃ m3, m3 < rs.length - j ∧ ∃ (j' : Nat) (s'' : SSt), m3 = rs.length - j' ∧ j' ≤ rs.length ∧ AVal.int .i64 ((j + 1 : Nat) : Int) = .int .i64 j' ∧ v179 = .int .i64 s''.dl ∧ SInv h0 h29 p s'' (i + j') ∧ s''.cv = s.cv ∧ s''.last = s.last ∧ s''.lost = s.lost ∧ (s''.ps.map Pk.num).Perm ((rs.drop j').map Pk.num) ∧ Ext (fun c => c = p.mb) hl h29)) fun h29 I'' X29 => ?_
    simp only [go_sem, wd]
    refine ⟨_, by omega, j + 1, _, rfl, hj', rfl, rfl, I'', e1, e2, e3, ?_, X2.trans X29 fun _ _ h => h⟩
    rw [← hqn] at hperm
    exact perm_step hperm I'.net.nd
  · have : j = rs.length := by omega
    subst this
    simp only [go_sem]
    rw [List.drop_length, List.map_nil] at hperm
    have hps : s'.ps = [] := List.map_eq_nil_iff.1 hperm.eq_nil
    have H := last_is I' (by omega) hps
    rw [e1, e2, e3] at H
    refine ⟨_, ?_, H⟩
    exact ⟨_, 0, rfl, Nat.zero_le _, rfl, rfl, rfl⟩
theorem sent_is (hi0 : HInv h0) {wv : AVal} {wl : List Int} (hw : Sl h0 1 (fun n => [.int .i64 n]) wv wl) : FnC X musterlaw08_NetSent [wv] h0 fun v _ => v = .bool true := by
  apply fn_musterlaw08_NetSent
  unfold vc_musterlaw08_NetSent
  refine (new_is h0).mono fun v h1 ⟨e, N1, k1⟩ => ?_
  subst e
  have l1 : h0.n + 1 < h1.n := Heap.get_lt N1.box
  refine t_alloc _ fun h2 b2 k2 n2 => ?_
  refine t_store b2 (by show 0 < 1; omega) rfl rfl fun h3 b3 x3 => ?_
  simp only [List.set_cons_zero] at b3
  have l3 := x3.n
  have eM : oMSl h3 1 [.int .i64 0] (.int .i64 400) (.int .i64 400) = some (.slice h3.n 0 400 400 1 true, h3.push (.cells (List.replicate 400 (.int .i64 0)) .own h3.n)) := s_oMSl (m := 400) (by omega)
  simp only [go_sem, eM]
  have k4 := Keeps.push h3 (.cells (List.replicate 400 (.int .i64 0)) .own h3.n)
  have g4 := s_get_push_eq h3 (.cells (List.replicate 400 (.int .i64 0)) .own h3.n)
  have n4 := s_n_push h3 (.cells (List.replicate 400 (.int .i64 0)) .own h3.n)
  generalize h3.push (.cells (List.replicate 400 (.int .i64 0)) .own h3.n) = h4 at *
  refine t_alloc _ fun h5 b5 k5 n5 => ?_
  refine t_store b5 (by show 0 < 1; omega) rfl rfl fun h6 b6 x6 => ?_
  simp only [List.set_cons_zero] at b6
  have l6 := x6.n
  obtain ⟨p, ep⟩ : ∃ p : Places, p = ⟨h0.n + 1, h0.n, h1.n, h4.n, h3.n, h6.n⟩ := ⟨_, rfl⟩
  have hP : p.Ok h0 := by subst ep; exact ⟨Nat.le_refl _, Nat.lt_succ_self _, l1, by show h1.n < h3.n; omega, by show h3.n < h4.n; omega, by show h4.n < h6.n; omega⟩
  have K3 : Keeps h1 h3 := ((Ext.of k2 fun _ => False).trans x3 fun c hc e => by omega).keeps fun _ _ h => h
  have K6 : Keeps h4 h6 := ((Ext.of k5 fun _ => False).trans x6 fun c hc e => by omega).keeps fun _ _ h => h
  have K16 := (K3.trans k4).trans K6
  let s0 : SSt := ⟨[], 0, 0, List.replicate 400 0, .nilSlice, [], 0, 0, 0⟩
  have I0 : SInv h0 h6 p s0 0 := by
    subst ep
    exact { keeps := k1.trans K16
            bn := Nat.le_refl _
            net := N1.keep K16
            mem := ⟨K6.some (k4.some b3), b6, K6.some (by rw [g4]; show _ = some (Blk.cells ((List.replicate 400 (0 : Int)).map _) _ _); rw [List.map_replicate]), List.length_replicate⟩
            cop := .nil 0
            cl := rfl
            each := fun q hq => by cases hq
            fresh := fun q hq => by cases hq
            cb := fun b hb => by cases hb
            lb := fun h => absurd rfl h
            ln := fun h => absurd rfl h
            le := by show (0 : Int) ≤ ((0 : Nat) : Int); omega
            Sl := by show ((0 : Nat) : Int) ≤ 0; omega
            sum := rfl
            tot := rfl
            bnd := fun x hx => by cases hx
            lo := by show (0 : Int) ≤ 0 ∧ (0 : Int) ≤ ((0 : Nat) : Int); omega
            dlo := by show (0 : Int) ≤ 0 ∧ (0 : Int) ≤ ((0 : Nat) : Int); omega }
  have e1 : AVal.ptr (h0.n + 1) 0 = .ptr p.np 0 := by rw [ep]
  have e2 : AVal.ptr h1.n 0 = .ptr p.sb 0 := by rw [ep]
  have e3 : AVal.ptr h4.n 0 = .ptr p.ob 0 := by rw [ep]
  rw [e1, e2, e3]
  refine ⟨fun n lost cv last dl k h => ∃ (i : Nat) (s : SSt), n = 100 - i ∧ i ≤ 100 ∧ k = .int .i64 i ∧ SInv h0 h p s i ∧ lost = .int .i64 s.lost ∧ cv = s.cv ∧ last = .int .i64 s.last ∧ dl = .int .i64 s.dl, ⟨_, 0, s0, rfl, by omega, rfl, I0, rfl, rfl, rfl, rfl⟩, ?_⟩
  unfold vc_musterlaw08_NetSent_L1
  rintro n lost cv last dl k h ⟨i, s, rfl, hi, rfl, I, rfl, rfl, rfl, rfl⟩
  simp only [go_sem, hw.len]
  have rest := rest_is hP I hi
  refine t_lss (fun h1 => ?_) fun h1 => ?_
  · simp only [go_sem]
    refine t_lss (fun h2 => ?_) fun h2 => ?_
    · simp only [go_sem]
      refine ⟨_, ?_, step_is hP hi0 (by omega) hw (by omega) I⟩
      unfold vc_musterlaw08_NetSent_R2
      rintro lost cv last dl h8 ⟨s', I', rfl, rfl, rfl, rfl⟩
      have w1 : wrapA .i64 ((i : Int) + 1) = ((i + 1 : Nat) : Int) := by rw [wr_i64 (by omega) (by omega)]; rfl
      simp only [go_sem, w1]
      exact ⟨_, by omega, i + 1, s', rfl, by omega, rfl, I', rfl, rfl, rfl, rfl⟩
    · simp only [go_sem]
      exact rest
  · simp only [go_sem]
    exact rest
end
end Go.Proofs.Ytlfmiplojpcklaa.Net
