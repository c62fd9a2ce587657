/- Code, calls: what the abstract machine answers, the true one answers. -/
import Derived.Test.YtlfmiplojpcklaaAxDraw3
import Derived.Scope
import Derived.LoopN
set_option linter.unusedSimpArgs false
set_option linter.unusedVariables false
namespace Go.Ax

section
variable {P : Program} {call : Nat → List AVal → Heap → Option (AVal × Heap)} {ops : Array Oper} {tr : List Rec} {s0 send : St}

theorem countP_lt {p q : Nat → Bool} : ∀ (l : List Nat), (∀ x ∈ l, q x = true → p x = true) → (∃ x ∈ l, p x = true ∧ q x = false) → l.countP q < l.countP p := by
  intro l
  induction l with
  | nil => intro _ h; obtain ⟨x, hx, _⟩ := h; simp at hx
  | cons y l ih =>
    intro h1 ⟨x, hx, h2, h3⟩
    have hle : l.countP q ≤ l.countP p := List.countP_mono_left fun z hz => h1 z (by simp [hz])
    rw [List.countP_cons, List.countP_cons]
    rcases List.mem_cons.1 hx with rfl | hx
    · rw [if_pos h2, h3]; simp; omega
    · have := ih (fun z hz => h1 z (by simp [hz])) ⟨x, hx, h2, h3⟩
      have h4 := h1 y (by simp)
      cases hq : q y <;> cases hp : p y <;> simp [hq, hp] at h4 ⊢ <;> omega

theorem Facts.small (F : Facts P call ops tr s0 send) {r : Rec} (hr : r ∈ tr) : r.i < ops.size := by
  obtain ⟨A, B, h⟩ := split_of hr
  obtain ⟨o, ho, _⟩ := (F.statAt h).op
  exact (Array.getElem?_eq_some_iff.1 ho).1

theorem first_not (f : Rec → Bool) : ∀ (l : List Rec), (∃ r ∈ l, f r = false) → ∃ A r B, l = A ++ r :: B ∧ (∀ u ∈ A, f u = true) ∧ f r = false := by
  intro l
  induction l with
  | nil => rintro ⟨r, hr, _⟩; simp at hr
  | cons x l ih =>
    rintro ⟨r, hr, he⟩
    cases hx : f x with
    | false => exact ⟨[], x, l, rfl, by simp, hx⟩
    | true =>
      rcases List.mem_cons.1 hr with rfl | hr
      · rw [hx] at he; cases he
      · obtain ⟨A, u, B, h1, h2, h3⟩ := ih ⟨r, hr, he⟩
        refine ⟨x :: A, u, B, by rw [h1]; rfl, fun y hy => ?_, h3⟩
        rcases List.mem_cons.1 hy with rfl | hy
        · exact hx
        · exact h2 y hy

theorem Inv.over (F : Facts P call ops tr s0 send) {φ0 : Emb} {w0 : World} {ds : List Deferred} {listed : Array Bool} {a : Act} {w : World} {φ : Emb} {A C : List Rec} {mid : St} (I : Inv F φ0 w0 ds listed a w φ A C mid) (hall : ∀ r ∈ tr, exd listed r = true) :
    TRel φ send.t a.tmps ∧ Rel φ send.h w ∧ Fr φ0 s0.h w0 φ send.h w ∧ a.defers = ds := by
  have hC : C = [] := by
    rcases I.next with h | ⟨k, C', h, _, he⟩
    · exact h
    · have := hall k (by rw [I.split, h]; simp)
      rw [he] at this; cases this
  have hmid : mid = send := by have := I.l2; rw [hC] at this; exact this
  subst hmid
  refine ⟨?_, I.rel, I.fr, I.defers⟩
  have h1 := linked_fold F.lk F.ok
  rw [h1, ← fold_congr tr s0.t hall]
  exact I.trel

theorem ready_dir {o : Oper} {listed : Array Bool} (h : ∀ d ∈ directs o, listed.getD d false = true) : ∀ e ∈ o.after, Region.binds .any e = true → listed.getD e.on false = true := by
  intro e he hb
  refine h e.on (List.mem_map.2 ⟨e, List.mem_filter.2 ⟨by simpa using he, hb⟩, rfl⟩)

theorem sim (F : Facts P call ops tr s0 send) (hcall : CallOk P call) {φ0 : Emb} {w0 : World} {ds : List Deferred} (hR0 : Rel φ0 s0.h w0) {Q : Exit → Act → World → Prop}
    (hQ : ∀ φ' a' w', TRel φ' send.t a'.tmps → Rel φ' send.h w' → Fr φ0 s0.h w0 φ' send.h w' → a'.defers = ds → Q .normal a' w') :
    ∀ (fuel : Nat) (listed : Array Bool) (a : Act) (w : World), listed.size = ops.size → (List.range ops.size).countP (fun i => !listed.getD i false) ≤ fuel → (∃ φ A C mid, Inv F φ0 w0 ds listed a w φ A C mid) → wpAny P .any ops Q fuel listed a w := by
  intro fuel
  have over : ∀ (listed : Array Bool) (a : Act) (w : World), listed.size = ops.size → (∃ φ A C mid, Inv F φ0 w0 ds listed a w φ A C mid) → (∀ r ∈ tr, exd listed r = true) → Q .normal a w := by
    intro listed a w _ ⟨φ, A, C, mid, I⟩ hall
    obtain ⟨h1, h2, h3, h4⟩ := I.over F hall
    exact hQ φ a w h1 h2 h3 h4
  have none_ready : ∀ (listed : Array Bool), listed.size = ops.size → Region.ready .any ops listed = [] → ∀ r ∈ tr, exd listed r = true := by
    intro listed hsz hr r hrt
    cases he : exd listed r with
    | true => rfl
    | false =>
      obtain ⟨A, u, B, h1, h2, h3⟩ := first_not (exd listed) tr ⟨r, hrt, he⟩
      obtain ⟨o, ho, _, hd, _⟩ := (F.statAt h1).op
      have hu : u ∈ tr := by rw [h1]; simp
      have hlt : u.i < listed.size := by rw [hsz]; exact F.small hu
      have : u.i ∈ Region.ready .any ops listed := by
        rw [mem_ready]
        refine ⟨?_, o, ho, ready_dir fun d hdd => ?_⟩
        · have h4 : listed.getD u.i false = false := h3
          simp [Array.getD, hlt] at h4 ⊢; exact h4
        · obtain ⟨x, hx, hxi⟩ := hd d hdd
          have := h2 x hx
          rw [exd, hxi] at this; exact this
      rw [hr] at this; simp at this
  induction fuel with
  | zero =>
    intro listed a w hsz hc hI
    have hall : ∀ r ∈ tr, exd listed r = true := by
      intro r hr
      have h0 : (List.range ops.size).countP (fun i => !listed.getD i false) = 0 := by omega
      rw [List.countP_eq_zero] at h0
      have := h0 r.i (List.mem_range.2 (F.small hr))
      simpa [exd] using this
    refine ⟨?_, over listed a w hsz hI hall⟩
    cases hr : Region.ready .any ops listed with
    | nil => rfl
    | cons i l =>
      have hm : i ∈ Region.ready .any ops listed := by rw [hr]; simp
      rw [mem_ready] at hm
      obtain ⟨h1, o, ho, _⟩ := hm
      have hlt := (Array.getElem?_eq_some_iff.1 ho).1
      obtain ⟨r, hrt, rfl⟩ := F.cover i hlt
      have := hall r hrt
      have hlt2 : r.i < listed.size := by rw [hsz]; exact hlt
      simp [exd, Array.getD, hlt2] at this h1
      rw [this] at h1; cases h1
  | succ fuel ih =>
    intro listed a w hsz hc hI
    refine ⟨fun hr => over listed a w hsz hI (none_ready listed hsz hr), fun i hi => ?_⟩
    rw [mem_ready] at hi
    obtain ⟨h1, o, ho, hd⟩ := hi
    have hlt := (Array.getElem?_eq_some_iff.1 ho).1
    have hlt2 : i < listed.size := by rw [hsz]; exact hlt
    obtain ⟨r, hrt, rfl⟩ := F.cover i hlt
    have hnot : listed.getD r.i false = false := by simp [Array.getD, hlt2] at h1 ⊢; exact h1
    obtain ⟨φ, A, C, mid, I⟩ := hI
    obtain ⟨Ar, Br, hsp⟩ := split_of hrt
    obtain ⟨o', ho', _, _, hpre⟩ := (F.statAt hsp).op
    rw [ho] at ho'; simp only [Option.some.injEq] at ho'; subst ho'
    have hdir : ∀ d ∈ directs o, listed.getD d false = true := by
      intro d hdd
      obtain ⟨e, he, rfl⟩ := List.mem_map.1 hdd
      obtain ⟨he1, he2⟩ := List.mem_filter.1 he
      exact hd e (by simpa using he1) he2
    refine I.step F hcall hR0 hrt hlt2 hnot (fun p hp => ?_) fun a' w' φ' A' C' mid' I' => ih _ a' w' (by simp [hsz]) ?_ ⟨φ', A', C', mid', I'⟩
    · rcases hpre p hp with h | ⟨u, hu, hu1, hu2⟩
      · exact hdir p h
      · exact I.closed u (by rw [hsp]; simp [hu]) (hdir _ hu1) p hu2
    · have : (List.range ops.size).countP (fun i => !(listed.setIfInBounds r.i true).getD i false) < (List.range ops.size).countP (fun i => !listed.getD i false) := by
        refine countP_lt _ (fun x _ hx => ?_) ⟨r.i, List.mem_range.2 hlt, by rw [hnot]; rfl, by rw [getD_set listed hlt2, if_pos rfl]; rfl⟩
        rw [getD_set listed hlt2] at hx
        split at hx
        · cases hx
        · exact hx
      omega

theorem start (F : Facts P call ops tr s0 send) {φ0 : Emb} {w0 : World} {a : Act} (ht : TRel φ0 s0.t a.tmps) (hR0 : Rel φ0 s0.h w0) : ∃ φ A C mid, Inv F φ0 w0 a.defers (Array.replicate ops.size false) a w0 φ A C mid := by
  obtain ⟨M, C, h1, h2, h3⟩ := split_act tr
  have lk := F.lk
  rw [h1] at lk
  obtain ⟨mid, l1, l2⟩ := linked_append.1 lk
  have q := quiet M s0 mid l1 (fun r hr => F.ok r (by rw [h1]; simp [hr])) h2
  have hno : ∀ j, (Array.replicate ops.size false).getD j false = false := fun j => by simp [Array.getD]
  refine ⟨φ0, M, C, mid, h1, l1, l2, fun k hk ha => absurd ha (h2 k hk), ?_, ?_, q.rel _ _ hR0, q.fr _ _ _ _ _ (Fr.refl _ _ _), ?_, ?_, q.inj, ?_, rfl⟩
  · rcases h3 with h | ⟨k, C', h, ha⟩
    · exact .inl h
    · exact .inr ⟨k, C', h, ha, hno _⟩
  · have : fold (exd (Array.replicate ops.size false)) tr s0.t = s0.t := by
      rw [fold_congr (f := exd (Array.replicate ops.size false)) (g := fun _ => false) tr s0.t fun r _ => hno r.i, fold_none]
    rw [this]; exact ht
  · intro m hm b hb
    have := q.news m hm b hb; exact ⟨this.1, this.2.1⟩
  · intro m hm b hb _
    have h5 := q.news m hm b hb
    refine ⟨?_, h5.2.2⟩
    cases h8 : φ0 m.s.h.n with
    | none => rfl
    | some e => have := (hR0.dom _ _ h8).1; omega
  · intro r _ he
    rw [exd, hno] at he; cases he
end

section
variable {P : Program} {call : Nat → List AVal → Heap → Option (AVal × Heap)}

theorem mapM_at {α β : Type} {f : α → Option β} : ∀ {L : List α} {l : List β}, L.mapM f = some l → ∀ {i : Nat} {y : β}, l[i]? = some y → ∃ x, L[i]? = some x ∧ f x = some y := by
  intro L
  induction L with
  | nil => intro l h i y hy; simp at h; subst h; simp at hy
  | cons x L ih =>
    intro l h i y hy
    simp only [List.mapM_cons, Option.bind_eq_bind, Option.bind_eq_some_iff, Option.pure_def, Option.some.injEq] at h
    obtain ⟨z, hz, l2, hl2, rfl⟩ := h
    cases i with
    | zero => simp only [List.getElem?_cons_zero, Option.some.injEq] at hy; subst hy; exact ⟨x, rfl, hz⟩
    | succ i => simpa using ih hl2 (i := i) (by simpa using hy)

/-- A region whose order is open. -/
theorem draw_sound (hm : P.follows .mixedOrders = true) (hcall : CallOk P call) {id : Nat} {ops : Array Oper} {l : List XOper} (hl : ops.toList.mapM (compOper P ops) = some l) (hok : drawOk ops (drawList ops l) = true) {Q : Exit → Act → World → Prop} {φ : Emb} {s s' : St} {a : Act} {w : World}
    (hr : drawOps call (drawList ops l) s ⟨[], [], []⟩ = some s') (ht : TRel φ s.t a.tmps) (hR : Rel φ s.h w) (hQ : ∀ φ' a' w', TRel φ' s'.t a'.tmps → Rel φ' s'.h w' → Fr φ s.h w φ' s'.h w' → a'.defers = a.defers → Q .normal a' w') :
    (Code.region id ops true).wp P Q a w := by
  obtain ⟨tr, h1, h2, h3, h4, h5⟩ := draw_trace _ _ _ _ [] hr ⟨by simp, by simp, by simp⟩
  unfold drawOk at hok
  rw [Bool.and_eq_true] at hok
  obtain ⟨hgood, hcov⟩ := hok
  have hent : ∀ r ∈ tr, ∃ o, ops[r.i]? = some o ∧ compOper P ops o = some r.x := by
    intro r hr
    have hmem : r.e ∈ drawList ops l := by rw [← h1]; exact List.mem_map.2 ⟨r, hr, rfl⟩
    unfold drawList at hmem
    simp only [List.mem_filterMap] at hmem
    obtain ⟨i, _, hi⟩ := hmem
    split at hi
    · rename_i x p hx hp
      simp only [Option.some.injEq] at hi
      obtain ⟨o, ho, hc⟩ := mapM_at hl hx
      have e1 : r.i = i := by show r.e.1 = i; rw [← hi]
      have e2 : r.x = x := by show r.e.2.1 = x; rw [← hi]
      exact ⟨o, by rw [e1, ← Array.getElem?_toList]; exact ho, by rw [e2]; exact hc⟩
    · cases hi
  have F : Facts P call ops tr s s' := by
    refine ⟨stat_of tr [] (by simpa [h1] using hgood) hent, h4, h3, h2, by simpa using h5, fun i hi => ?_⟩
    have := List.all_eq_true.1 hcov i (List.mem_range.2 hi)
    obtain ⟨u, hu, he⟩ := List.any_eq_true.1 this
    rw [← h1] at hu
    obtain ⟨r, hr, rfl⟩ := List.mem_map.1 hu
    exact ⟨r, hr, (beq_iff _ _).1 he⟩
  refine wp_region_any hm ?_
  have hR1 := hR.drew (w.drawn + 1)
  refine sim F hcall hR1 (fun φ' a' w' g1 g2 g3 g4 => hQ φ' a' w' g1 g2 (Fr.trans hR (Fr.drew φ s.h w _) g3) g4) _ _ _ _ (by simp) ?_ (start F ht hR1)
  have := List.countP_le_length (p := fun i => !(Array.replicate ops.size false).getD i false) (l := List.range ops.size)
  simpa using this

/-! ### Results -/
theorem mapM_run {α β : Type} {P : Program} {w : World} {f : α → Sem β} {g : α → β} : ∀ (L : List α), (∀ x ∈ L, (f x).run P w = .ok (g x) w) → (L.mapM f).run P w = .ok (L.map g) w := by
  intro L
  induction L with
  | nil => intro _; rfl
  | cons x L ih =>
    intro h
    rw [List.mapM_cons]
    simp only [Sem.run_bind, h x (by simp), Result.andThen_ok, ih fun y hy => h y (by simp [hy]), Sem.run_pure, List.map_cons]

theorem result_one {φ : Emb} {s : St} {tm : Array Value} {w : World} (ht : TRel φ s.t tm) (hR : Rel φ s.h w) {r : ResultVar} {x : XResult} (hc : compResult P r = some x) {v : AVal} (hv : getResult s x = some v) :
    ∃ v', (match r with | .tmp t => pure (tm.getD t undef) | .cell a t => do loadVar t (← asAddr (tm.getD a undef)) : Sem Value).run P w = .ok v' w ∧ VRel φ v v' := by
  cases r with
  | tmp t =>
    simp only [compResult, Option.some.injEq] at hc; subst hc
    simp only [getResult, getT, Option.some.injEq] at hv; subst hv
    exact ⟨_, rfl, ht.rel t⟩
  | cell c ty =>
    obtain ⟨n, hn, hx⟩ := Option.map_eq_some_iff.1 hc
    subst hx
    simp only [getResult] at hv
    have hr := ht.rel c
    obtain ⟨v', h1, h2⟩ := load_sem (P := P) hR hn (x := getP (toP c) s.t) hr (u := .tmp (toP c)) (tt := s.t) rfl hv
    refine ⟨v', ?_, h2⟩
    simp only [runRead, r_load, Arg.eval] at hv
    split at hv
    · rename_i b i e1
      rw [e1] at hr
      obtain ⟨e, he, hX⟩ := hr.ptr_inv
      show (do loadVar ty (← asAddr (tm.getD c undef)) : Sem Value).run P w = _
      rw [hX] at h1 ⊢
      simp only [Instr.loadAt, Instr.sureAddr, Sem.run_bind, Sem.run_pure, Result.andThen_ok] at h1
      simp only [asAddr, Sem.run_bind, Sem.run_pure, Result.andThen_ok, h1]
    · cases hv

theorem mapM_length {α β : Type} {f : α → Option β} : ∀ {L : List α} {l : List β}, L.mapM f = some l → l.length = L.length := by
  intro L
  induction L with
  | nil => intro l h; simp at h; subst h; rfl
  | cons x L ih =>
    intro l h
    simp only [List.mapM_cons, Option.bind_eq_bind, Option.bind_eq_some_iff, Option.pure_def, Option.some.injEq] at h
    obtain ⟨z, hz, l2, hl2, rfl⟩ := h
    simp [ih hl2]
theorem results_sound {φ : Emb} {s : St} {tm : Array Value} {w : World} (ht : TRel φ s.t tm) (hR : Rel φ s.h w) {fn : Func} {rs : List XResult} (hc : fn.results.toList.mapM (compResult P) = some rs) {v : AVal} (hv : results rs s = some v) :
    ∃ v', (Go.results fn tm).run P w = .ok v' w ∧ VRel φ v v' := by
  have key : ∀ (L : List ResultVar) (rs : List XResult) (vs : List AVal), L.mapM (compResult P) = some rs → rs.mapM (getResult s) = some vs →
      ∃ vs' : List Value, (L.mapM fun r => (match r with | .tmp t => pure (tm.getD t undef) | .cell a t => do loadVar t (← asAddr (tm.getD a undef)) : Sem Value)).run P w = .ok vs' w ∧ VRels φ vs vs' := by
    intro L
    induction L with
    | nil =>
      intro rs vs h1 h2
      simp at h1; subst h1
      simp at h2; subst h2
      exact ⟨[], rfl, .nil⟩
    | cons r L ih =>
      intro rs vs h1 h2
      simp only [List.mapM_cons, Option.bind_eq_bind, Option.bind_eq_some_iff, Option.pure_def, Option.some.injEq] at h1
      obtain ⟨x, hx, rs2, hrs2, rfl⟩ := h1
      simp only [List.mapM_cons, Option.bind_eq_bind, Option.bind_eq_some_iff, Option.pure_def, Option.some.injEq] at h2
      obtain ⟨v, hv, vs2, hvs2, rfl⟩ := h2
      obtain ⟨v', g1, g2⟩ := result_one ht hR hx hv
      obtain ⟨vs', g3, g4⟩ := ih rs2 vs2 hrs2 hvs2
      refine ⟨v' :: vs', ?_, .cons g2 g4⟩
      rw [List.mapM_cons]
      simp only [Sem.run_bind, g1, Result.andThen_ok, g3, Sem.run_pure]
  have fin : ∀ (vs : List AVal), rs.mapM (getResult s) = some vs → ∃ vs' : List Value, (Go.results fn tm).run P w = .ok (if h : vs'.toArray.size = 1 then vs'.toArray[0] else .tuple vs'.toArray) w ∧ VRels φ vs vs' := by
    intro vs hvs
    obtain ⟨vs', g1, g2⟩ := key _ _ _ hc hvs
    refine ⟨vs', ?_, g2⟩
    unfold Go.results
    rw [Array.mapM_eq_mapM_toList]
    simp only [Sem.run_bind, Sem.run_map, Sem.run_pure]
    refine (congrArg (fun R : Result (List Value) => (R.andThen fun a w' => Result.ok a.toArray w').andThen fun a w' => Result.ok (if h : a.size = 1 then a[0] else Value.tuple a) w') g1).trans ?_
    rfl
  unfold results at hv
  split at hv
  · rename_i r
    obtain ⟨vs', g1, g2⟩ := fin [v] (by simp [hv])
    cases g2 with
    | cons h1 h2 =>
      cases h2
      exact ⟨_, g1, by simpa using h1⟩
  · rename_i hne
    obtain ⟨vs, hvs, rfl⟩ := Option.map_eq_some_iff.1 hv
    obtain ⟨vs', g1, g2⟩ := fin vs hvs
    have hlen : vs'.length ≠ 1 := by
      intro h
      have h1 := g2.length
      have h2 := mapM_length hvs
      obtain ⟨x, hx⟩ := List.length_eq_one_iff.1 (show rs.length = 1 by omega)
      exact hne x hx
    refine ⟨_, g1, ?_⟩
    rw [dif_neg (by simpa using hlen)]
    exact .tup _ _ (by simpa using g2)
end
end Go.Ax
