/- The keys of a map, sorted: its contract. -/
import Derived.Test.YtlfmiplojpcklaaAxKeys
import Derived.Test.YtlfmiplojpcklaaAxSl
import Derived.Shelf.SortM.Plain
import Derived.Shelf.SortM.SortNone
set_option linter.unusedSimpArgs false
set_option linter.unusedVariables false
namespace Go.Ax
open Go.RowKit Go.Maps Go.Sort
open Go.WideElems (Fit rd rg)

def insI (x : Int) : List Int → List Int
  | [] => [x]
  | y :: r => match ltI y x with | true => y :: insI x r | false => x :: y :: r
def sortI : List Int → List Int
  | [] => []
  | x :: r => insI x (sortI r)
theorem insI_perm (x : Int) : ∀ l, (insI x l).Perm (x :: l)
  | [] => .refl _
  | y :: r => by
    unfold insI
    split
    · exact ((insI_perm x r).cons y).trans (.swap x y r)
    · exact .refl _
theorem sortI_perm : ∀ l, (sortI l).Perm l
  | [] => .refl _
  | x :: r => (insI_perm x _).trans ((sortI_perm r).cons x)
theorem insI_sorted {x : Int} : ∀ {l : List Int}, l.Pairwise (fun a b => leI a b = true) → (insI x l).Pairwise (fun a b => leI a b = true)
  | [], _ => by simp [insI]
  | y :: r, h => by
    obtain ⟨h1, h2⟩ := List.pairwise_cons.1 h
    unfold insI
    split
    · rename_i hl
      rw [ltI_eq] at hl
      simp only [decide_eq_true_eq] at hl
      refine List.pairwise_cons.2 ⟨fun z hz => ?_, insI_sorted h2⟩
      rcases List.mem_cons.1 ((insI_perm x r).mem_iff.1 hz) with rfl | hz
      · simp only [leI, decide_eq_true_eq]; omega
      · exact h1 z hz
    · rename_i hl
      rw [ltI_eq] at hl
      simp only [decide_eq_false_iff_not] at hl
      refine List.pairwise_cons.2 ⟨fun z hz => ?_, h⟩
      rcases List.mem_cons.1 hz with rfl | hz
      · simp only [leI, decide_eq_true_eq]; omega
      · have := h1 z hz
        simp only [leI, decide_eq_true_eq] at this ⊢; omega
theorem sortI_sorted : ∀ l, (sortI l).Pairwise (fun a b => leI a b = true)
  | [] => .nil
  | x :: r => insI_sorted (sortI_sorted r)
theorem sortI_eq {l l' : List Int} (h : l'.Perm l) : l'.mergeSort leI = sortI l := by
  have tr : ∀ a b c : Int, leI a b = true → leI b c = true → leI a c = true := fun a b c h1 h2 => by simp only [leI, decide_eq_true_eq] at *; exact Int.le_trans h1 h2
  have to : ∀ a b : Int, (leI a b || leI b a) = true := fun a b => by simp only [leI, Bool.or_eq_true, decide_eq_true_eq]; exact Int.le_total a b
  refine List.Perm.eq_of_pairwise (le := fun a b => leI a b = true) (fun a b _ _ h1 h2 => ?_) (List.pairwise_mergeSort tr to l') (sortI_sorted l) (((List.mergeSort_perm l' leI).trans h).trans (sortI_perm l).symm)
  simp only [leI, decide_eq_true_eq] at h1 h2
  exact Int.le_antisymm h1 h2

/-- A map's keys, all of them numbers. -/
def keysI : List (AVal × AVal) → Option (List Int)
  | [] => some []
  | (.int .i64 n, _) :: r => (match (Lit.int .i64 n).wf with | true => (match keysI r with | some l => some (n :: l) | none => none) | false => none)
  | _ => none
def hasI (x : Int) : List Int → Bool
  | [] => false
  | y :: r => match eqI x y with | true => true | false => hasI x r
def nodupI : List Int → Bool
  | [] => true
  | x :: r => match hasI x r with | true => false | false => nodupI r
theorem hasI_false {x : Int} : ∀ {l : List Int}, hasI x l = false → x ∉ l
  | [], _ => by simp
  | y :: r, h => by
    unfold hasI at h
    split at h
    · cases h
    · rename_i he
      rw [eqI_eq] at he
      simp only [beq_eq_false_iff_ne, ne_eq] at he
      rw [List.mem_cons]; rintro (h1 | h1)
      · exact he h1
      · exact hasI_false h h1
theorem nodupI_iff : ∀ {l : List Int}, nodupI l = true → l.Nodup
  | [], _ => .nil
  | x :: r, h => by
    unfold nodupI at h
    split at h
    · cases h
    · rename_i hh
      exact List.nodup_cons.2 ⟨hasI_false hh, nodupI_iff h⟩
def memN (x : Nat) : List Nat → Bool
  | [] => false
  | y :: r => match Nat.beq x y with | true => true | false => memN x r
theorem memN_mem {x : Nat} : ∀ {l : List Nat}, memN x l = true → x ∈ l
  | y :: r, h => by
    unfold memN at h
    split at h
    · rename_i hb; rw [Nat.eq_of_beq_eq_true hb]; simp
    · exact List.mem_cons_of_mem _ (memN_mem h)
noncomputable def srtG (gs : List Nat) (args : List AVal) (h : Heap) : Option (AVal × Heap) :=
  match args with
  | [.func (.func g) [] [.ptr bx bo]] =>
    (match memN g gs with
    | true =>
      (match rowOf h bx with
      | some cs => (match nth cs bo with
        | some (.map mb) => (match h.get mb with
          | some (.map es) => (match keysI es with
            | some ks => (match nodupI ks && Nat.ble (lenL ks) 1048576 with
              | true => (match sortI ks with
                | [] => some (.nilSlice, h)
                | s => some (.slice h.n 0 (lenL ks) (lenL ks) 1 false, h.push (.cells (mapL (fun n => .int .i64 n) s) .own h.n)))
              | false => none)
            | none => none)
          | _ => none)
        | _ => none)
      | none => none)
    | false => none)
  | _ => none

/-- The library's word, at one kind of map. -/
structure KeysHyp (P : Program) (f g : Nat) : Prop where
  it : ∀ (Bm Bo b : Nat) (E : Array MapEntry) (clk : Nat) (ks : List Int) (w : World), w.cell? ⟨Bm, Bo, none⟩ = some (.map (some b)) → w.heap[b]? = some (.map E clk) → MapKept.Stamped E clk → E.size ≤ 1048576 → E.toList.map (·.key) = ks.map encZ → (∀ n ∈ ks, (Lit.int .i64 n).wf = true) →
    Calls P f #[.func (.func g) #[] #[.pointer (some ⟨Bm, Bo, none⟩)]] w fun e w' => ∃ v, e = .returned v ∧ (∃ T, w'.ownsRow w.heap.size T 1 v ks.length ((sortI ks).map encZ)) ∧ (v = .slice none 0 0 ↔ ks = []) ∧ Below w.heap.size w w'
structure Enters1 (P : Program) (f : Nat) : Prop where
  it : ∀ args w, (callFunc f args).run P w = .ok (.enter f args) w

theorem known_of_calls {P : Program} {f : Nat} {g : List AVal → Heap → Option (AVal × Heap)} (he : Enters1 P f)
    (hc : ∀ args h v h', g args h = some (v, h') → ∀ φ (args' : Array Value) w, VRels φ args args'.toList → Rel φ h w → Calls P f args' w fun e w' => ∃ v' φ', e = .returned v' ∧ VRel φ' v v' ∧ Rel φ' h' w' ∧ Fr φ h w φ' h' w') : KnownS P f g := by
  refine ⟨fun args h v h' hg φ args' w hr hR o a K Q hK => ?_⟩
  rw [he.it, Oper.upon_enter]
  refine Calls.mono (hc args h v h' hg φ args' w hr hR) ?_
  rintro e w' ⟨v', φ', rfl, g1, g2, g3⟩
  exact hK v' φ' w' g1 g2 g3
theorem Rel.below {φ : Emb} {h : Heap} {w w' : World} (hR : Rel φ h w) (hb : Below w.heap.size w w') : Rel φ h w' :=
  ⟨fun b e he => ⟨(hR.dom b e he).1, Nat.lt_of_lt_of_le (hR.dom b e he).2 hb.size⟩, fun b e x he hx => (hR.blk b e x he hx).at (hb.block e.B (hR.dom b e he).2), hR.sep, hR.inv⟩
theorem Fr.ofBelow {φ : Emb} {h : Heap} {w w' : World} (hR : Rel φ h w) (hb : Below w.heap.size w w') : Fr φ h w φ h w' :=
  ⟨hb.os, hb.tape, hb.output, hb.size, Emb.le_refl φ, Nat.le_refl _, fun B hB _ => hb.block B hB, fun _ _ _ h => h, fun _ _ h => .inl h⟩
/-- A block that lies there, that no abstract block stands for, is given its own. -/
theorem Rel.adopt {φ : Emb} {h : Heap} {w : World} (hR : Rel φ h w) {B N : Nat} {x : Blk} (hnew : ∀ b e, φ b = some e → e.B ≠ B) (hB : B < w.heap.size) (hblk : BlkOk (φ.upd h.n ⟨B, 0, N⟩) w ⟨B, 0, N⟩ x) (hl : NewOk h.n x) : Rel (φ.upd h.n ⟨B, 0, N⟩) (h.push x) w := by
  have hle := hR.upd_le ⟨B, 0, N⟩
  refine ⟨?_, ?_, ?_, hR.inv.push hl⟩
  · intro b e hb
    rcases upd_inv hb with ⟨rfl, rfl⟩ | ⟨h1, h2⟩
    · exact ⟨by show h.n < h.n + 1; omega, hB⟩
    · have := hR.dom b e h2; exact ⟨by show b < h.n + 1; omega, this.2⟩
  · intro b e y hb hy
    rw [Heap.get_push] at hy
    rcases upd_inv hb with ⟨rfl, rfl⟩ | ⟨h1, h2⟩
    · rw [if_pos rfl] at hy
      simp only [Option.some.injEq] at hy; subst hy; exact hblk
    · rw [if_neg h1] at hy
      exact (hR.blk b e y h2 hy).mono hle
  · intro b b' e e' y y' hb hb' hy hy' hl1 hl2 he hne
    rw [Heap.get_push] at hy hy'
    rcases upd_inv hb with ⟨rfl, rfl⟩ | ⟨h1, h2⟩
    · rcases upd_inv hb' with ⟨rfl, rfl⟩ | ⟨h1', h2'⟩
      · exact absurd rfl hne
      · exact absurd he.symm (hnew b' e' h2')
    · rcases upd_inv hb' with ⟨rfl, rfl⟩ | ⟨h1', h2'⟩
      · exact absurd he (hnew b e h2)
      · rw [if_neg h1] at hy; rw [if_neg h1'] at hy'
        exact hR.sep b b' e e' y y' h2 h2' hy hy' hl1 hl2 he hne

theorem keysI_rel {φ : Emb} : ∀ {es : List (AVal × AVal)} {E : List MapEntry} {ks : List Int}, keysI es = some ks → MapOk φ es E → E.map (·.key) = ks.map encZ ∧ ks.length = es.length ∧ ∀ n ∈ ks, (Lit.int .i64 n).wf = true := by
  intro es
  induction es with
  | nil =>
    intro E ks h hm
    simp only [keysI, Option.some.injEq] at h
    subst h
    have : E = [] := List.eq_nil_of_length_eq_zero (by rw [← hm.1]; rfl)
    subst this
    exact ⟨rfl, rfl, by simp⟩
  | cons p es ih =>
    intro E ks h hm
    obtain ⟨k, v⟩ := p
    have key : ∃ n l, k = .int .i64 n ∧ (Lit.int .i64 n).wf = true ∧ keysI es = some l ∧ ks = n :: l := by
      unfold keysI at h
      split at h
      · rename_i heq; cases heq
      · rename_i n r u heq
        simp only [List.cons.injEq, Prod.mk.injEq] at heq
        obtain ⟨⟨rfl, rfl⟩, rfl⟩ := heq
        split at h
        · rename_i hw
          split at h
          · rename_i l hl
            simp only [Option.some.injEq] at h
            exact ⟨n, l, rfl, hw, hl, h.symm⟩
          · cases h
        · cases h
      · cases h
    obtain ⟨n, l, rfl, hw, hl, rfl⟩ := key
    obtain ⟨e, he, h1, _⟩ := hm.2 0 _ _ rfl
    cases E with
    | nil => simp at he
    | cons e' E =>
      simp only [List.getElem?_cons_zero, Option.some.injEq] at he
      subst he
      have hm' : MapOk φ es E := ⟨by have := hm.1; simpa using this, fun i k v hi => by simpa using hm.2 (i + 1) k v (by simpa using hi)⟩
      obtain ⟨g1, g2, g3⟩ := ih hl hm'
      refine ⟨by simp [h1.int_inv, g1], by simp [g2], fun m hmm => ?_⟩
      rcases List.mem_cons.1 hmm with rfl | hmm
      · exact hw
      · exact g3 m hmm

theorem srt_known {P : Program} {f : Nat} {gs : List Nat} (he : Enters1 P f) (hk : ∀ g ∈ gs, KeysHyp P f g) : KnownS P f (srtG gs) := by
  refine known_of_calls he fun args h v h' hg φ args' w hr hR => ?_
  unfold srtG at hg
  split at hg
  · rename_i g bx bo
    split at hg
    · rename_i hmem
      have hgm := memN_mem hmem
      split at hg
      · rename_i cs hrow
        split at hg
        · rename_i mb hnth
          rw [nth_eq] at hnth
          split at hg
          · rename_i es hmap
            split at hg
            · rename_i ks hks
              split at hg
              · rename_i hcond
                rw [Bool.and_eq_true] at hcond
                have hnd := nodupI_iff hcond.1
                have hlen := Nat.le_of_ble_eq_true hcond.2
                rw [lenL_eq] at hlen
                -- the argument
                obtain ⟨bl, hbl⟩ : ∃ m l, h.get bx = some (.cells cs m l) := by
                  unfold rowOf at hrow
                  split at hrow
                  · simp only [Option.some.injEq] at hrow; subst hrow; exact ⟨_, _, by assumption⟩
                  · cases hrow
                obtain ⟨ll, hbl⟩ := hbl
                obtain ⟨e, hbe, harg⟩ : ∃ e, φ bx = some e ∧ args' = #[.func (.func g) #[] #[.pointer (some ⟨e.B, e.o + bo, none⟩)]] := by
                  obtain ⟨L⟩ := args'
                  cases hr with
                  | cons h1 h2 =>
                    cases h2
                    obtain ⟨l', c', rfl, r1, r2⟩ := h1.func_inv
                    obtain ⟨L1⟩ := l'
                    obtain ⟨L2⟩ := c'
                    cases r1
                    cases r2 with
                    | cons h3 h4 =>
                      cases h4
                      obtain ⟨e, he, rfl⟩ := h3.ptr_inv
                      exact ⟨e, he, rfl⟩
                obtain ⟨C, T, fr, hC, hCs, hCl, hCc, _⟩ := hR.blk bx e _ hbe hbl
                obtain ⟨u, hu, hru⟩ := hCc bo _ hnth
                obtain ⟨e2, he2, rfl⟩ := hru.map_inv
                obtain ⟨E, clk, hE, hMo, hB⟩ := hR.blk mb e2 _ he2 hmap
                obtain ⟨k1, k2, k3⟩ := keysI_rel hks hMo
                have hsz : E.size = ks.length := by rw [k2, hMo.1]; simp
                have hcell : w.cell? ⟨e.B, e.o + bo, none⟩ = some (.map (some e2.B)) := by
                  unfold World.cell?
                  rw [hC]
                  simpa using hu
                have hst : MapKept.Stamped E clk := ⟨hB.1, hB.2, by rw [k1]; exact List.pairwise_map.2 (hnd.imp fun hne e => hne (encZ_inj e))⟩
                rw [harg]
                refine Calls.mono ((hk g hgm).it e.B (e.o + bo) e2.B E clk ks w hcell hE hst (by omega) k1 k3) ?_
                rintro en w' ⟨v', rfl, ⟨T2, hlx, hown⟩, hnil, hbe2⟩
                have hR' := hR.below hbe2
                have hF' := Fr.ofBelow hR hbe2
                cases hss : sortI ks with
                | nil =>
                  rw [hss] at hg
                  simp only [Option.some.injEq, Prod.mk.injEq] at hg
                  obtain ⟨rfl, rfl⟩ := hg
                  have hk0 : ks = [] := by
                    have := (sortI_perm ks).length_eq
                    rw [hss] at this
                    exact List.eq_nil_of_length_eq_zero this.symm
                  rw [hnil.2 hk0]
                  exact ⟨_, φ, rfl, .nilSlice, hR', hF'⟩
                | cons s0 sr =>
                  rw [hss] at hg
                  simp only [Option.some.injEq, Prod.mk.injEq, mapL_eq, lenL_eq] at hg
                  obtain ⟨rfl, rfl⟩ := hg
                  have hpl := (sortI_perm ks).length_eq
                  rw [hss] at hpl
                  simp only [List.length_cons] at hpl
                  rcases hown with ⟨_, hz⟩ | ⟨gb, cap, cur, rfl, hbase, hgb, r1, r2, r3, r4⟩
                  · omega
                  · have hgl : gb < w'.heap.size := (Array.getElem?_eq_some_iff.1 hgb).1
                    have hadd := hR'.adopt (B := gb) (N := cap) (x := .cells ((s0 :: sr).map fun n => .int .i64 n) .own h.n) (fun b e hb => by have := (hR.dom b e hb).2; omega) hgl ⟨cur, T2, (0, 0), hgb, by simp only; omega, by simp only [List.length_map, List.length_cons]; omega, fun i c hi => ?_, fun _ => rfl⟩ (fun cs m l hx => by simp only [Blk.cells.injEq] at hx; exact .inr ⟨hx.2.1.symm, hx.2.2.symm⟩)
                    · refine ⟨_, _, rfl, ?_, hadd, ⟨hF'.os, hF'.tape, hF'.output, hF'.size, hR'.upd_le _, by rw [show (h.push _).n = h.n + 1 from rfl]; omega, hF'.keep, fun b cs l hb => ?_, fun b e hb => ?_⟩⟩
                      · have := VRel.slice (φ := φ.upd h.n ⟨gb, 0, cap⟩) h.n 0 ks.length ks.length 1 false ⟨gb, 0, cap⟩ cap (Emb.upd_self _ _ _) (by omega) (Nat.le_refl _) r1 (fun hh => by cases hh) (by simp only; omega)
                        exact this
                      · rw [Heap.get_push, if_neg (by have := Heap.get_lt hb; omega)]; exact hb
                      · rcases upd_inv hb with ⟨rfl, rfl⟩ | ⟨h1, h2⟩
                        · exact .inr ⟨Nat.le_refl _, .inl hbase⟩
                        · exact .inl h2
                    · rw [hss] at r4
                      rw [List.getElem?_map] at hi
                      obtain ⟨n, hn, rfl⟩ := Option.map_eq_some_iff.1 hi
                      refine ⟨.int .i64 n, ?_, .int .i64 n⟩
                      have hil : i < ks.length * 1 := by
                        have := (List.getElem?_eq_some_iff.1 hn).1
                        simp only [List.length_cons] at this; omega
                      have h5 : (cur.toList.take (ks.length * 1))[i]? = some (encZ n) := by rw [r4, List.getElem?_map, hn]; rfl
                      rw [List.getElem?_take, if_pos hil, Array.getElem?_toList] at h5
                      rw [Nat.zero_add]; exact h5
              · cases hg
            · cases hg
          · cases hg
        · cases hg
      · cases hg
    · cases hg
  · cases hg
end Go.Ax
namespace Go.Ax
open Go.RowKit Go.Maps Go.Sort Go.Proofs Go.Shelf
open Go.WideElems (Fit)
theorem keysHyp {P : Program} {ρ ρ' ρ'' : Ren} (L7 : SlLaysZI.n7 P ρ) (L6 : SlLaysZI.n6 P ρ') (LM : SlLaysM.n5 P ρ'') (h9 : ρ'.f 9 = ρ''.f 5) (e9 : Enters1 P (ρ'.f 9)) (eg : Enters1 P (ρ.f 10)) : KeysHyp P (ρ'.f 6) (ρ.f 10) := by
  refine ⟨fun Bm Bo b E clk ks w hcell hE hst hsz hk hwf => ?_⟩
  have hkx : ∀ x ∈ E.toList, ∃ n, x.key = encZ n ∧ n ∈ ks := by
    intro x hx
    have : x.key ∈ E.toList.map (·.key) := List.mem_map_of_mem hx
    rw [hk] at this
    obtain ⟨n, hn, e⟩ := List.mem_map.1 this
    exact ⟨n, e.symm, hn⟩
  let R : Value → Option (DataW Unit × List MemPlace) := fun _ => some (.nil, [])
  have hrd : ∀ x ∈ E.toList, ∃ n, x.key = encZ n ∧ n ∈ ks ∧ Go.WideElems.rd P (ρ.t 26) R x = some (.int .i64 n, .nil) := by
    intro x hx
    obtain ⟨n, hn, hm⟩ := hkx x hx
    refine ⟨n, hn, hm, ?_⟩
    have hw := hwf n hm
    unfold Go.WideElems.rd
    rw [hn]
    simp [keyOf, L7.t26, mapKey, hw, R]
  have F : Fit P (ρ.t 26) R E clk := ⟨by unfold maxLen; omega, hst, fun x hx => by obtain ⟨n, _, _, h⟩ := hrd x hx; exact ⟨_, h⟩⟩
  have hown : w.ownsMap P (ρ.t 26) R b E.size (.map ((E.toList.map (Go.WideElems.rg P (ρ.t 26) R)).foldr DataW.insert [])) := ⟨E, clk, hE, F, Nat.le_refl _, rfl⟩
  have hp := Go.WideShapes.sorted_perm (E.toList.map (Go.WideElems.rg P (ρ.t 26) R))
  have hsize : Maps.size (DataW.map ((E.toList.map (Go.WideElems.rg P (ρ.t 26) R)).foldr DataW.insert [])) = E.size := by
    rw [Maps.size_eq, hp.length_eq, List.length_map, Array.length_toList]
  have hik : (intKeys (DataW.map ((E.toList.map (Go.WideElems.rg P (ρ.t 26) R)).foldr DataW.insert []))).Perm ks := by
    refine (hp.map _).trans ?_
    rw [List.map_map]
    have e1 : E.toList.map ((fun p : Lit × DataW Unit => intOf p.1) ∘ Go.WideElems.rg P (ρ.t 26) R) = E.toList.map (fun x => match x.key with | .int _ n => n | _ => 0) := by
      refine List.map_congr_left fun x hx => ?_
      obtain ⟨n, hn, _, h⟩ := hrd x hx
      simp [Go.WideElems.rg, h, hn, intOf]
    have e2 : E.toList.map (fun x => match x.key with | .int _ n => n | _ => (0 : Int)) = (E.toList.map (·.key)).map (fun v => match v with | .int _ n => n | _ => (0 : Int)) := by rw [List.map_map]; rfl
    rw [e1, e2, hk, List.map_map]
    have e3 : ks.map ((fun v => match v with | .int _ n => n | _ => (0 : Int)) ∘ encZ) = ks := by
      have : ((fun v : Value => match v with | .int _ n => n | _ => (0 : Int)) ∘ encZ) = id := by funext n; rfl
      rw [this, List.map_id]
    rw [e3]
  have hBm : Bm < w.heap.size := by
    unfold World.cell? at hcell
    split at hcell
    · rename_i hh; exact (Array.getElem?_eq_some_iff.1 hh).1
    · cases hcell
  have hseq := keys_gives_off (ρ := ρ) { L7 with } Fence.wide 2 trivial rfl (by omega) Bm Bo b E.size _ w hBm hcell hown
  have hsorts : AnyZI.SortsIn P ρ' Fence.wide 4 :=
    ⟨fun blk off cap ss W hH hblk hs => callsIn_wide.2 (by rw [h9]; exact AnyM.slices_Sort_int LM blk off cap ss W hH hblk hs), fun p cap W => callsIn_wide.2 (by rw [h9]; exact AnyM.slices_Sort_int_none LM p cap W)⟩
  have cS := AnyZI.sorted_in L6 Fence.wide 5 trivial trivial trivial trivial rfl (by omega) hsorts e9.it (ρ.f 10) #[.pointer (some ⟨Bm, Bo, none⟩)] trivial eg.it _ _ (by rw [hsize]; unfold maxLen; omega) (by rw [hsize]; omega) _ hseq
  refine Calls.mono (callsIn_wide.1 cS) ?_
  rintro e w' ⟨v, ss, rfl, hS, hrow, hnil, hb⟩
  have hpk := hS.trans hik
  have hl := hpk.length_eq
  have hms : ss.mergeSort (fun x y => decide (x ≤ y)) = sortI ks := sortI_eq hpk
  rw [hms, hl] at hrow
  exact ⟨v, rfl, ⟨_, hrow⟩, hnil.trans ⟨fun h => by subst h; exact List.eq_nil_of_length_eq_zero hl.symm, fun h => by subst h; exact List.eq_nil_of_length_eq_zero hl⟩, hb⟩
end Go.Ax
