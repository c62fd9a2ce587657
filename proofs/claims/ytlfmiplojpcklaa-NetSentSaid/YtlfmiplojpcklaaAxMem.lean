/- Abstract memory and the true one. -/
import Derived.Test.YtlfmiplojpcklaaAxPure3
set_option linter.unusedSimpArgs false
set_option linter.unusedVariables false
namespace Go.Ax

namespace Heap
theorem get_eq (h : Heap) (b : Nat) : h.get b = if b < h.n then h.l[h.n - (b + 1)]? else none := by
  unfold get
  by_cases hb : b < h.n
  · have : Nat.blt b h.n = true := by simp [Nat.blt]; omega
    rw [this, if_pos hb]; exact nth_eq _ _
  · have : Nat.blt b h.n = false := by rw [Bool.eq_false_iff]; simp [Nat.blt]; omega
    rw [this, if_neg hb]
theorem get_lt {h : Heap} {b : Nat} {x : Blk} (e : h.get b = some x) : b < h.n := by
  rw [get_eq] at e
  split at e
  · assumption
  · cases e
theorem get_push (h : Heap) (x : Blk) (b : Nat) : (h.push x).get b = if b = h.n then some x else h.get b := by
  rw [get_eq, get_eq]
  show (if b < h.n + 1 then (x :: h.l)[h.n + 1 - (b + 1)]? else none) = _
  by_cases hb : b = h.n
  · subst hb; simp
  · by_cases hlt : b < h.n
    · rw [if_pos (by omega), if_neg hb, if_pos hlt, show h.n + 1 - (b + 1) = (h.n - (b + 1)) + 1 by omega]; rfl
    · rw [if_neg (by omega), if_neg hb, if_neg hlt]
theorem set_n (h : Heap) (b : Nat) (x : Blk) : (h.set b x).n = h.n := by unfold set; split <;> rfl
theorem get_set (h : Heap) (b c : Nat) (x : Blk) : (h.set b x).get c = if c = b ∧ b < h.n then some x else h.get c := by
  rw [get_eq, set_n, get_eq]
  unfold set
  by_cases hb : b < h.n
  · have : Nat.blt b h.n = true := by simp [Nat.blt]; omega
    rw [this]
    simp only [setNth_eq]
    by_cases hc : c < h.n
    · rw [if_pos hc, if_pos hc, List.getElem?_set]
      by_cases e : c = b
      · subst e
        rw [if_pos rfl, if_pos (by rw [h.wf]; omega), if_pos ⟨rfl, hb⟩]
      · rw [if_neg (by omega), if_neg (fun hh => e hh.1)]
    · have e : c ≠ b := by omega
      simp [hc, e]
  · have : Nat.blt b h.n = false := by rw [Bool.eq_false_iff]; simp [Nat.blt]; omega
    rw [this]
    have e : ¬ (c = b ∧ b < h.n) := fun hh => hb hh.2
    simp only [if_neg e]
theorem get_killFrom (lin b : Nat) : ∀ (l : List Blk) (k i : Nat), l.length ≤ k → (killFrom lin b k l)[i]? = (l[i]?).map (killOne lin b (k - 1 - i)) := by
  intro l
  induction l with
  | nil => intros; simp [killFrom]
  | cons x xs ih =>
    intro k i hk
    cases i with
    | zero => simp [killFrom]
    | succ i =>
      simp only [killFrom, List.getElem?_cons_succ]
      rw [ih (k - 1) i (by simp at hk; omega)]
      congr 2; omega
theorem get_kill (h : Heap) (lin b c : Nat) : (h.kill lin b).get c = (h.get c).map (killOne lin b c) := by
  rw [get_eq, get_eq]
  show (if c < h.n then (killFrom lin b h.n h.l)[h.n - (c + 1)]? else none) = _
  split
  · rename_i hc
    rw [get_killFrom _ _ _ _ _ (by rw [h.wf]; omega)]
    congr 2; omega
  · rfl
theorem kill_n (h : Heap) (lin b : Nat) : (h.kill lin b).n = h.n := rfl
end Heap


def CellsOk (φ : Emb) (cs : List AVal) (C : Array Value) (o : Nat) : Prop := ∀ i c, cs[i]? = some c → ∃ v, C[o + i]? = some v ∧ VRel φ c v
def MapOk (φ : Emb) (es : List (AVal × AVal)) (E : List MapEntry) : Prop :=
  es.length = E.length ∧ ∀ (i : Nat) (k v : AVal), es[i]? = some (k, v) → ∃ e : MapEntry, E[i]? = some e ∧ VRel φ k e.key ∧ VRel φ v e.val
theorem CellsOk.mono {φ ψ : Emb} (hle : φ.le ψ) {cs : List AVal} {C : Array Value} {o : Nat} (h : CellsOk φ cs C o) : CellsOk ψ cs C o := fun i c hc => let ⟨v, hv, hr⟩ := h i c hc; ⟨v, hv, hr.mono hle⟩
theorem MapOk.mono {φ ψ : Emb} (hle : φ.le ψ) {es : List (AVal × AVal)} {E : List MapEntry} (h : MapOk φ es E) : MapOk ψ es E :=
  ⟨h.1, fun i k v hv => let ⟨e, he, h1, h2⟩ := h.2 i k v hv; ⟨e, he, h1.mono hle, h2.mono hle⟩⟩

/-- Nothing in it is a string's own bytes. -/
def Unfrozen (fr : Nat × Nat) (_n : Nat) : Prop := fr.1 = fr.2

def Blk.live : Blk → Bool
  | .dead => false
  | .absent => false
  | _ => true
def Blk.isRo : Blk → Bool
  | .cells _ .ro _ => true
  | _ => false

/-- What lineages are. -/
structure HInv (h : Heap) : Prop where
  lt : ∀ b cs m l, h.get b = some (.cells cs m l) → m ≠ .ro → l < h.n
  own : ∀ b cs l b' cs' m', h.get b = some (.cells cs .own l) → h.get b' = some (.cells cs' m' l) → m' ≠ .ro → b' = b
  tip : ∀ b cs l b' cs' m', h.get b = some (.cells cs .kin l) → h.get b' = some (.cells cs' m' l) → m' ≠ .ro → b' ≠ b → m' = .old

/-- The entries' births: each below the clock, no two alike. -/
def Born (E : Array MapEntry) (clk : Nat) : Prop := (∀ e ∈ E.toList, e.born < clk) ∧ (E.toList.map (·.born)).Nodup

theorem Born.nil (clk : Nat) : Born #[] clk := ⟨by simp, by simp⟩
theorem Born.push {E : Array MapEntry} {clk : Nat} (h : Born E clk) {e : MapEntry} (he : e.born = clk) : Born (E.push e) (clk + 1) := by
  refine ⟨fun x hx => ?_, ?_⟩
  · simp only [Array.toList_push, List.mem_append, List.mem_singleton] at hx
    rcases hx with hx | rfl
    · have := h.1 x hx; omega
    · omega
  · rw [Array.toList_push, List.map_append, List.nodup_append]
    refine ⟨h.2, by simp, ?_⟩
    intro a ha b hb hab
    simp only [List.map_cons, List.map_nil, List.mem_singleton] at hb
    obtain ⟨x, hx, rfl⟩ := List.mem_map.1 ha
    have := h.1 x hx
    omega
theorem Born.same {E E' : Array MapEntry} {clk : Nat} (h : Born E clk) (he : E'.toList.map (·.born) = E.toList.map (·.born)) : Born E' clk := by
  refine ⟨fun x hx => ?_, by rw [he]; exact h.2⟩
  have : x.born ∈ E'.toList.map (·.born) := List.mem_map_of_mem hx
  rw [he] at this
  obtain ⟨y, hy, e⟩ := List.mem_map.1 this
  rw [← e]; exact h.1 y hy
theorem Born.erase {E E' : Array MapEntry} {clk i : Nat} (h : Born E clk) (he : E'.toList = E.toList.eraseIdx i) : Born E' clk := by
  have hs : E'.toList.Sublist E.toList := by rw [he]; exact List.eraseIdx_sublist ..
  exact ⟨fun x hx => h.1 x (hs.subset hx), h.2.sublist (hs.map _)⟩

/-- A block stands for what lies there. -/
def BlkOk (φ : Emb) (w : World) (e : Loc) : Blk → Prop
  | .cells cs m _ => ∃ C T fr, w.heap[e.B]? = some (.cells C T fr) ∧ C.size = e.o + e.N ∧ cs.length ≤ e.N ∧ CellsOk φ cs C e.o ∧ (m ≠ .ro → Unfrozen fr C.size)
  | .map es => ∃ E clk, w.heap[e.B]? = some (.map E clk) ∧ MapOk φ es E.toList ∧ Born E clk
  | .iter s pos => e.o = 0 ∧ w.heap[e.B]? = some (.stringIter s pos)
  | _ => True
theorem BlkOk.mono {φ ψ : Emb} (hle : φ.le ψ) {w : World} {e : Loc} {x : Blk} (h : BlkOk φ w e x) : BlkOk ψ w e x := by
  cases x with
  | cells cs m l => obtain ⟨C, T, fr, h1, h2, h3, h4, h5⟩ := h; exact ⟨C, T, fr, h1, h2, h3, h4.mono hle, h5⟩
  | map es => obtain ⟨E, clk, h1, h2, h3⟩ := h; exact ⟨E, clk, h1, h2.mono hle, h3⟩
  | iter s pos => exact h
  | dead => trivial
  | absent => trivial
theorem BlkOk.at {φ : Emb} {w w' : World} {e : Loc} {x : Blk} (h : BlkOk φ w e x) (hb : w'.heap[e.B]? = w.heap[e.B]?) : BlkOk φ w' e x := by
  cases x with
  | cells cs m l => obtain ⟨C, T, fr, h1, h2⟩ := h; exact ⟨C, T, fr, hb.trans h1, h2⟩
  | map es => obtain ⟨E, clk, h1, h2⟩ := h; exact ⟨E, clk, hb.trans h1, h2⟩
  | iter s pos => exact ⟨h.1, hb.trans h.2⟩
  | dead => trivial
  | absent => trivial

/-- What of two blocks in one place is so. -/
def Shares (e e' : Loc) (x x' : Blk) : Prop :=
  (x.isRo = true ∧ x'.isRo = true) ∨ ∃ cs m l cs' m', x = .cells cs m l ∧ x' = .cells cs' m' l ∧ m ≠ .ro ∧ m' ≠ .ro ∧ ((m = .own ∨ m = .kin) → e'.o + cs'.length ≤ e.o + cs.length) ∧ ((m' = .own ∨ m' = .kin) → e.o + cs.length ≤ e'.o + cs'.length)
theorem Shares.symm {e e' : Loc} {x x' : Blk} (h : Shares e e' x x') : Shares e' e x' x := by
  rcases h with ⟨h1, h2⟩ | ⟨cs, m, l, cs', m', h1, h2, h3, h4, h5, h6⟩
  · exact .inl ⟨h2, h1⟩
  · exact .inr ⟨cs', m', l, cs, m, h2, h1, h4, h3, h6, h5⟩

structure Rel (φ : Emb) (h : Heap) (w : World) : Prop where
  dom : ∀ b e, φ b = some e → b < h.n ∧ e.B < w.heap.size
  blk : ∀ b e x, φ b = some e → h.get b = some x → BlkOk φ w e x
  sep : ∀ b b' e e' x x', φ b = some e → φ b' = some e' → h.get b = some x → h.get b' = some x' → x.live = true → x'.live = true → e.B = e'.B → b ≠ b' → Shares e e' x x'
  inv : HInv h

/-- A block that may be turned. -/
def Touch (φ : Emb) (h : Heap) (B : Nat) : Prop := ∃ b e x, φ b = some e ∧ e.B = B ∧ h.get b = some x ∧ x.isRo = false
structure Fr (φ : Emb) (h : Heap) (w : World) (φ' : Emb) (h' : Heap) (w' : World) : Prop where
  os : w'.os = w.os
  tape : w'.tape = w.tape
  output : w'.output = w.output
  size : w.heap.size ≤ w'.heap.size
  le : φ.le φ'
  n : h.n ≤ h'.n
  keep : ∀ B, B < w.heap.size → ¬ Touch φ h B → w'.heap[B]? = w.heap[B]?
  ro : ∀ b cs l, h.get b = some (.cells cs .ro l) → h'.get b = some (.cells cs .ro l)
  new : ∀ b e, φ' b = some e → φ b = some e ∨ (h.n ≤ b ∧ (w.heap.size ≤ e.B ∨ Touch φ h e.B))
theorem Fr.refl (φ : Emb) (h : Heap) (w : World) : Fr φ h w φ h w := ⟨rfl, rfl, rfl, Nat.le_refl _, Emb.le_refl φ, Nat.le_refl _, fun _ _ _ => rfl, fun _ _ _ h => h, fun _ _ h => .inl h⟩
theorem Fr.drew (φ : Emb) (h : Heap) (w : World) (d : Nat) : Fr φ h w φ h { w with drawn := d } := ⟨rfl, rfl, rfl, Nat.le_refl _, Emb.le_refl φ, Nat.le_refl _, fun _ _ _ => rfl, fun _ _ _ h => h, fun _ _ h => .inl h⟩
theorem Heap.get_some {h : Heap} {b : Nat} (hb : b < h.n) : ∃ x, h.get b = some x := by
  rw [Heap.get_eq, if_pos hb]
  exact ⟨_, List.getElem?_eq_getElem (by rw [h.wf]; omega)⟩
theorem Touch.back {φ φ' : Emb} {h h' : Heap} {w w' : World} (hR : Rel φ h w) (f : Fr φ h w φ' h' w') {B : Nat} (k : Touch φ' h' B) : w.heap.size ≤ B ∨ Touch φ h B := by
  obtain ⟨b, e, x, h1, h2, h3, h4⟩ := k
  rcases f.new b e h1 with h5 | ⟨_, h6⟩
  · right
    obtain ⟨y, hy⟩ := Heap.get_some (hR.dom b e h5).1
    refine ⟨b, e, y, h5, h2, hy, ?_⟩
    cases hy2 : y.isRo with
    | false => rfl
    | true =>
      cases y with
      | cells cs m l =>
        cases m <;> simp [Blk.isRo] at hy2
        have := f.ro b cs l hy
        rw [this] at h3
        simp only [Option.some.injEq] at h3
        subst h3
        simp [Blk.isRo] at h4
      | _ => simp [Blk.isRo] at hy2
  · rwa [h2] at h6
theorem Fr.trans {φ φ1 φ2 : Emb} {h h1 h2 : Heap} {w w1 w2 : World} (hR : Rel φ h w) (f : Fr φ h w φ1 h1 w1) (g : Fr φ1 h1 w1 φ2 h2 w2) : Fr φ h w φ2 h2 w2 := by
  refine ⟨g.os.trans f.os, g.tape.trans f.tape, g.output.trans f.output, Nat.le_trans f.size g.size, Emb.le_trans f.le g.le, Nat.le_trans f.n g.n, ?_, fun b cs l hb => g.ro b cs l (f.ro b cs l hb), ?_⟩
  · intro B hB ht
    have : ¬ Touch φ1 h1 B := fun k => by
      rcases Touch.back hR f k with h | h
      · omega
      · exact ht h
    rw [g.keep B (Nat.lt_of_lt_of_le hB f.size) this, f.keep B hB ht]
  · intro b e hb
    rcases g.new b e hb with h5 | ⟨h6, h7⟩
    · exact f.new b e h5
    · refine .inr ⟨Nat.le_trans f.n h6, ?_⟩
      rcases h7 with h7 | h7
      · exact .inl (Nat.le_trans f.size h7)
      · exact Touch.back hR f h7
theorem Rel.drew {φ : Emb} {h : Heap} {w : World} (hR : Rel φ h w) (d : Nat) : Rel φ h { w with drawn := d } := ⟨hR.dom, fun b e x h1 h2 => (hR.blk b e x h1 h2).at rfl, hR.sep, hR.inv⟩

def Emb.upd (φ : Emb) (n : Nat) (e : Loc) : Emb := fun b => if b = n then some e else φ b
theorem Rel.upd_le {φ : Emb} {h : Heap} {w : World} (hR : Rel φ h w) (e : Loc) : φ.le (φ.upd h.n e) := fun b e' hb => by
  have := (hR.dom b e' hb).1
  unfold Emb.upd
  rw [if_neg (by omega)]; exact hb
theorem Emb.upd_self (φ : Emb) (n : Nat) (e : Loc) : φ.upd n e n = some e := by simp [Emb.upd]

/-- What may be laid as a new block: a row of its own, a row that is only read, no row. -/
def NewOk (n : Nat) (x : Blk) : Prop := ∀ cs m l, x = .cells cs m l → m = .ro ∨ (m = .own ∧ l = n)
theorem HInv.push {h : Heap} (hi : HInv h) {x : Blk} (hl : NewOk h.n x) : HInv (h.push x) := by
  refine ⟨?_, ?_, ?_⟩
  · intro b cs m l hb hm
    rw [Heap.get_push] at hb
    show l < h.n + 1
    split at hb
    · simp only [Option.some.injEq] at hb
      rcases hl cs m l hb with h1 | h1
      · exact absurd h1 hm
      · omega
    · have := hi.lt b cs m l hb hm; omega
  · intro b cs l b' cs' m' hb hb' hm
    rw [Heap.get_push] at hb hb'
    split at hb <;> split at hb'
    · subst_vars; rfl
    · simp only [Option.some.injEq] at hb
      rcases hl cs .own l hb with h1 | h1
      · cases h1
      · have h2 := hi.lt b' cs' m' l hb' hm
        omega
    · simp only [Option.some.injEq] at hb'
      rcases hl cs' m' l hb' with h1 | h1
      · exact absurd h1 hm
      · have h2 := hi.lt b cs .own l hb (by decide)
        omega
    · exact hi.own b cs l b' cs' m' hb hb' hm
  · intro b cs l b' cs' m' hb hb' hm hne
    rw [Heap.get_push] at hb hb'
    split at hb <;> split at hb'
    · subst_vars; exact absurd rfl hne
    · simp only [Option.some.injEq] at hb
      rcases hl cs .kin l hb with h1 | h1
      · cases h1
      · cases h1.1
    · simp only [Option.some.injEq] at hb'
      rcases hl cs' m' l hb' with h1 | h1
      · exact absurd h1 hm
      · have h2 := hi.lt b cs .kin l hb (by decide)
        omega
    · exact hi.tip b cs l b' cs' m' hb hb' hm hne

/-- A new block of its own. -/
theorem Rel.push {φ : Emb} {h : Heap} {w w' : World} (hR : Rel φ h w) {x : Blk} {o : Obj} {N : Nat} (hw : w'.heap = w.heap.push o)
    (hblk : BlkOk (φ.upd h.n ⟨w.heap.size, 0, N⟩) w' ⟨w.heap.size, 0, N⟩ x) (hl : NewOk h.n x) :
    Rel (φ.upd h.n ⟨w.heap.size, 0, N⟩) (h.push x) w' := by
  have old : ∀ B, B < w.heap.size → w'.heap[B]? = w.heap[B]? := fun B hB => by rw [hw, Array.getElem?_push, if_neg (by omega)]
  have hle := hR.upd_le ⟨w.heap.size, 0, N⟩
  have inv : ∀ b e, φ.upd h.n ⟨w.heap.size, 0, N⟩ b = some e → (b = h.n ∧ e = ⟨w.heap.size, 0, N⟩) ∨ (b ≠ h.n ∧ φ b = some e) := fun b e hb => by
    unfold Emb.upd at hb
    split at hb
    · exact .inl ⟨by assumption, by simpa using hb.symm⟩
    · exact .inr ⟨by assumption, hb⟩
  refine ⟨?_, ?_, ?_, hR.inv.push hl⟩
  · intro b e hb
    rcases inv b e hb with ⟨rfl, rfl⟩ | ⟨h1, h2⟩
    · exact ⟨by show h.n < h.n + 1; omega, by rw [hw]; simp⟩
    · have := hR.dom b e h2
      exact ⟨by show b < h.n + 1; omega, by rw [hw]; simp; omega⟩
  · intro b e y hb hy
    rw [Heap.get_push] at hy
    rcases inv b e hb with ⟨rfl, rfl⟩ | ⟨h1, h2⟩
    · rw [if_pos rfl] at hy
      simp only [Option.some.injEq] at hy; subst hy; exact hblk
    · rw [if_neg h1] at hy
      exact ((hR.blk b e y h2 hy).mono hle).at (old _ (hR.dom b e h2).2)
  · intro b b' e e' y y' hb hb' hy hy' hl1 hl2 he hne
    rw [Heap.get_push] at hy hy'
    rcases inv b e hb with ⟨rfl, rfl⟩ | ⟨h1, h2⟩
    · rcases inv b' e' hb' with ⟨rfl, rfl⟩ | ⟨h1', h2'⟩
      · exact absurd rfl hne
      · have := (hR.dom b' e' h2').2
        simp only at he; omega
    · rcases inv b' e' hb' with ⟨rfl, rfl⟩ | ⟨h1', h2'⟩
      · have := (hR.dom b e h2).2
        simp only at he; omega
      · rw [if_neg h1] at hy; rw [if_neg h1'] at hy'
        exact hR.sep b b' e e' y y' h2 h2' hy hy' hl1 hl2 he hne
theorem Fr.push {φ : Emb} {h : Heap} {w w' : World} (hR : Rel φ h w) {x : Blk} {o : Obj} {N : Nat} (hw : w'.heap = w.heap.push o) (h1 : w'.os = w.os) (h2 : w'.tape = w.tape) (h3 : w'.output = w.output) :
    Fr φ h w (φ.upd h.n ⟨w.heap.size, 0, N⟩) (h.push x) w' := by
  refine ⟨h1, h2, h3, by rw [hw]; simp, hR.upd_le _, by show h.n ≤ h.n + 1; omega, fun B hB _ => by rw [hw, Array.getElem?_push, if_neg (by omega)], ?_, ?_⟩
  · intro b cs l hb
    rw [Heap.get_push, if_neg (by have := Heap.get_lt hb; omega)]; exact hb
  · intro b e hb
    unfold Emb.upd at hb
    split at hb
    · simp only [Option.some.injEq] at hb; subst hb
      exact .inr ⟨by omega, .inl (Nat.le_refl _)⟩
    · exact .inl hb
end Go.Ax
