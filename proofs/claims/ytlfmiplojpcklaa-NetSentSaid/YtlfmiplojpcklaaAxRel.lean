/- How an abstract state stands for a true one. -/
import Derived.Test.YtlfmiplojpcklaaAxComp
import Derived.Laws.Sem
import Derived.Laws.Entries
import Derived.Scope
import Derived.LoopN
import Derived.ChangeKeysEq
namespace Go.Ax

/-- Where an abstract block lies: its block, where in it, how many cells there are from there on. -/
structure Loc where
  B : Nat
  o : Nat
  N : Nat
abbrev Emb := Nat → Option Loc
def Emb.le (φ ψ : Emb) : Prop := ∀ b e, φ b = some e → ψ b = some e
theorem Emb.le_refl (φ : Emb) : φ.le φ := fun _ _ h => h
theorem Emb.le_trans {φ ψ χ : Emb} (h : φ.le ψ) (k : ψ.le χ) : φ.le χ := fun b e hb => k b e (h b e hb)

mutual
inductive VRel (φ : Emb) : AVal → Value → Prop where
  | unk (v : Value) : VRel φ .unk v
  | bool (b : Bool) : VRel φ (.bool b) (.bool b)
  | int (k : IntKind) (n : Int) : VRel φ (.int k n) (.int k n)
  | str (s : ByteArray) : VRel φ (.str s) (.string s)
  | nilPtr : VRel φ .nilPtr (.pointer none)
  | ptr (b i : Nat) (e : Loc) (h : φ b = some e) : VRel φ (.ptr b i) (.pointer (some ⟨e.B, e.o + i, none⟩))
  | nilSlice : VRel φ .nilSlice (.slice none 0 0)
  | slice (b i len cap es : Nat) (ex : Bool) (e : Loc) (cap' : Nat) (h : φ b = some e) (h0 : 0 < cap) (hl : len ≤ cap) (hc : cap ≤ cap') (hx : ex = true → cap' = cap)
      (hN : i + cap' * es ≤ e.N) : VRel φ (.slice b i len cap es ex) (.slice (some ⟨e.B, e.o + i, none⟩) len cap')
  | sliceZ (b i es : Nat) (ex : Bool) (a : Addr) (cap' : Nat) (hx : ex = true → cap' = 0) : VRel φ (.slice b i 0 0 es ex) (.slice (some a) 0 cap')
  | nilMap : VRel φ .nilMap (.map none)
  | map (b : Nat) (e : Loc) (h : φ b = some e) : VRel φ (.map b) (.map (some e.B))
  | func (fn : Fn) (l c : List AVal) (l' c' : Array Value) (hl : VRels φ l l'.toList) (hc : VRels φ c c'.toList) : VRel φ (.func fn l c) (.func fn l' c')
  | nilFunc : VRel φ .nilFunc .nilFunc
  | nilIface : VRel φ .nilIface .nilIface
  | iface (t : TypeId) (v : AVal) (v' : Value) (h : VRel φ v v') : VRel φ (.iface t v) (.iface t v')
  | agg (l : List AVal) (l' : Array Value) (h : VRels φ l l'.toList) : VRel φ (.agg l) (.agg l')
  | tup (l : List AVal) (l' : Array Value) (h : VRels φ l l'.toList) : VRel φ (.tup l) (.tuple l')
inductive VRels (φ : Emb) : List AVal → List Value → Prop where
  | nil : VRels φ [] []
  | cons {v : AVal} {v' : Value} {l : List AVal} {l' : List Value} (h : VRel φ v v') (hl : VRels φ l l') : VRels φ (v :: l) (v' :: l')
end

theorem VRel.und (φ : Emb) : VRel φ und undef := .tup [] #[] .nil

mutual
theorem VRel.mono {φ ψ : Emb} (hle : φ.le ψ) : ∀ {v : AVal} {v' : Value}, VRel φ v v' → VRel ψ v v'
  | _, _, .unk v => .unk v
  | _, _, .bool b => .bool b
  | _, _, .int k n => .int k n
  | _, _, .str s => .str s
  | _, _, .nilPtr => .nilPtr
  | _, _, .ptr b i e h => .ptr b i e (hle b e h)
  | _, _, .nilSlice => .nilSlice
  | _, _, .slice b i len cap es ex e cap' h h0 hl hc hx hN => .slice b i len cap es ex e cap' (hle b e h) h0 hl hc hx hN
  | _, _, .sliceZ b i es ex a cap' hx => .sliceZ b i es ex a cap' hx
  | _, _, .nilMap => .nilMap
  | _, _, .map b e h => .map b e (hle b e h)
  | _, _, .func fn l c l' c' hl hc => .func fn l c l' c' (hl.mono hle) (hc.mono hle)
  | _, _, .nilFunc => .nilFunc
  | _, _, .nilIface => .nilIface
  | _, _, .iface t v v' h => .iface t v v' (h.mono hle)
  | _, _, .agg l l' h => .agg l l' (h.mono hle)
  | _, _, .tup l l' h => .tup l l' (h.mono hle)
theorem VRels.mono {φ ψ : Emb} (hle : φ.le ψ) : ∀ {l : List AVal} {l' : List Value}, VRels φ l l' → VRels ψ l l'
  | _, _, .nil => .nil
  | _, _, .cons h hl => .cons (h.mono hle) (hl.mono hle)
end

section
variable {φ : Emb}
theorem VRels.length {l : List AVal} {l' : List Value} (h : VRels φ l l') : l.length = l'.length := by
  induction l generalizing l' with
  | nil => cases h; rfl
  | cons a t ih => cases h with | cons h hl => simp [ih hl]
theorem VRels.get {l : List AVal} {l' : List Value} (h : VRels φ l l') : ∀ (i : Nat) (v : AVal), l[i]? = some v → ∃ v', l'[i]? = some v' ∧ VRel φ v v' := by
  induction l generalizing l' with
  | nil => intro i v hv; simp at hv
  | cons a t ih =>
    cases h with
    | cons h hl =>
      intro i v hv
      cases i with
      | zero => simp at hv; subst hv; exact ⟨_, rfl, h⟩
      | succ i => simpa using ih hl i v (by simpa using hv)
theorem VRels.of_get {l : List AVal} {l' : List Value} (hl : l.length = l'.length) (h : ∀ (i : Nat) (v : AVal), l[i]? = some v → ∃ v', l'[i]? = some v' ∧ VRel φ v v') : VRels φ l l' := by
  induction l generalizing l' with
  | nil => cases l' with | nil => exact .nil | cons a t => simp at hl
  | cons a t ih =>
    cases l' with
    | nil => simp at hl
    | cons b s =>
      obtain ⟨v', e, hv⟩ := h 0 a rfl
      simp at e; subst e
      exact .cons hv (ih (by simpa using hl) fun i v hi => by simpa using h (i + 1) v (by simpa using hi))
theorem VRels.append {l m : List AVal} {l' m' : List Value} (h : VRels φ l l') (k : VRels φ m m') : VRels φ (l ++ m) (l' ++ m') := by
  induction l generalizing l' with
  | nil => cases h; exact k
  | cons a t ih => cases h with | cons h hl => exact .cons h (ih hl)
theorem VRels.take {l : List AVal} {l' : List Value} (h : VRels φ l l') : ∀ n, VRels φ (l.take n) (l'.take n) := by
  induction l generalizing l' with
  | nil => cases h; intro n; simpa using VRels.nil
  | cons a t ih => cases h with | cons h hl => intro n; cases n with | zero => exact .nil | succ n => exact .cons h (ih hl n)
theorem VRels.drop {l : List AVal} {l' : List Value} (h : VRels φ l l') : ∀ n, VRels φ (l.drop n) (l'.drop n) := by
  induction l generalizing l' with
  | nil => cases h; intro n; simpa using VRels.nil
  | cons a t ih => cases h with | cons h hl => intro n; cases n with | zero => exact .cons h hl | succ n => exact ih hl n
theorem VRels.map {α : Type} {f : α → AVal} {g : α → Value} (l : List α) (h : ∀ x ∈ l, VRel φ (f x) (g x)) : VRels φ (l.map f) (l.map g) := by
  induction l with
  | nil => exact .nil
  | cons a t ih => exact .cons (h a (by simp)) (ih fun x hx => h x (by simp [hx]))

theorem VRel.int_inv {k : IntKind} {n : Int} {v : Value} (h : VRel φ (.int k n) v) : v = .int k n := by cases h; rfl
theorem VRel.bool_inv {b : Bool} {v : Value} (h : VRel φ (.bool b) v) : v = .bool b := by cases h; rfl
theorem VRel.str_inv {s : ByteArray} {v : Value} (h : VRel φ (.str s) v) : v = .string s := by cases h; rfl
theorem VRel.agg_inv {l : List AVal} {v : Value} (h : VRel φ (.agg l) v) : ∃ l' : Array Value, v = .agg l' ∧ VRels φ l l'.toList := by cases h; exact ⟨_, rfl, by assumption⟩
theorem VRel.tup_inv {l : List AVal} {v : Value} (h : VRel φ (.tup l) v) : ∃ l' : Array Value, v = .tuple l' ∧ VRels φ l l'.toList := by cases h; exact ⟨_, rfl, by assumption⟩
theorem VRel.ptr_inv {b i : Nat} {v : Value} (h : VRel φ (.ptr b i) v) : ∃ e, φ b = some e ∧ v = .pointer (some ⟨e.B, e.o + i, none⟩) := by cases h; exact ⟨_, by assumption, rfl⟩
theorem VRel.map_inv {b : Nat} {v : Value} (h : VRel φ (.map b) v) : ∃ e, φ b = some e ∧ v = .map (some e.B) := by cases h; exact ⟨_, by assumption, rfl⟩
theorem VRel.nilPtr_inv {v : Value} (h : VRel φ .nilPtr v) : v = .pointer none := by cases h; rfl
theorem VRel.nilSlice_inv {v : Value} (h : VRel φ .nilSlice v) : v = .slice none 0 0 := by cases h; rfl
theorem VRel.nilMap_inv {v : Value} (h : VRel φ .nilMap v) : v = .map none := by cases h; rfl
theorem VRel.func_inv {fn : Fn} {l c : List AVal} {v : Value} (h : VRel φ (.func fn l c) v) : ∃ l' c' : Array Value, v = .func fn l' c' ∧ VRels φ l l'.toList ∧ VRels φ c c'.toList := by
  cases h; exact ⟨_, _, rfl, by assumption, by assumption⟩
theorem VRel.slice_inv {b i len cap es : Nat} {ex : Bool} {v : Value} (h : VRel φ (.slice b i len cap es ex) v) : ∃ a cap', v = .slice (some a) len cap' ∧ cap ≤ cap' ∧ len ≤ cap ∧ (ex = true → cap' = cap) ∧
    (0 < cap → ∃ e, φ b = some e ∧ a = ⟨e.B, e.o + i, none⟩ ∧ i + cap' * es ≤ e.N) := by
  cases h with
  | slice _ _ _ _ _ _ e cap' h h0 hl hc hx hN => exact ⟨_, cap', rfl, hc, hl, hx, fun _ => ⟨e, h, rfl, hN⟩⟩
  | sliceZ _ _ _ _ a cap' hx => exact ⟨a, cap', rfl, by omega, by omega, hx, fun h => absurd h (by omega)⟩
end

/-! ### Constants -/
theorem toA1_rel (φ : Emb) {v : Value} {x : AVal} (h : toA1 v = some x) : VRel φ x v := by
  unfold toA1 at h
  split at h <;> first | (simp only [Option.some.injEq] at h; subst h; constructor) | exact absurd h (by simp)
theorem toA_rel (φ : Emb) {v : Value} {x : AVal} (h : toA v = some x) : VRel φ x v := by
  unfold toA at h
  split at h
  · rename_i cs
    cases hm : cs.toList.mapM toA1 with
    | none => simp [hm] at h
    | some l =>
      simp only [hm, Option.map_some, Option.some.injEq] at h
      subst h
      refine .agg _ _ ?_
      generalize cs.toList = L at hm
      induction L generalizing l with
      | nil => simp at hm; subst hm; exact .nil
      | cons a t ih =>
        simp only [List.mapM_cons, Option.bind_eq_bind, Option.bind_eq_some_iff, Option.pure_def, Option.some.injEq] at hm
        obtain ⟨x, hx, l2, hl2, rfl⟩ := hm
        exact .cons (toA1_rel φ hx) (ih _ hl2)
  · rename_i vs
    split at h
    · rename_i hs
      simp only [Option.some.injEq] at h
      subst h
      have : vs = #[] := by simpa using hs
      subst this
      exact VRel.und φ
    · exact absurd h (by simp)
  · exact toA1_rel φ h

/-! ### Temporaries -/
structure TRel (φ : Emb) (t : Tmps) (tm : Array Value) : Prop where
  rel : ∀ i, VRel φ (getP (toP i) t) (tm.getD i undef)
  has : ∀ i, hasP (toP i) t = true ↔ i < tm.size
theorem TRel.mono {φ ψ : Emb} (hle : φ.le ψ) {t : Tmps} {tm : Array Value} (h : TRel φ t tm) : TRel ψ t tm := ⟨fun i => (h.rel i).mono hle, h.has⟩
theorem TRel.put {φ : Emb} {t : Tmps} {a : Act} {v : AVal} {v' : Value} (h : TRel φ t a.tmps) (d : Option Nat) (hv : VRel φ v v') : TRel φ (putT t (d.map toP) v) (a.put d v').tmps := by
  cases d with
  | none => exact h
  | some d =>
    refine ⟨fun i => ?_, fun i => ?_⟩
    · show VRel φ (getP (toP i) (setP (toP d) t v)) ((a.tmps.setIfInBounds d v').getD i undef)
      rw [getP_setP]
      by_cases hi : d = i
      · subst hi
        by_cases hs : d < a.tmps.size
        · rw [if_pos ⟨rfl, (h.has d).2 hs⟩]
          simp [Array.getD, hs]; exact hv
        · rw [if_neg (fun hh => hs ((h.has d).1 hh.2))]
          have := h.rel d
          simp [Array.getD, hs] at this ⊢; exact this
      · rw [if_neg (fun hh => hi (toP_inj _ _ hh.1))]
        have := h.rel i
        have e : (a.tmps.setIfInBounds d v').getD i undef = a.tmps.getD i undef := by
          simp [Array.getD_eq_getD_getElem?, Array.getElem?_setIfInBounds_ne hi]
        rw [e]; exact this
    · show hasP (toP i) (setP (toP d) t v) = true ↔ i < (a.tmps.setIfInBounds d v').size
      rw [hasP_setP, h.has]; simp

theorem compArg_rel {φ : Emb} {t : Tmps} {a : Act} (h : TRel φ t a.tmps) {x : Operand} {y : Arg} (hc : compArg x = some y) : VRel φ (y.eval t) (a.eval x) := by
  cases x with
  | tmp i => simp only [compArg, Option.some.injEq] at hc; subst hc; exact h.rel i
  | const v =>
    cases hv : toA v with
    | none => simp [compArg, hv] at hc
    | some u => simp only [compArg, hv, Option.map_some, Option.some.injEq] at hc; subst hc; exact toA_rel φ hv
  | global g => simp [compArg] at hc
  | func f => simp only [compArg, Option.some.injEq] at hc; subst hc; exact .func _ _ _ #[] #[] .nil .nil
theorem compArgs_rel {φ : Emb} {t : Tmps} {a : Act} (h : TRel φ t a.tmps) {xs : Array Operand} {ys : List Arg} (hc : compArgs xs = some ys) : VRels φ (ys.map (·.eval t)) (xs.map a.eval).toList := by
  unfold compArgs at hc
  rw [Array.toList_map]
  generalize xs.toList = L at hc
  induction L generalizing ys with
  | nil => simp at hc; subst hc; exact .nil
  | cons x r ih =>
    simp only [List.mapM_cons, Option.bind_eq_bind, Option.bind_eq_some_iff, Option.pure_def, Option.some.injEq] at hc
    obtain ⟨y, hy, l2, hl2, rfl⟩ := hc
    exact .cons (compArg_rel h hy) (ih hl2)
end Go.Ax
