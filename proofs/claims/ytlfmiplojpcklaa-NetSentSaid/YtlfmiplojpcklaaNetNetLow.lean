/- The net's functions: what they answer. -/
import Derived.Test.YtlfmiplojpcklaaAxNetT
import Derived.Test.YtlfmiplojpcklaaAxGrow
set_option linter.unusedSimpArgs false
set_option linter.unusedVariables false
namespace Go.Proofs.Ytlfmiplojpcklaa.Net
open Go.Ax Go.Proofs
/-! ### Marks -/
def markV (k i : Int) : Int := wrapA .u8 ((wrapA .u64 (wrapA .u64 (wrapA .i64 (wrapA .i64 (1000003 * wrapA .i64 (k + 7)) + i)) * 11400714819323198485)).fdiv (2 ^ 56))
theorem s_shr56 (a : Int) : binA .shr (.int .u64 a) (.int .u64 56) = some (.int .u64 (a.fdiv (2 ^ 56))) := of_rfl rfl
theorem mark_is (h : Heap) (k i : Int) : FnIs X musterlow_markByte [.int .i64 k, .int .i64 i] h (.int .u8 (markV k i)) h := by
  refine FnIs.of (fn_musterlow_markByte ?_)
  unfold vc_musterlow_markByte
  simp only [go_sem, s_shr56, markV]
/-! ### Bytes -/
def U8 (cs : List AVal) : Prop := ∃ l : List Int, cs = l.map fun n => .int .u8 n
theorem U8.ok {cs : List AVal} (h : U8 cs) : cs.all cellOk = true := by
  obtain ⟨l, rfl⟩ := h
  rw [List.all_eq_true]; intro x hx; obtain ⟨n, _, rfl⟩ := List.mem_map.1 hx; rfl
theorem U8.bytes {cs : List AVal} (h : U8 cs) : ∃ l, bytesOf cs = some l := by
  obtain ⟨l, rfl⟩ := h
  induction l with
  | nil => exact ⟨_, rfl⟩
  | cons x l ih => obtain ⟨r, hr⟩ := ih; exact ⟨UInt8.ofNat x.toNat :: r, by rw [List.map_cons]; unfold bytesOf; rw [hr]; rfl⟩
theorem src_bytes {h : Heap} {v : AVal} {n : Nat} {cs : List AVal} {l : List UInt8} (hv : ∀ s, v ≠ .str s) (hs : srcCells h 1 v = some (n, cs)) (hl : bytesOf cs = some l) : oBytes h v = some (.str ⟨l.toArray⟩) := by
  cases v with
  | nilSlice =>
    have : cs = [] := by have : some (0, []) = some (n, cs) := hs; simp at this; exact this.2
    subst this
    have : l = [] := by have : some [] = some l := hl; simpa using this
    subst this; rfl
  | str s => exact absurd rfl (hv s)
  | slice b i len cap es ex =>
    have e1 : srcCells h 1 (.slice b i len cap es ex) = if cap = 0 then some (0, []) else if es ≠ 1 then none else match rowOf h b with
      | some cs => if i + len * 1 ≤ lenL cs then some (len, takeL (dropL cs i) (len * 1)) else none
      | none => none := rfl
    have e2 : oBytes h (.slice b i len cap es ex) = if cap = 0 then some (.str ByteArray.empty) else if es ≠ 1 then none else match rowOf h b with
      | some cs => if i + len ≤ lenL cs then (bytesOf (takeL (dropL cs i) len)).map fun l => .str ⟨l.toArray⟩ else none
      | none => none := rfl
    rw [e1] at hs; rw [e2]
    by_cases hc : cap = 0
    · rw [if_pos hc] at hs ⊢
      simp only [Option.some.injEq, Prod.mk.injEq] at hs
      obtain ⟨_, rfl⟩ := hs
      have : l = [] := by have : some [] = some l := hl; simpa using this
      subst this; rfl
    · rw [if_neg hc] at hs ⊢
      split at hs
      · cases hs
      · rename_i he
        rw [if_neg he]
        split at hs
        · rename_i row hrow
          rw [Nat.mul_one] at hs
          split at hs
          · rename_i hle
            rw [if_pos hle]
            simp only [Option.some.injEq, Prod.mk.injEq] at hs
            rw [hs.2, hl]; rfl
          · cases hs
        · cases hs
  | _ => cases hs
theorem same_is {h : Heap} {a b : AVal} {n m : Nat} {cs : List AVal} (ha : srcCells h 1 a = some (n, cs)) (hb : srcCells h 1 b = some (m, cs)) (hu : U8 cs) (h1 : ∀ s, a ≠ .str s) (h2 : ∀ s, b ≠ .str s) : FnIs X musterlow_SameBytes [a, b] h (.bool true) h := by
  obtain ⟨l, hl⟩ := hu.bytes
  refine FnIs.of (fn_musterlow_SameBytes ?_)
  unfold vc_musterlow_SameBytes
  simp only [go_sem, src_bytes h1 ha hl, src_bytes h2 hb hl, s_eqlS, decide_true]
/-- A new row of one's own. -/
structure NewRow (h : Heap) (cs : List AVal) (v : AVal) (h' : Heap) : Prop where
  own : Own h' 1 v cs
  keeps : Keeps h h'
  fresh : ∀ b, OnB v b → h.n ≤ b
theorem copyBytes_is {h : Heap} {v : AVal} {n : Nat} {cs : List AVal} (hs : srcCells h 1 v = some (n, cs)) (hl : cs.length = n) (hok : cs.all cellOk = true) (hb : n ≤ 1000000) : FnC X musterlow_CopyBytes [v] h (NewRow h cs) := by
  apply fn_musterlow_CopyBytes
  unfold vc_musterlow_CopyBytes
  obtain ⟨v', h', e, g1, g2, g3⟩ := copy_own (bytes := 1) hs (by omega) (by omega) hok (by omega)
  simp only [e, go_sem]
  exact ⟨g1, g2, g3⟩
theorem clone_is {h : Heap} {v : AVal} {cs : List AVal} (ho : Rd h v cs) (hok : cs.all cellOk = true) (hb : cs.length ≤ 1000000) : FnC X slices_Clone_L_byte_byte [v] h (NewRow h cs) := by
  apply fn_slices_Clone_L_byte_byte
  unfold vc_slices_Clone_L_byte_byte
  rcases ho.isNil with ⟨rfl, rfl⟩ | ⟨B, i, n, cap, ex, rfl, hl, h0⟩
  · have e : oEqN 2 false .nilSlice .nilSlice = some (.bool true) := of_rfl rfl
    simp only [go_sem, e]
    exact ⟨.nil, Keeps.refl _, fun b hb => by cases hb⟩
  · have e : oEqN 2 false (.slice B i n cap 1 ex) .nilSlice = some (.bool false) := of_rfl rfl
    have hok' : (!cs.all cellOk) = false := by rw [hok]; rfl
    have e2 : appendA (h.push (.cells [] .own h.n)) 1 1 (.slice h.n 0 0 0 1 true) (.slice B i n cap 1 ex) = some (.slice (h.n + 1) 0 n n 1 false, (h.push (.cells [] .own h.n)).push (.cells cs .own (h.n + 1))) := by
      unfold appendA
      rw [(ho.keep (Keeps.push _ _)).src]
      simp only
      unfold appendN
      rw [allL_eq, hok']
      simp only [Bool.false_eq_true, if_false]
      rw [hl, if_neg (by omega), if_neg (by omega), if_neg (by omega)]
      simp only [if_true, Option.bind_some, allL_eq, List.all_nil, appL_eq, List.nil_append, s_n_push, Nat.zero_add]
    simp only [go_sem, e, s_oBSl0 (show 0 < 1 by omega), e2]
    exact ⟨.mk _ _ _ (by rw [← s_n_push h (.cells [] .own h.n)]; exact s_get_push_eq _ _) (by omega) h0, (Keeps.push _ _).push' _, fun b hb => by have : b = h.n + 1 := hb; omega⟩
end Go.Proofs.Ytlfmiplojpcklaa.Net
