/- Symbolic runs: slice expressions, append, copy. -/
import Derived.Test.YtlfmiplojpcklaaAxSl
set_option linter.unusedSimpArgs false
set_option linter.unusedVariables false
namespace Go.Ax
theorem asNat_le {k : IntKind} {i n : Nat} (h : i ≤ n) : asNat (.int k (i : Int)) n = some i := by
  show (match Nat.blt i (n + 1) with | true => some i | false => none) = some i
  have : Nat.blt i (n + 1) = true := by simp [Nat.blt]; omega
  rw [this]
section
variable {esz b o len cap i j : Nat} {ex : Bool} {k k' : IntKind}
theorem s_sl (esz : Nat) (lo hi mx : Option AVal) (l h m : Nat) (hb : bounds len cap lo hi mx = some (l, h, m)) : oSl esz (.slice b o len cap esz ex) lo hi mx = some (.slice b (o + l * esz) (h - l) (m - l) esz (ex || mx.isSome)) := by
  have e : oSl esz (.slice b o len cap esz ex) lo hi mx = (match bounds len cap ((vO lo).map (·.eval .leaf)) ((vO hi).map (·.eval .leaf)) ((vO mx).map (·.eval .leaf)) with
      | some (l, h, m) => (match Nat.beq esz esz with | true => some (AVal.slice b (o + l * esz) (h - l) (m - l) esz (ex || (vO mx).isSome)) | false => none)
      | none => none) := rfl
  have ev : ∀ x : Option AVal, (vO x).map (·.eval .leaf) = x := by intro x; cases x <;> rfl
  have es : ∀ x : Option AVal, (vO x).isSome = x.isSome := by intro x; cases x <;> rfl
  rw [e, ev, ev, ev, hb, Nat.beq_refl, es]
theorem s_sl_lo (h : i ≤ len) : oSl esz (.slice b o len cap esz ex) (some (.int k (i : Int))) none none = some (.slice b (o + i * esz) (len - i) (cap - i) esz ex) := by
  rw [s_sl esz _ _ _ i len cap (by delta bounds; simp only [asNat_le h])]; simp
theorem s_sl_hi (h : i ≤ cap) : oSl esz (.slice b o len cap esz ex) none (some (.int k (i : Int))) none = some (.slice b o i cap esz ex) := by
  rw [s_sl esz _ _ _ 0 i cap (by delta bounds; simp only [asNat_le h])]; simp
theorem s_sl_lohi (h : i ≤ j) (h2 : j ≤ cap) : oSl esz (.slice b o len cap esz ex) (some (.int k (i : Int))) (some (.int k' (j : Int))) none = some (.slice b (o + i * esz) (j - i) (cap - i) esz ex) := by
  rw [s_sl esz _ _ _ i j cap (by delta bounds; simp only [asNat_le h, asNat_le h2])]; simp
theorem s_sl_nil0 : oSl esz .nilSlice (some (.int k 0)) none none = some .nilSlice := of_rfl rfl
end
/-- An exact slice has no room: a new row. -/
theorem appendN_out {h : Heap} {esz bytes b o i c k : Nat} {new cs : List AVal} {m : Mode} {l : Nat} (hb : h.get b = some (.cells cs m l)) (hk : 0 < k) (hc : c < i + k) (hbig : (i + k) * bytes ≤ 35184372088832) (h0 : 0 < esz) (hn : new.all cellOk = true) (ho : o + i * esz ≤ cs.length) (hcs : ((cs.drop o).take (i * esz)).all cellOk = true) :
    appendN h esz bytes (.slice b o i c esz true) k new = some (.slice h.n 0 (i + k) (i + k) esz false, h.push (.cells ((cs.drop o).take (i * esz) ++ new) .own h.n)) := by
  unfold appendN
  rw [allL_eq, hn]
  simp only [Bool.not_true, Bool.false_eq_true, if_false]
  rw [if_neg (by omega), if_neg (by omega), if_neg (by omega)]
  simp only [if_true]
  by_cases hi : i = 0
  · subst hi
    rw [if_pos rfl]
    simp only [Option.bind_some, allL_eq, List.all_nil, if_true, appL_eq, Nat.zero_mul, List.take_zero]
  · rw [if_neg hi, s_rowOf hb]
    simp only [lenL_eq, takeL_eq, dropL_eq, if_pos ho, Option.bind_some, allL_eq, hcs, if_true, appL_eq]
theorem srcCells_of {h : Heap} {esz b i len cap : Nat} {ex : Bool} {cs : List AVal} {m : Mode} {l : Nat} (hb : h.get b = some (.cells cs m l)) (hc : 0 < cap) (hl : i + len * esz ≤ cs.length) : srcCells h esz (.slice b i len cap esz ex) = some (len, (cs.drop i).take (len * esz)) := by
  unfold srcCells
  simp only
  rw [if_neg (by omega), if_neg (by simp), s_rowOf hb]
  simp only [lenL_eq, takeL_eq, dropL_eq, if_pos hl]
theorem copyA_some {h h' : Heap} {esz b o len cap m k : Nat} {ex : Bool} {s : AVal} {sc : List AVal} (hs : srcCells h esz s = some (m, sc)) (hk : Nat.min m len = k) (h0 : k ≠ 0) (hc : 0 < cap) (hw : writeRow h b (putCells o (sc.take (k * esz))) = some h') : copyA h esz (.slice b o len cap esz ex) s = some (.int .i64 k, h') := by
  unfold copyA
  rw [hs]
  simp only
  rw [hk, if_neg h0, if_neg (by omega), takeL_eq, hw]
  rfl
theorem kill_own {h : Heap} (hi : HInv h) {b l : Nat} {cs : List AVal} (hb : h.get b = some (.cells cs .own l)) : h.kill l b = h := by
  refine Heap.ext_get rfl fun c hc => ?_
  rw [Heap.get_kill]
  cases hx : h.get c with
  | none => rfl
  | some x =>
    simp only [Option.map_some, Option.some.injEq]
    cases x with
    | cells cs' m' l' =>
      show (if l' = l ∧ c ≠ b ∧ m' ≠ .ro then Blk.dead else .cells cs' m' l') = .cells cs' m' l'
      by_cases hh : l' = l ∧ c ≠ b ∧ m' ≠ .ro
      · obtain ⟨rfl, h2, h3⟩ := hh
        exact absurd (hi.own b cs _ c cs' m' hb hx h3) h2
      · rw [if_neg hh]
    | _ => rfl
end Go.Ax
namespace Go.Ax
theorem rep_len (z : List AVal) (n : Nat) : (repCells z n).length = n * z.length := by
  induction n with
  | zero => simp [repCells]
  | succ n ih => rw [repCells, appL_eq, List.length_append, ih, Nat.succ_mul]; omega
theorem rep_ok {z : List AVal} (hz : z.all cellOk = true) (n : Nat) : (repCells z n).all cellOk = true := by
  induction n with
  | zero => rfl
  | succ n ih => rw [repCells, appL_eq, List.all_append, hz, ih]; rfl
theorem appendZA_eq {h : Heap} {esz bytes m : Nat} {z : List AVal} {s : AVal} {k : IntKind} (hb : m * bytes ≤ 35184372088832) : appendZA h esz bytes z s (.int k (m : Int)) = appendN h esz bytes s m (repCells z m) := by
  have e : appendZA h esz bytes z s (.int k (m : Int)) = if m * bytes ≤ 35184372088832 then appendN h esz bytes s m (repCells z m) else none := rfl
  rw [e, if_pos hb]
theorem srcCells_push {h : Heap} {x : Blk} {esz b i len cap es : Nat} {ex : Bool} (hb : b < h.n) : srcCells (h.push x) esz (.slice b i len cap es ex) = srcCells h esz (.slice b i len cap es ex) := by
  unfold srcCells rowOf
  simp only [s_get_push_ne (show b ≠ h.n by omega)]
theorem srcCells_set {h : Heap} {c : Nat} {x : Blk} {esz b i len cap es : Nat} {ex : Bool} (hb : b ≠ c) : srcCells (h.set c x) esz (.slice b i len cap es ex) = srcCells h esz (.slice b i len cap es ex) := by
  unfold srcCells rowOf
  simp only [s_get_set_ne hb]
theorem take_app {α : Type} {l r : List α} {n : Nat} (h : l.length = n) : (l ++ r).take n = l := by rw [← h]; simp
theorem drop_app {α : Type} {l r : List α} {n m : Nat} (h : l.length = n) : (l ++ r).drop (n + m) = r.drop m := by rw [← h, List.drop_append, List.drop_of_length_le (by omega)]; simp
end Go.Ax
namespace Go.Ax
theorem FnIs.known {X : Nat → Option XDef} {f : Nat} {g : List AVal → Heap → Option (AVal × Heap)} {args : List AVal} {h h' : Heap} {v : AVal} (hX : X f = some (.known g)) (e : g args h = some (v, h')) : FnIs X f args h v h' := by
  refine ⟨0, ?_⟩
  unfold call callX
  rw [hX]
  exact e
theorem drop_app0 {α : Type} {l r : List α} {n : Nat} (h : l.length = n) : (l ++ r).drop n = r := by rw [← h]; simp
end Go.Ax
