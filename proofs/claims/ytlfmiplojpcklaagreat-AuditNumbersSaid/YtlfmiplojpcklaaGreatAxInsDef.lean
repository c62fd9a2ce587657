/- slices.Insert in the abstract: the answer lies in a row of its own; the row that was handed in is dead. -/
import Derived.Test.YtlfmiplojpcklaaGreatAxCore
namespace Go.Ax
noncomputable def killB (h : Heap) (b l : Nat) : Heap := (h.kill l b).set b .dead
noncomputable def insH (esz bytes : Nat) (s : AVal) (i bv iv cv : Nat) (ev : Nat) (xv : Bool) (h : Heap) : Option (AVal × Heap) :=
    match s with
    | .slice b o n cap es _ =>
      (match Nat.beq es esz with
      | false => none
      | true =>
      (match Nat.beq i n with
      | true => appendA h esz bytes s (.slice bv iv 1 cv ev xv)
      | false =>
        (match h.get b, h.get bv, srcCells h esz (.slice bv iv 1 cv ev xv) with
        | some (.cells cs md l), some (.cells _ .own _), some (m', new) =>
          if m' = 1 ∧ 0 < cv ∧ i < n ∧ 0 < cap ∧ es = esz ∧ b ≠ bv ∧ (md = .own ∨ md = .kin) ∧ o + n * esz = lenL cs ∧ allL cellOk cs = true ∧ allL cellOk new = true ∧ lenL new = esz ∧ (n + 1) * bytes ≤ 35184372088832 then
            some (.slice h.n 0 (n + 1) (n + 1) esz false, (killB h b l).push (.cells (appL (takeL (dropL cs o) (i * esz)) (appL new (dropL cs (o + i * esz)))) .own h.n))
          else none
        | _, _, _ => none)))
    | .nilSlice => (match i with | 0 => appendA h esz bytes s (.slice bv iv 1 cv ev xv) | _ => none)
    | _ => none
noncomputable def insG (esz bytes : Nat) (args : List AVal) (h : Heap) : Option (AVal × Heap) :=
  match args with
  | [s, .int .i64 (.ofNat i), .slice bv iv 1 cv ev xv] => insH esz bytes s i bv iv cv ev xv h
  | _ => none
noncomputable def ovlG (args : List AVal) (h : Heap) : Option (AVal × Heap) :=
  match args with
  | [.slice b _ _ cap _ _, .slice b' _ _ cap' es' _] =>
    (match h.get b, h.get b' with
    | some (.cells _ .own _), some (.cells _ _ _) => if b ≠ b' ∧ 0 < cap ∧ 0 < cap' ∧ 0 < es' then some (.bool false, h) else none
    | _, _ => none)
  | _ => none
noncomputable def noneG (_ : List AVal) (_ : Heap) : Option (AVal × Heap) := none
end Go.Ax
