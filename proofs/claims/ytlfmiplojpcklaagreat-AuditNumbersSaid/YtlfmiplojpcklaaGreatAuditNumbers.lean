/- The statement 'AuditNumbers': whatever the world, the law returns true. No conditions. -/
import Derived.Test.YtlfmiplojpcklaaGreatAxOuter
import Derived.Test.YtlfmiplojpcklaaGreatInsOk
import Derived.Test.YtlfmiplojpcklaaGreatAxTop
import Derived.Test.YtlfmiplojpcklaaGreatRows
import Derived.WalkKit
import Derived.ProofKit
import Derived.OpenShut
namespace Go.Proofs.YtlfmiplojpcklaaGreat.auditNumbers
open Go.ChangeShapes Go.WideShapes Go.ChangeAt Go.RowKit Go.Ax Go.Proofs.YtlfmiplojpcklaaGreat.Code
set_option linter.unusedVariables false

theorem own : ownKnob Tryz.prog.godebug = none := by kernel_rfl
theorem lib_at (n : Nat) : (n = 120 ∧ lib n = some (.known (insG 2 16))) ∨ lib n = none := by
  unfold lib
  split
  · rename_i hb; exact .inl ⟨Nat.eq_of_beq_eq_true hb, rfl⟩
  · exact .inr rfl
theorem lib_ok : ∀ n, EntryOk n (lib n) := by
  intro n
  rcases lib_at n with ⟨rfl, e⟩ | e
  · rw [e]; exact known_entry _ _ _ _ Go.Proofs.YtlfmiplojpcklaaGreat.Ins.ins_known_ok rfl
  · rw [e]; exact none_entry _ _
theorem tab_ok : ∀ t ∈ tab, plainV t.v = true ∧ ∃ k h', Go.Ax.call (XW lib) k 6 t.args (roHeap t.rows) = some (t.v, h') := by
  have one : ∀ {a : List AVal} {r : List (List AVal)} {v : AVal}, (Go.Ax.call (XW lib) 2000 6 a (roHeap r)).map (·.1) = some v → ∃ k h', Go.Ax.call (XW lib) k 6 a (roHeap r) = some (v, h') := by
    intro a r v h
    obtain ⟨⟨u, h'⟩, hc, hv⟩ := Option.map_eq_some_iff.1 h
    exact ⟨2000, h', by rw [hc, ← hv]⟩
  intro t ht
  unfold tab at ht
  simp only [List.mem_cons, List.not_mem_nil, or_false] at ht
  rcases ht with rfl | rfl | rfl | rfl | rfl | rfl | rfl | rfl | rfl | rfl | rfl | rfl | rfl | rfl | rfl | rfl
  · exact ⟨by kernel_rfl, one e0_ok⟩
  · exact ⟨by kernel_rfl, one e1_ok⟩
  · exact ⟨by kernel_rfl, one e2_ok⟩
  · exact ⟨by kernel_rfl, one e3_ok⟩
  · exact ⟨by kernel_rfl, one e4_ok⟩
  · exact ⟨by kernel_rfl, one e5_ok⟩
  · exact ⟨by kernel_rfl, one e6_ok⟩
  · exact ⟨by kernel_rfl, one e7_ok⟩
  · exact ⟨by kernel_rfl, one e8_ok⟩
  · exact ⟨by kernel_rfl, one e9_ok⟩
  · exact ⟨by kernel_rfl, one e10_ok⟩
  · exact ⟨by kernel_rfl, one e11_ok⟩
  · exact ⟨by kernel_rfl, one e12_ok⟩
  · exact ⟨by kernel_rfl, one e13_ok⟩
  · exact ⟨by kernel_rfl, one e14_ok⟩
  · exact ⟨by kernel_rfl, one e15_ok⟩
theorem x2_ok : XOk Tryz.prog X2 := XOk.with (xw_ok lib_ok) (told_s mixed (xw_ok lib_ok) tab_ok)

/-- The law's own call. -/
theorem walk (w : World) : Calls Tryz.prog 3 #[] w fun e w' => e = .returned (.bool true) ∧ Below w.heap.size w w' :=
  closed_law mixed x2_ok (xf := c3) (by kernel_rfl) outer w

set_option maxRecDepth 100000 in
theorem lifted (os : Os) (started : os.Started) (H : Type) (enc : TypeId × Value → H) :
    ReturnsInHanded {} Tryz.checked os 3 .any (Rows.auditNumbersSpec.pre6 enc Tryz.prog Tryz.f3 Rows.auditNumbersRow.domain false) (Rows.auditNumbersSpec.post enc Tryz.prog Tryz.f3 false true false false) := by
  refine returnsInHanded_of_change (C := Tryz.checked) own started (by kernel_rfl) Tryz.func3
    (ChangeSpec.witness6 (enc := enc) (C := Tryz.checked) false ⟨#[], #[], []⟩ 8 (by kernel_rfl) (by kernel_rfl) (by kernel_rfl) (by kernel_rfl)) ?_
  intro W base args ds gs before hval0 hW hcnd _
  have hW' := hW
  obtain ⟨p, q, hA0, hV, rfl, hfz, hnd⟩ := hW
  have hA : DataW.TrodAll enc Tryz.prog W 0 (fun _ => true) true Tryz.f3.params.toList args.toList ds p := hA0
  rw [Tryz.params3] at hA
  obtain ⟨rfl, rfl, rfl⟩ := trodAll_none hA
  obtain ⟨rfl, rfl⟩ := trodVars_none hV
  clear hA0 hval0
  simp only [List.append_nil] at hW'
  refine (walk W).mono fun e W' ⟨he, hg⟩ => ?_
  subst he
  exact ⟨_, rfl, post_of_below (pa := []) (pv := []) hW' (fun _ _ _ => (trodAll_cons_mk (shut_bool Tryz.underlying4 _) trodAll_mk0)) (fun sp _ => rfl) (fun _ _ => rfl) rfl
    hg (ok_one (by kernel_rfl) rfl (okWide_bool_mk Tryz.underlying4 _))⟩

theorem over : Rows.auditNumbersRow.holds Tryz.pinned (OpenSpec.ofChange Rows.auditNumbersSpec) :=
  OpenClaim.holds_of_wide 3 Tryz.f3 rfl rfl rfl rfl rfl rfl rfl ⟨rfl, rfl, rfl, rfl, rfl⟩ rfl rfl rfl rfl rfl (by kernel_rfl) Tryz.func3 (by kernel_rfl)
    (of_decide_eq_true (by kernel_rfl)) (by unfold Func.isWrapper; first | (rw [if_pos (by decide +kernel)]; kernel_rfl) | (rw [if_neg (by decide +kernel)]; exact ⟨rfl, rfl⟩))
    (fun os started H enc _ => lifted os started H enc)

/-- The statement. -/
theorem proved : Rows.AuditNumbersSaid :=
  over
#print axioms proved
end Go.Proofs.YtlfmiplojpcklaaGreat.auditNumbers
