/-
  No cell of these rows narrows 'for every input' (looked for: loops, veiled, ifaces, maps, wideKeys, modest, calm, conditions, laid).
  DERIVED. THE GIVEN ROWS OF THIS SEAT. 11 by the template 'for every input the law returns true; each argument reads behind the call as it read before'; 0 by the template 'total and deterministic' (their statements: YtlfmiplojpcklaaTotals.lean).
  GIVEN WITH THE SEED: the statements are not yours to turn. If you find one false, say at which input.
  Laid BY PROGRAM, IN A SANDBOX (cutbox-rows.mjs): the forced cells as the released guide's own fill.sh prints them over the translation 664e64a38410cb80… (all of the seat's roots in one cut). By AI agents, Wed Nov 11 2026. No macro, syntax, notation, axiom, sorry.
-/
import Derived.Test.YtlfmiplojpcklaaChecked
import GoSem.Claim
import GoSem.ClaimJoined
import GoSem.ClaimMapViews
import Derived.JoinedTies
import Derived.KernelRfl
namespace Go.Proofs.Ytlfmiplojpcklaa
/- THE CELL 'sum', in the pinned program and in every row, IS THE sha256 OF THE DUMP (.gsa) THAT YtlfmiplojpcklaaProg.lean LOADS. Nothing in Lean hashes anything: it is a label: what it is worth is what the hold of that sum in a sandbox is worth. -/
noncomputable def Try.pinned : Pinned := { name := "ytlfmiplojpcklaa", sum := "664e64a38410cb80548bf0aea1244999c668adfd68e1bd94ac148df86b3e219e", checked := Try.checked }
namespace Rows
def none {H : Type} : Left H := { results := [], args := [] }

/-- 'musterlaw08.NetSent': WHATEVER THE INPUT: true; the input reads as it did. -/
def netSentSpec : ChangeSpec := { name := "netSent", fn := fun _ => fun
  | [d] => { results := [.lit (.bool true)], args := [d] }
  | _ => none }
def netSentRow : OpenClaim := { program := "ytlfmiplojpcklaa", sum := "664e64a38410cb80548bf0aea1244999c668adfd68e1bd94ac148df86b3e219e", func := "muster/musterlaw08.NetSent", spec := "netSent", unfollowed := true, recurses := true, apart := false }
def NetSentSaid : Prop := netSentRow.holds Try.pinned (OpenSpec.ofChange netSentSpec)

/-- ITS FALSE NEIGHBOUR: 'it returns false'. Refute it at one input. -/
def netSentWrong : ChangeSpec := { name := "netSent", fn := fun _ => fun
  | [d] => { results := [.lit (.bool false)], args := [d] }
  | _ => none }
def NetSentWrongFalsely : Prop := netSentRow.holds Try.pinned (OpenSpec.ofChange netSentWrong)

/-- 'musterlaw08.NetSpares': WHATEVER THE INPUT: true; the input reads as it did. -/
def netSparesSpec : ChangeSpec := { name := "netSpares", fn := fun _ => fun
  | [d] => { results := [.lit (.bool true)], args := [d] }
  | _ => none }
def netSparesRow : OpenClaim := { program := "ytlfmiplojpcklaa", sum := "664e64a38410cb80548bf0aea1244999c668adfd68e1bd94ac148df86b3e219e", func := "muster/musterlaw08.NetSpares", spec := "netSpares", unfollowed := true, recurses := true, apart := false }
def NetSparesSaid : Prop := netSparesRow.holds Try.pinned (OpenSpec.ofChange netSparesSpec)

/-- ITS FALSE NEIGHBOUR: 'it returns false'. Refute it at one input. -/
def netSparesWrong : ChangeSpec := { name := "netSpares", fn := fun _ => fun
  | [d] => { results := [.lit (.bool false)], args := [d] }
  | _ => none }
def NetSparesWrongFalsely : Prop := netSparesRow.holds Try.pinned (OpenSpec.ofChange netSparesWrong)

/-- 'musterlaw08.NetPlays': WHATEVER THE INPUT: true; the input reads as it did. -/
def netPlaysSpec : ChangeSpec := { name := "netPlays", fn := fun _ => fun
  | [d1, d2] => { results := [.lit (.bool true)], args := [d1, d2] }
  | _ => none }
def netPlaysRow : OpenClaim := { program := "ytlfmiplojpcklaa", sum := "664e64a38410cb80548bf0aea1244999c668adfd68e1bd94ac148df86b3e219e", func := "muster/musterlaw08.NetPlays", spec := "netPlays", inPlace := ["maps.clone"], unfollowed := true, recurses := true, apart := false }
def NetPlaysSaid : Prop := netPlaysRow.holds Try.pinned (OpenSpec.ofChange netPlaysSpec)

/-- ITS FALSE NEIGHBOUR: 'it returns false'. Refute it at one input. -/
def netPlaysWrong : ChangeSpec := { name := "netPlays", fn := fun _ => fun
  | [d1, d2] => { results := [.lit (.bool false)], args := [d1, d2] }
  | _ => none }
def NetPlaysWrongFalsely : Prop := netPlaysRow.holds Try.pinned (OpenSpec.ofChange netPlaysWrong)

/-- 'musterlaw28.DaemonNumbers': WHATEVER THE INPUT: true; the input reads as it did. -/
def daemonNumbersSpec : ChangeSpec := { name := "daemonNumbers", fn := fun _ => fun
  | [] => { results := [.lit (.bool true)], args := [] }
  | _ => none }
def daemonNumbersRow : OpenClaim := { program := "ytlfmiplojpcklaa", sum := "664e64a38410cb80548bf0aea1244999c668adfd68e1bd94ac148df86b3e219e", func := "muster/musterlaw28.DaemonNumbers", spec := "daemonNumbers", unfollowed := true, recurses := true, apart := false }
def DaemonNumbersSaid : Prop := daemonNumbersRow.holds Try.pinned (OpenSpec.ofChange daemonNumbersSpec)

/-- ITS FALSE NEIGHBOUR: 'it returns false'. Refute it at one input. -/
def daemonNumbersWrong : ChangeSpec := { name := "daemonNumbers", fn := fun _ => fun
  | [] => { results := [.lit (.bool false)], args := [] }
  | _ => none }
def DaemonNumbersWrongFalsely : Prop := daemonNumbersRow.holds Try.pinned (OpenSpec.ofChange daemonNumbersWrong)

/-- 'musterlaw28.DaemonOnce': WHATEVER THE INPUT: true; the input reads as it did. -/
def daemonOnceSpec : ChangeSpec := { name := "daemonOnce", fn := fun _ => fun
  | [d1, d2] => { results := [.lit (.bool true)], args := [d1, d2] }
  | _ => none }
def daemonOnceRow : OpenClaim := { program := "ytlfmiplojpcklaa", sum := "664e64a38410cb80548bf0aea1244999c668adfd68e1bd94ac148df86b3e219e", func := "muster/musterlaw28.DaemonOnce", spec := "daemonOnce", unfollowed := true, recurses := true, apart := false }
def DaemonOnceSaid : Prop := daemonOnceRow.holds Try.pinned (OpenSpec.ofChange daemonOnceSpec)

/-- ITS FALSE NEIGHBOUR: 'it returns false'. Refute it at one input. -/
def daemonOnceWrong : ChangeSpec := { name := "daemonOnce", fn := fun _ => fun
  | [d1, d2] => { results := [.lit (.bool false)], args := [d1, d2] }
  | _ => none }
def DaemonOnceWrongFalsely : Prop := daemonOnceRow.holds Try.pinned (OpenSpec.ofChange daemonOnceWrong)

/-- 'musterlaw28.DaemonPlays': WHATEVER THE INPUT: true; the input reads as it did. -/
def daemonPlaysSpec : ChangeSpec := { name := "daemonPlays", fn := fun _ => fun
  | [d1, d2, d3] => { results := [.lit (.bool true)], args := [d1, d2, d3] }
  | _ => none }
def daemonPlaysRow : OpenClaim := { program := "ytlfmiplojpcklaa", sum := "664e64a38410cb80548bf0aea1244999c668adfd68e1bd94ac148df86b3e219e", func := "muster/musterlaw28.DaemonPlays", spec := "daemonPlays", inPlace := ["maps.clone"], unfollowed := true, recurses := true, apart := false }
def DaemonPlaysSaid : Prop := daemonPlaysRow.holds Try.pinned (OpenSpec.ofChange daemonPlaysSpec)

/-- ITS FALSE NEIGHBOUR: 'it returns false'. Refute it at one input. -/
def daemonPlaysWrong : ChangeSpec := { name := "daemonPlays", fn := fun _ => fun
  | [d1, d2, d3] => { results := [.lit (.bool false)], args := [d1, d2, d3] }
  | _ => none }
def DaemonPlaysWrongFalsely : Prop := daemonPlaysRow.holds Try.pinned (OpenSpec.ofChange daemonPlaysWrong)

/-- 'musterlaw12.ProfileFit': WHATEVER THE INPUT: true; the input reads as it did. -/
def profileFitSpec : ChangeSpec := { name := "profileFit", fn := fun _ => fun
  | [d1, d2] => { results := [.lit (.bool true)], args := [d1, d2] }
  | _ => none }
def profileFitRow : OpenClaim := { program := "ytlfmiplojpcklaa", sum := "664e64a38410cb80548bf0aea1244999c668adfd68e1bd94ac148df86b3e219e", func := "muster/musterlaw12.ProfileFit", spec := "profileFit", inPlace := ["slices.overlaps[muster/api.Cut]"], unfollowed := true, recurses := true, apart := false }
def ProfileFitSaid : Prop := profileFitRow.holds Try.pinned (OpenSpec.ofChange profileFitSpec)

/-- ITS FALSE NEIGHBOUR: 'it returns false'. Refute it at one input. -/
def profileFitWrong : ChangeSpec := { name := "profileFit", fn := fun _ => fun
  | [d1, d2] => { results := [.lit (.bool false)], args := [d1, d2] }
  | _ => none }
def ProfileFitWrongFalsely : Prop := profileFitRow.holds Try.pinned (OpenSpec.ofChange profileFitWrong)

/-- 'musterlaw12.ProfileBack': WHATEVER THE INPUT: true; the input reads as it did. -/
def profileBackSpec : ChangeSpec := { name := "profileBack", fn := fun _ => fun
  | [d1, d2] => { results := [.lit (.bool true)], args := [d1, d2] }
  | _ => none }
def profileBackRow : OpenClaim := { program := "ytlfmiplojpcklaa", sum := "664e64a38410cb80548bf0aea1244999c668adfd68e1bd94ac148df86b3e219e", func := "muster/musterlaw12.ProfileBack", spec := "profileBack", inPlace := ["slices.overlaps[muster/api.Cut]"], unfollowed := true, recurses := true, apart := false }
def ProfileBackSaid : Prop := profileBackRow.holds Try.pinned (OpenSpec.ofChange profileBackSpec)

/-- ITS FALSE NEIGHBOUR: 'it returns false'. Refute it at one input. -/
def profileBackWrong : ChangeSpec := { name := "profileBack", fn := fun _ => fun
  | [d1, d2] => { results := [.lit (.bool false)], args := [d1, d2] }
  | _ => none }
def ProfileBackWrongFalsely : Prop := profileBackRow.holds Try.pinned (OpenSpec.ofChange profileBackWrong)

/-- 'musterlaw12.ProfileFits': WHATEVER THE INPUT: true; the input reads as it did. -/
def profileFitsSpec : ChangeSpec := { name := "profileFits", fn := fun _ => fun
  | [d1, d2, d3] => { results := [.lit (.bool true)], args := [d1, d2, d3] }
  | _ => none }
def profileFitsRow : OpenClaim := { program := "ytlfmiplojpcklaa", sum := "664e64a38410cb80548bf0aea1244999c668adfd68e1bd94ac148df86b3e219e", func := "muster/musterlaw12.ProfileFits", spec := "profileFits", inPlace := ["slices.overlaps[muster/api.Cut]"], unfollowed := true, recurses := true, apart := false }
def ProfileFitsSaid : Prop := profileFitsRow.holds Try.pinned (OpenSpec.ofChange profileFitsSpec)

/-- ITS FALSE NEIGHBOUR: 'it returns false'. Refute it at one input. -/
def profileFitsWrong : ChangeSpec := { name := "profileFits", fn := fun _ => fun
  | [d1, d2, d3] => { results := [.lit (.bool false)], args := [d1, d2, d3] }
  | _ => none }
def ProfileFitsWrongFalsely : Prop := profileFitsRow.holds Try.pinned (OpenSpec.ofChange profileFitsWrong)

/-- 'musterlaw12.ProfileTells': WHATEVER THE INPUT: true; the input reads as it did. -/
def profileTellsSpec : ChangeSpec := { name := "profileTells", fn := fun _ => fun
  | [d1, d2, d3] => { results := [.lit (.bool true)], args := [d1, d2, d3] }
  | _ => none }
def profileTellsRow : OpenClaim := { program := "ytlfmiplojpcklaa", sum := "664e64a38410cb80548bf0aea1244999c668adfd68e1bd94ac148df86b3e219e", func := "muster/musterlaw12.ProfileTells", spec := "profileTells", inPlace := ["slices.overlaps[muster/api.Cut]"], unfollowed := true, recurses := true, apart := false }
def ProfileTellsSaid : Prop := profileTellsRow.holds Try.pinned (OpenSpec.ofChange profileTellsSpec)

/-- ITS FALSE NEIGHBOUR: 'it returns false'. Refute it at one input. -/
def profileTellsWrong : ChangeSpec := { name := "profileTells", fn := fun _ => fun
  | [d1, d2, d3] => { results := [.lit (.bool false)], args := [d1, d2, d3] }
  | _ => none }
def ProfileTellsWrongFalsely : Prop := profileTellsRow.holds Try.pinned (OpenSpec.ofChange profileTellsWrong)

/-- 'musterlaw16.PartsCheck': WHATEVER THE INPUT: true; the input reads as it did. -/
def partsCheckSpec : ChangeSpec := { name := "partsCheck", fn := fun _ => fun
  | [d1, d2, d3] => { results := [.lit (.bool true)], args := [d1, d2, d3] }
  | _ => none }
def partsCheckRow : OpenClaim := { program := "ytlfmiplojpcklaa", sum := "664e64a38410cb80548bf0aea1244999c668adfd68e1bd94ac148df86b3e219e", func := "muster/musterlaw16.PartsCheck", spec := "partsCheck", unfollowed := true, recurses := true, apart := false }
def PartsCheckSaid : Prop := partsCheckRow.holds Try.pinned (OpenSpec.ofChange partsCheckSpec)

/-- ITS FALSE NEIGHBOUR: 'it returns false'. Refute it at one input. -/
def partsCheckWrong : ChangeSpec := { name := "partsCheck", fn := fun _ => fun
  | [d1, d2, d3] => { results := [.lit (.bool false)], args := [d1, d2, d3] }
  | _ => none }
def PartsCheckWrongFalsely : Prop := partsCheckRow.holds Try.pinned (OpenSpec.ofChange partsCheckWrong)

/- THE SECOND FORM. 'bulk': how many values and letters a reading holds, each counted each time it is reached (what is shared counts as often as it is met; a slice's spare places count too). A statement '..UptoSaid' is the law's where the arguments, and the package variables that the reading takes, are together of bulk at most 1048576: NARROWER than '..Said'. Prove '..Said' where nothing that the law and all that it calls make is longer than what came in: it says more and counts as full. Else prove '..UptoSaid'. A law counts once. -/
mutual
def uptoBulk {H : Type} : DataW H → Nat
  | .lit (.string bytes) => bytes.length + 1
  | .lit _ => 1
  | .nil => 1
  | .ptr d => uptoBulk d + 1
  | .slice elems spare => uptoBulkAll elems + uptoBulkAll spare + 1
  | .agg parts => uptoBulkAll parts + 1
  | .iface _ d => uptoBulk d + 1
  | .map entries => uptoBulkEntries entries + 1
  | .held _ => 1
def uptoBulkAll {H : Type} : List (DataW H) → Nat
  | [] => 0
  | d :: r => uptoBulk d + uptoBulkAll r
def uptoBulkEntries {H : Type} : List (Lit × DataW H) → Nat
  | [] => 0
  | x :: r => uptoBulkEntry x + uptoBulkEntries r
def uptoBulkEntry {H : Type} : Lit × DataW H → Nat
  | (.string bytes, d) => bytes.length + uptoBulk d + 1
  | (_, d) => uptoBulk d + 1
 end
def uptoSmall : (H : Type) → List (DataW H) → Bool := fun _ ds => decide (uptoBulkAll ds ≤ 1048576)
def OpenSpec.upto (s : _root_.Go.ChangeSpec) : _root_.Go.OpenSpec := { _root_.Go.OpenSpec.ofChange s with cond := some uptoSmall }

/-- 'musterlaw08.NetSent', WHERE WHAT IT READS IS OF BULK AT MOST 1048576: true; the input reads as it did. -/
def netSentUptoRow : OpenClaim := { program := "ytlfmiplojpcklaa", sum := "664e64a38410cb80548bf0aea1244999c668adfd68e1bd94ac148df86b3e219e", func := "muster/musterlaw08.NetSent", spec := "netSent", unfollowed := true, recurses := true, apart := false, narrowed := true }
def NetSentUptoSaid : Prop := netSentUptoRow.holds Try.pinned (OpenSpec.upto netSentSpec)

/-- 'musterlaw08.NetSpares', WHERE WHAT IT READS IS OF BULK AT MOST 1048576: true; the input reads as it did. -/
def netSparesUptoRow : OpenClaim := { program := "ytlfmiplojpcklaa", sum := "664e64a38410cb80548bf0aea1244999c668adfd68e1bd94ac148df86b3e219e", func := "muster/musterlaw08.NetSpares", spec := "netSpares", unfollowed := true, recurses := true, apart := false, narrowed := true }
def NetSparesUptoSaid : Prop := netSparesUptoRow.holds Try.pinned (OpenSpec.upto netSparesSpec)

/-- 'musterlaw08.NetPlays', WHERE WHAT IT READS IS OF BULK AT MOST 1048576: true; the input reads as it did. -/
def netPlaysUptoRow : OpenClaim := { program := "ytlfmiplojpcklaa", sum := "664e64a38410cb80548bf0aea1244999c668adfd68e1bd94ac148df86b3e219e", func := "muster/musterlaw08.NetPlays", spec := "netPlays", inPlace := ["maps.clone"], unfollowed := true, recurses := true, apart := false, narrowed := true }
def NetPlaysUptoSaid : Prop := netPlaysUptoRow.holds Try.pinned (OpenSpec.upto netPlaysSpec)

/-- 'musterlaw28.DaemonNumbers', WHERE WHAT IT READS IS OF BULK AT MOST 1048576: true; the input reads as it did. -/
def daemonNumbersUptoRow : OpenClaim := { program := "ytlfmiplojpcklaa", sum := "664e64a38410cb80548bf0aea1244999c668adfd68e1bd94ac148df86b3e219e", func := "muster/musterlaw28.DaemonNumbers", spec := "daemonNumbers", unfollowed := true, recurses := true, apart := false, narrowed := true }
def DaemonNumbersUptoSaid : Prop := daemonNumbersUptoRow.holds Try.pinned (OpenSpec.upto daemonNumbersSpec)

/-- 'musterlaw28.DaemonOnce', WHERE WHAT IT READS IS OF BULK AT MOST 1048576: true; the input reads as it did. -/
def daemonOnceUptoRow : OpenClaim := { program := "ytlfmiplojpcklaa", sum := "664e64a38410cb80548bf0aea1244999c668adfd68e1bd94ac148df86b3e219e", func := "muster/musterlaw28.DaemonOnce", spec := "daemonOnce", unfollowed := true, recurses := true, apart := false, narrowed := true }
def DaemonOnceUptoSaid : Prop := daemonOnceUptoRow.holds Try.pinned (OpenSpec.upto daemonOnceSpec)

/-- 'musterlaw28.DaemonPlays', WHERE WHAT IT READS IS OF BULK AT MOST 1048576: true; the input reads as it did. -/
def daemonPlaysUptoRow : OpenClaim := { program := "ytlfmiplojpcklaa", sum := "664e64a38410cb80548bf0aea1244999c668adfd68e1bd94ac148df86b3e219e", func := "muster/musterlaw28.DaemonPlays", spec := "daemonPlays", inPlace := ["maps.clone"], unfollowed := true, recurses := true, apart := false, narrowed := true }
def DaemonPlaysUptoSaid : Prop := daemonPlaysUptoRow.holds Try.pinned (OpenSpec.upto daemonPlaysSpec)

/-- 'musterlaw12.ProfileFit', WHERE WHAT IT READS IS OF BULK AT MOST 1048576: true; the input reads as it did. -/
def profileFitUptoRow : OpenClaim := { program := "ytlfmiplojpcklaa", sum := "664e64a38410cb80548bf0aea1244999c668adfd68e1bd94ac148df86b3e219e", func := "muster/musterlaw12.ProfileFit", spec := "profileFit", inPlace := ["slices.overlaps[muster/api.Cut]"], unfollowed := true, recurses := true, apart := false, narrowed := true }
def ProfileFitUptoSaid : Prop := profileFitUptoRow.holds Try.pinned (OpenSpec.upto profileFitSpec)

/-- 'musterlaw12.ProfileBack', WHERE WHAT IT READS IS OF BULK AT MOST 1048576: true; the input reads as it did. -/
def profileBackUptoRow : OpenClaim := { program := "ytlfmiplojpcklaa", sum := "664e64a38410cb80548bf0aea1244999c668adfd68e1bd94ac148df86b3e219e", func := "muster/musterlaw12.ProfileBack", spec := "profileBack", inPlace := ["slices.overlaps[muster/api.Cut]"], unfollowed := true, recurses := true, apart := false, narrowed := true }
def ProfileBackUptoSaid : Prop := profileBackUptoRow.holds Try.pinned (OpenSpec.upto profileBackSpec)

/-- 'musterlaw12.ProfileFits', WHERE WHAT IT READS IS OF BULK AT MOST 1048576: true; the input reads as it did. -/
def profileFitsUptoRow : OpenClaim := { program := "ytlfmiplojpcklaa", sum := "664e64a38410cb80548bf0aea1244999c668adfd68e1bd94ac148df86b3e219e", func := "muster/musterlaw12.ProfileFits", spec := "profileFits", inPlace := ["slices.overlaps[muster/api.Cut]"], unfollowed := true, recurses := true, apart := false, narrowed := true }
def ProfileFitsUptoSaid : Prop := profileFitsUptoRow.holds Try.pinned (OpenSpec.upto profileFitsSpec)

/-- 'musterlaw12.ProfileTells', WHERE WHAT IT READS IS OF BULK AT MOST 1048576: true; the input reads as it did. -/
def profileTellsUptoRow : OpenClaim := { program := "ytlfmiplojpcklaa", sum := "664e64a38410cb80548bf0aea1244999c668adfd68e1bd94ac148df86b3e219e", func := "muster/musterlaw12.ProfileTells", spec := "profileTells", inPlace := ["slices.overlaps[muster/api.Cut]"], unfollowed := true, recurses := true, apart := false, narrowed := true }
def ProfileTellsUptoSaid : Prop := profileTellsUptoRow.holds Try.pinned (OpenSpec.upto profileTellsSpec)

/-- 'musterlaw16.PartsCheck', WHERE WHAT IT READS IS OF BULK AT MOST 1048576: true; the input reads as it did. -/
def partsCheckUptoRow : OpenClaim := { program := "ytlfmiplojpcklaa", sum := "664e64a38410cb80548bf0aea1244999c668adfd68e1bd94ac148df86b3e219e", func := "muster/musterlaw16.PartsCheck", spec := "partsCheck", unfollowed := true, recurses := true, apart := false, narrowed := true }
def PartsCheckUptoSaid : Prop := partsCheckUptoRow.holds Try.pinned (OpenSpec.upto partsCheckSpec)

end Rows
end Go.Proofs.Ytlfmiplojpcklaa
