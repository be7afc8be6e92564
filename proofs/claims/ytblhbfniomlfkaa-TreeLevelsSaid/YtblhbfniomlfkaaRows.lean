/-
  No cell of these rows narrows 'for every input' (looked for: loops, veiled, ifaces, maps, wideKeys, modest, calm, conditions, laid).
  DERIVED. THE GIVEN ROWS OF THIS SEAT. 4 by the template 'for every input the law returns true; each argument reads behind the call as it read before'; 0 by the template 'total and deterministic' (their statements: YtblhbfniomlfkaaTotals.lean).
  GIVEN WITH THE SEED: the statements are not yours to turn. If you find one false, say at which input.
  Laid BY PROGRAM, IN A SANDBOX (cutbox-rows.mjs): the forced cells as the released guide's own fill.sh prints them over the translation caf92358d57f42b0… (all of the seat's roots in one cut). By AI agents, Wed Nov 11 2026. No macro, syntax, notation, axiom, sorry.
-/
import Derived.Test.YtblhbfniomlfkaaChecked
import GoSem.Claim
import GoSem.ClaimJoined
import GoSem.ClaimMapViews
import Derived.JoinedTies
import Derived.KernelRfl
namespace Go.Proofs.Ytblhbfniomlfkaa
/- THE CELL 'sum', in the pinned program and in every row, IS THE sha256 OF THE DUMP (.gsa) THAT YtblhbfniomlfkaaProg.lean LOADS. Nothing in Lean hashes anything: it is a label: what it is worth is what the hold of that sum in a sandbox is worth. -/
noncomputable def Try.pinned : Pinned := { name := "ytblhbfniomlfkaa", sum := "caf92358d57f42b054a8aa4e6902438c5c4fed1b28760d84981285368d55017a", checked := Try.checked }
namespace Rows
def none {H : Type} : Left H := { results := [], args := [] }

/-- 'honeycomblaw17.SweepCollects': WHATEVER THE INPUT: true; the input reads as it did. -/
def sweepCollectsSpec : ChangeSpec := { name := "sweepCollects", fn := fun _ => fun
  | [d1, d2, d3] => { results := [.lit (.bool true)], args := [d1, d2, d3] }
  | _ => none }
def sweepCollectsRow : OpenClaim := { program := "ytblhbfniomlfkaa", sum := "caf92358d57f42b054a8aa4e6902438c5c4fed1b28760d84981285368d55017a", func := "honeycomb/honeycomblaw17.SweepCollects", spec := "sweepCollects", recurses := true, plainKeys := false, apart := false }
def SweepCollectsSaid : Prop := sweepCollectsRow.holds Try.pinned (OpenSpec.ofChange sweepCollectsSpec)

/-- ITS FALSE NEIGHBOUR: 'it returns false'. Refute it at one input. -/
def sweepCollectsWrong : ChangeSpec := { name := "sweepCollects", fn := fun _ => fun
  | [d1, d2, d3] => { results := [.lit (.bool false)], args := [d1, d2, d3] }
  | _ => none }
def SweepCollectsWrongFalsely : Prop := sweepCollectsRow.holds Try.pinned (OpenSpec.ofChange sweepCollectsWrong)

/-- 'honeycomblaw13.TreeLevels': WHATEVER THE INPUT: true; the input reads as it did. -/
def treeLevelsSpec : ChangeSpec := { name := "treeLevels", fn := fun _ => fun
  | [d1, d2, d3] => { results := [.lit (.bool true)], args := [d1, d2, d3] }
  | _ => none }
def treeLevelsRow : OpenClaim := { program := "ytblhbfniomlfkaa", sum := "caf92358d57f42b054a8aa4e6902438c5c4fed1b28760d84981285368d55017a", func := "honeycomb/honeycomblaw13.TreeLevels", spec := "treeLevels", recurses := true, plainKeys := false, apart := false }
def TreeLevelsSaid : Prop := treeLevelsRow.holds Try.pinned (OpenSpec.ofChange treeLevelsSpec)

/-- ITS FALSE NEIGHBOUR: 'it returns false'. Refute it at one input. -/
def treeLevelsWrong : ChangeSpec := { name := "treeLevels", fn := fun _ => fun
  | [d1, d2, d3] => { results := [.lit (.bool false)], args := [d1, d2, d3] }
  | _ => none }
def TreeLevelsWrongFalsely : Prop := treeLevelsRow.holds Try.pinned (OpenSpec.ofChange treeLevelsWrong)

/-- 'honeycomblaw09.SiteBack': WHATEVER THE INPUT: true; the input reads as it did. -/
def siteBackSpec : ChangeSpec := { name := "siteBack", fn := fun _ => fun
  | [d1, d2] => { results := [.lit (.bool true)], args := [d1, d2] }
  | _ => none }
def siteBackRow : OpenClaim := { program := "ytblhbfniomlfkaa", sum := "caf92358d57f42b054a8aa4e6902438c5c4fed1b28760d84981285368d55017a", func := "honeycomb/honeycomblaw09.SiteBack", spec := "siteBack", unfollowed := true, recurses := true, plainKeys := false, apart := false }
def SiteBackSaid : Prop := siteBackRow.holds Try.pinned (OpenSpec.ofChange siteBackSpec)

/-- ITS FALSE NEIGHBOUR: 'it returns false'. Refute it at one input. -/
def siteBackWrong : ChangeSpec := { name := "siteBack", fn := fun _ => fun
  | [d1, d2] => { results := [.lit (.bool false)], args := [d1, d2] }
  | _ => none }
def SiteBackWrongFalsely : Prop := siteBackRow.holds Try.pinned (OpenSpec.ofChange siteBackWrong)

/-- 'honeycomblaw13.TreeShares': WHATEVER THE INPUT: true; the input reads as it did. -/
def treeSharesSpec : ChangeSpec := { name := "treeShares", fn := fun _ => fun
  | [d1, d2] => { results := [.lit (.bool true)], args := [d1, d2] }
  | _ => none }
def treeSharesRow : OpenClaim := { program := "ytblhbfniomlfkaa", sum := "caf92358d57f42b054a8aa4e6902438c5c4fed1b28760d84981285368d55017a", func := "honeycomb/honeycomblaw13.TreeShares", spec := "treeShares", unfollowed := true, recurses := true, plainKeys := false, apart := false }
def TreeSharesSaid : Prop := treeSharesRow.holds Try.pinned (OpenSpec.ofChange treeSharesSpec)

/-- ITS FALSE NEIGHBOUR: 'it returns false'. Refute it at one input. -/
def treeSharesWrong : ChangeSpec := { name := "treeShares", fn := fun _ => fun
  | [d1, d2] => { results := [.lit (.bool false)], args := [d1, d2] }
  | _ => none }
def TreeSharesWrongFalsely : Prop := treeSharesRow.holds Try.pinned (OpenSpec.ofChange treeSharesWrong)

/- THE SECOND FORM. 'bulk': how many values and letters a reading holds, each counted each time it is reached (what is shared counts as often as it is met; a slice's spare places count too). A statement '..UptoSaid' is the law's where the arguments, and the package variables that the reading takes, are together of bulk at most 1048576: NARROWER than '..Said'. Prove '..Said' where nothing that the law and all that it calls make is longer than what came in: it says more and counts as full. Else prove '..UptoSaid'. A law counts once. -/
mutual
def uptoBulk {H : Type} : DataW H → Nat
  | .lit (.string bytes) => bytes.length + 1
  | .lit _ => 1
  | .nil => 1
  | .ptr d => uptoBulk d + 1
  | .slice elems spare => uptoBulkAll elems + uptoBulkAll spare + 1
  | .agg parts => uptoBulkAll parts + 1
  | .iface _ d => uptoBulk d + 1
  | .map entries => uptoBulkEntries entries + 1
  | .held _ => 1
def uptoBulkAll {H : Type} : List (DataW H) → Nat
  | [] => 0
  | d :: r => uptoBulk d + uptoBulkAll r
def uptoBulkEntries {H : Type} : List (Lit × DataW H) → Nat
  | [] => 0
  | x :: r => uptoBulkEntry x + uptoBulkEntries r
def uptoBulkEntry {H : Type} : Lit × DataW H → Nat
  | (.string bytes, d) => bytes.length + uptoBulk d + 1
  | (_, d) => uptoBulk d + 1
 end
def uptoSmall : (H : Type) → List (DataW H) → Bool := fun _ ds => decide (uptoBulkAll ds ≤ 1048576)
def OpenSpec.upto (s : _root_.Go.ChangeSpec) : _root_.Go.OpenSpec := { _root_.Go.OpenSpec.ofChange s with cond := some uptoSmall }

/-- 'honeycomblaw17.SweepCollects', WHERE WHAT IT READS IS OF BULK AT MOST 1048576: true; the input reads as it did. -/
def sweepCollectsUptoRow : OpenClaim := { program := "ytblhbfniomlfkaa", sum := "caf92358d57f42b054a8aa4e6902438c5c4fed1b28760d84981285368d55017a", func := "honeycomb/honeycomblaw17.SweepCollects", spec := "sweepCollects", recurses := true, plainKeys := false, apart := false, narrowed := true }
def SweepCollectsUptoSaid : Prop := sweepCollectsUptoRow.holds Try.pinned (OpenSpec.upto sweepCollectsSpec)

/-- 'honeycomblaw13.TreeLevels', WHERE WHAT IT READS IS OF BULK AT MOST 1048576: true; the input reads as it did. -/
def treeLevelsUptoRow : OpenClaim := { program := "ytblhbfniomlfkaa", sum := "caf92358d57f42b054a8aa4e6902438c5c4fed1b28760d84981285368d55017a", func := "honeycomb/honeycomblaw13.TreeLevels", spec := "treeLevels", recurses := true, plainKeys := false, apart := false, narrowed := true }
def TreeLevelsUptoSaid : Prop := treeLevelsUptoRow.holds Try.pinned (OpenSpec.upto treeLevelsSpec)

/-- 'honeycomblaw09.SiteBack', WHERE WHAT IT READS IS OF BULK AT MOST 1048576: true; the input reads as it did. -/
def siteBackUptoRow : OpenClaim := { program := "ytblhbfniomlfkaa", sum := "caf92358d57f42b054a8aa4e6902438c5c4fed1b28760d84981285368d55017a", func := "honeycomb/honeycomblaw09.SiteBack", spec := "siteBack", unfollowed := true, recurses := true, plainKeys := false, apart := false, narrowed := true }
def SiteBackUptoSaid : Prop := siteBackUptoRow.holds Try.pinned (OpenSpec.upto siteBackSpec)

/-- 'honeycomblaw13.TreeShares', WHERE WHAT IT READS IS OF BULK AT MOST 1048576: true; the input reads as it did. -/
def treeSharesUptoRow : OpenClaim := { program := "ytblhbfniomlfkaa", sum := "caf92358d57f42b054a8aa4e6902438c5c4fed1b28760d84981285368d55017a", func := "honeycomb/honeycomblaw13.TreeShares", spec := "treeShares", unfollowed := true, recurses := true, plainKeys := false, apart := false, narrowed := true }
def TreeSharesUptoSaid : Prop := treeSharesUptoRow.holds Try.pinned (OpenSpec.upto treeSharesSpec)

end Rows
end Go.Proofs.Ytblhbfniomlfkaa
