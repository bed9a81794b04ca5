/-
  NARROWER THAN 'FOR EVERY INPUT', by the rows' own cells (each row's printed sentence says how): WireBack: loops · WireAway: loops.
  DERIVED. THE GIVEN ROWS OF THIS SEAT. 5 by the template 'for every input the law returns true; each argument reads behind the call as it read before'; 0 by the template 'total and deterministic' (their statements: YtcohlhplpogopaaGreatTotals.lean).
  GIVEN WITH THE SEED: the statements are not yours to turn. If you find one false, say at which input.
  Laid BY PROGRAM, IN A SANDBOX (cutbox-rows.mjs): the forced cells as the released guide's own fill.sh prints them over the translation dc874a64634664db… (all of the seat's roots in one cut). By AI agents, Wed Nov 11 2026. No macro, syntax, notation, axiom, sorry.
-/
import Derived.Test.YtcohlhplpogopaaGreatChecked
import GoSem.Claim
import GoSem.ClaimJoined
import GoSem.ClaimMapViews
import Derived.JoinedTies
import Derived.KernelRfl
namespace Go.Proofs.YtcohlhplpogopaaGreat
/- THE CELL 'sum', in the pinned program and in every row, IS THE sha256 OF THE DUMP (.gsa) THAT YtcohlhplpogopaaGreatProg.lean LOADS. Nothing in Lean hashes anything: it is a label: what it is worth is what the hold of that sum in a sandbox is worth. -/
noncomputable def Tryz.pinned : Pinned := { name := "ytcohlhplpogopaagreat", sum := "dc874a64634664dbe365ae8271ae876240f89137cf7ab8927409052e914f6f4e", checked := Tryz.checked }
namespace Rows
def none {H : Type} : Left H := { results := [], args := [] }

/-- 'cabotagelaw12.WireBack': WHATEVER THE INPUT: true; the input reads as it did. -/
def wireBackSpec : ChangeSpec := { name := "wireBack", fn := fun _ => fun
  | [d1, d2, d3] => { results := [.lit (.bool true)], args := [d1, d2, d3] }
  | _ => none }
def wireBackRow : OpenClaim := { program := "ytcohlhplpogopaagreat", sum := "dc874a64634664dbe365ae8271ae876240f89137cf7ab8927409052e914f6f4e", func := "cabotage/cabotagelaw12.WireBack", spec := "wireBack", inPlace := ["slices.overlaps[cabotage/api.SolWait]"], unfollowed := true, recurses := true, loops := true, plainKeys := false, apart := false }
def WireBackSaid : Prop := wireBackRow.holds Tryz.pinned (OpenSpec.ofChange wireBackSpec)

/-- ITS FALSE NEIGHBOUR: 'it returns false'. Refute it at one input. -/
def wireBackWrong : ChangeSpec := { name := "wireBack", fn := fun _ => fun
  | [d1, d2, d3] => { results := [.lit (.bool false)], args := [d1, d2, d3] }
  | _ => none }
def WireBackWrongFalsely : Prop := wireBackRow.holds Tryz.pinned (OpenSpec.ofChange wireBackWrong)

/-- 'cabotagelaw12.WireOne': WHATEVER THE INPUT: true; the input reads as it did. -/
def wireOneSpec : ChangeSpec := { name := "wireOne", fn := fun _ => fun
  | [d1, d2, d3] => { results := [.lit (.bool true)], args := [d1, d2, d3] }
  | _ => none }
def wireOneRow : OpenClaim := { program := "ytcohlhplpogopaagreat", sum := "dc874a64634664dbe365ae8271ae876240f89137cf7ab8927409052e914f6f4e", func := "cabotage/cabotagelaw12.WireOne", spec := "wireOne", inPlace := ["slices.overlaps[cabotage/api.SolWait]"], unfollowed := true, recurses := true, plainKeys := false, apart := false }
def WireOneSaid : Prop := wireOneRow.holds Tryz.pinned (OpenSpec.ofChange wireOneSpec)

/-- ITS FALSE NEIGHBOUR: 'it returns false'. Refute it at one input. -/
def wireOneWrong : ChangeSpec := { name := "wireOne", fn := fun _ => fun
  | [d1, d2, d3] => { results := [.lit (.bool false)], args := [d1, d2, d3] }
  | _ => none }
def WireOneWrongFalsely : Prop := wireOneRow.holds Tryz.pinned (OpenSpec.ofChange wireOneWrong)

/-- 'cabotagelaw12.WireDamage': WHATEVER THE INPUT: true; the input reads as it did. -/
def wireDamageSpec : ChangeSpec := { name := "wireDamage", fn := fun _ => fun
  | [d1, d2, d3, d4] => { results := [.lit (.bool true)], args := [d1, d2, d3, d4] }
  | _ => none }
def wireDamageRow : OpenClaim := { program := "ytcohlhplpogopaagreat", sum := "dc874a64634664dbe365ae8271ae876240f89137cf7ab8927409052e914f6f4e", func := "cabotage/cabotagelaw12.WireDamage", spec := "wireDamage", inPlace := ["slices.overlaps[cabotage/api.SolWait]"], unfollowed := true, recurses := true, plainKeys := false, apart := false }
def WireDamageSaid : Prop := wireDamageRow.holds Tryz.pinned (OpenSpec.ofChange wireDamageSpec)

/-- ITS FALSE NEIGHBOUR: 'it returns false'. Refute it at one input. -/
def wireDamageWrong : ChangeSpec := { name := "wireDamage", fn := fun _ => fun
  | [d1, d2, d3, d4] => { results := [.lit (.bool false)], args := [d1, d2, d3, d4] }
  | _ => none }
def WireDamageWrongFalsely : Prop := wireDamageRow.holds Tryz.pinned (OpenSpec.ofChange wireDamageWrong)

/-- 'cabotagelaw12.WireNames': WHATEVER THE INPUT: true; the input reads as it did. -/
def wireNamesSpec : ChangeSpec := { name := "wireNames", fn := fun _ => fun
  | [d1, d2] => { results := [.lit (.bool true)], args := [d1, d2] }
  | _ => none }
def wireNamesRow : OpenClaim := { program := "ytcohlhplpogopaagreat", sum := "dc874a64634664dbe365ae8271ae876240f89137cf7ab8927409052e914f6f4e", func := "cabotage/cabotagelaw12.WireNames", spec := "wireNames", inPlace := ["slices.overlaps[cabotage/api.SolWait]"], unfollowed := true, recurses := true, plainKeys := false, apart := false }
def WireNamesSaid : Prop := wireNamesRow.holds Tryz.pinned (OpenSpec.ofChange wireNamesSpec)

/-- ITS FALSE NEIGHBOUR: 'it returns false'. Refute it at one input. -/
def wireNamesWrong : ChangeSpec := { name := "wireNames", fn := fun _ => fun
  | [d1, d2] => { results := [.lit (.bool false)], args := [d1, d2] }
  | _ => none }
def WireNamesWrongFalsely : Prop := wireNamesRow.holds Tryz.pinned (OpenSpec.ofChange wireNamesWrong)

/-- 'cabotagelaw12.WireAway': WHATEVER THE INPUT: true; the input reads as it did. -/
def wireAwaySpec : ChangeSpec := { name := "wireAway", fn := fun _ => fun
  | [d1, d2, d3, d4] => { results := [.lit (.bool true)], args := [d1, d2, d3, d4] }
  | _ => none }
def wireAwayRow : OpenClaim := { program := "ytcohlhplpogopaagreat", sum := "dc874a64634664dbe365ae8271ae876240f89137cf7ab8927409052e914f6f4e", func := "cabotage/cabotagelaw12.WireAway", spec := "wireAway", inPlace := ["slices.overlaps[cabotage/api.SolWait]"], unfollowed := true, recurses := true, loops := true, plainKeys := false, apart := false }
def WireAwaySaid : Prop := wireAwayRow.holds Tryz.pinned (OpenSpec.ofChange wireAwaySpec)

/-- ITS FALSE NEIGHBOUR: 'it returns false'. Refute it at one input. -/
def wireAwayWrong : ChangeSpec := { name := "wireAway", fn := fun _ => fun
  | [d1, d2, d3, d4] => { results := [.lit (.bool false)], args := [d1, d2, d3, d4] }
  | _ => none }
def WireAwayWrongFalsely : Prop := wireAwayRow.holds Tryz.pinned (OpenSpec.ofChange wireAwayWrong)

/- THE SECOND FORM. 'bulk': how many values and letters a reading holds, each counted each time it is reached (what is shared counts as often as it is met; a slice's spare places count too). A statement '..UptoSaid' is the law's where the arguments, and the package variables that the reading takes, are together of bulk at most 1048576: NARROWER than '..Said'. Prove '..Said' where nothing that the law and all that it calls make is longer than what came in: it says more and counts as full. Else prove '..UptoSaid'. A law counts once. -/
mutual
def uptoBulk {H : Type} : DataW H → Nat
  | .lit (.string bytes) => bytes.length + 1
  | .lit _ => 1
  | .nil => 1
  | .ptr d => uptoBulk d + 1
  | .slice elems spare => uptoBulkAll elems + uptoBulkAll spare + 1
  | .agg parts => uptoBulkAll parts + 1
  | .iface _ d => uptoBulk d + 1
  | .map entries => uptoBulkEntries entries + 1
  | .held _ => 1
def uptoBulkAll {H : Type} : List (DataW H) → Nat
  | [] => 0
  | d :: r => uptoBulk d + uptoBulkAll r
def uptoBulkEntries {H : Type} : List (Lit × DataW H) → Nat
  | [] => 0
  | x :: r => uptoBulkEntry x + uptoBulkEntries r
def uptoBulkEntry {H : Type} : Lit × DataW H → Nat
  | (.string bytes, d) => bytes.length + uptoBulk d + 1
  | (_, d) => uptoBulk d + 1
 end
def uptoSmall : (H : Type) → List (DataW H) → Bool := fun _ ds => decide (uptoBulkAll ds ≤ 1048576)
def OpenSpec.upto (s : _root_.Go.ChangeSpec) : _root_.Go.OpenSpec := { _root_.Go.OpenSpec.ofChange s with cond := some uptoSmall }

/-- 'cabotagelaw12.WireBack', WHERE WHAT IT READS IS OF BULK AT MOST 1048576: true; the input reads as it did. -/
def wireBackUptoRow : OpenClaim := { program := "ytcohlhplpogopaagreat", sum := "dc874a64634664dbe365ae8271ae876240f89137cf7ab8927409052e914f6f4e", func := "cabotage/cabotagelaw12.WireBack", spec := "wireBack", inPlace := ["slices.overlaps[cabotage/api.SolWait]"], unfollowed := true, recurses := true, loops := true, plainKeys := false, apart := false, narrowed := true }
def WireBackUptoSaid : Prop := wireBackUptoRow.holds Tryz.pinned (OpenSpec.upto wireBackSpec)

/-- 'cabotagelaw12.WireOne', WHERE WHAT IT READS IS OF BULK AT MOST 1048576: true; the input reads as it did. -/
def wireOneUptoRow : OpenClaim := { program := "ytcohlhplpogopaagreat", sum := "dc874a64634664dbe365ae8271ae876240f89137cf7ab8927409052e914f6f4e", func := "cabotage/cabotagelaw12.WireOne", spec := "wireOne", inPlace := ["slices.overlaps[cabotage/api.SolWait]"], unfollowed := true, recurses := true, plainKeys := false, apart := false, narrowed := true }
def WireOneUptoSaid : Prop := wireOneUptoRow.holds Tryz.pinned (OpenSpec.upto wireOneSpec)

/-- 'cabotagelaw12.WireDamage', WHERE WHAT IT READS IS OF BULK AT MOST 1048576: true; the input reads as it did. -/
def wireDamageUptoRow : OpenClaim := { program := "ytcohlhplpogopaagreat", sum := "dc874a64634664dbe365ae8271ae876240f89137cf7ab8927409052e914f6f4e", func := "cabotage/cabotagelaw12.WireDamage", spec := "wireDamage", inPlace := ["slices.overlaps[cabotage/api.SolWait]"], unfollowed := true, recurses := true, plainKeys := false, apart := false, narrowed := true }
def WireDamageUptoSaid : Prop := wireDamageUptoRow.holds Tryz.pinned (OpenSpec.upto wireDamageSpec)

/-- 'cabotagelaw12.WireNames', WHERE WHAT IT READS IS OF BULK AT MOST 1048576: true; the input reads as it did. -/
def wireNamesUptoRow : OpenClaim := { program := "ytcohlhplpogopaagreat", sum := "dc874a64634664dbe365ae8271ae876240f89137cf7ab8927409052e914f6f4e", func := "cabotage/cabotagelaw12.WireNames", spec := "wireNames", inPlace := ["slices.overlaps[cabotage/api.SolWait]"], unfollowed := true, recurses := true, plainKeys := false, apart := false, narrowed := true }
def WireNamesUptoSaid : Prop := wireNamesUptoRow.holds Tryz.pinned (OpenSpec.upto wireNamesSpec)

/-- 'cabotagelaw12.WireAway', WHERE WHAT IT READS IS OF BULK AT MOST 1048576: true; the input reads as it did. -/
def wireAwayUptoRow : OpenClaim := { program := "ytcohlhplpogopaagreat", sum := "dc874a64634664dbe365ae8271ae876240f89137cf7ab8927409052e914f6f4e", func := "cabotage/cabotagelaw12.WireAway", spec := "wireAway", inPlace := ["slices.overlaps[cabotage/api.SolWait]"], unfollowed := true, recurses := true, loops := true, plainKeys := false, apart := false, narrowed := true }
def WireAwayUptoSaid : Prop := wireAwayUptoRow.holds Tryz.pinned (OpenSpec.upto wireAwaySpec)

end Rows
end Go.Proofs.YtcohlhplpogopaaGreat
