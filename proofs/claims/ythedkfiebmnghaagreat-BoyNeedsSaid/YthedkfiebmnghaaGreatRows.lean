/-
  No cell of these rows narrows 'for every input' (looked for: loops, veiled, ifaces, maps, wideKeys, modest, calm, conditions, laid).
  DERIVED. THE GIVEN ROWS OF THIS SEAT. 9 by the template 'for every input the law returns true; each argument reads behind the call as it read before'; 0 by the template 'total and deterministic' (their statements: YthedkfiebmnghaaGreatTotals.lean).
  GIVEN WITH THE SEED: the statements are not yours to turn. If you find one false, say at which input.
  Laid BY PROGRAM, IN A SANDBOX (cutbox-rows.mjs): the forced cells as the released guide's own fill.sh prints them over the translation f4d4fe87c151efe7… (all of the seat's roots in one cut). By AI agents, Wed Nov 11 2026. No macro, syntax, notation, axiom, sorry.
-/
import Derived.Test.YthedkfiebmnghaaGreatChecked
import GoSem.Claim
import GoSem.ClaimJoined
import GoSem.ClaimMapViews
import Derived.JoinedTies
import Derived.KernelRfl
namespace Go.Proofs.YthedkfiebmnghaaGreat
/- THE CELL 'sum', in the pinned program and in every row, IS THE sha256 OF THE DUMP (.gsa) THAT YthedkfiebmnghaaGreatProg.lean LOADS. Nothing in Lean hashes anything: it is a label: what it is worth is what the hold of that sum in a sandbox is worth. -/
noncomputable def Tryz.pinned : Pinned := { name := "ythedkfiebmnghaagreat", sum := "f4d4fe87c151efe75f0d946bc72b01ffddc3e51d003333cac4b328dd72de9b6c", checked := Tryz.checked }
namespace Rows
def none {H : Type} : Left H := { results := [], args := [] }

/-- 'shearworkslaw12.BoyReads': WHATEVER THE INPUT: true; the input reads as it did. -/
def boyReadsSpec : ChangeSpec := { name := "boyReads", fn := fun _ => fun
  | [d1, d2, d3, d4, d5] => { results := [.lit (.bool true)], args := [d1, d2, d3, d4, d5] }
  | _ => none }
def boyReadsRow : OpenClaim := { program := "ythedkfiebmnghaagreat", sum := "f4d4fe87c151efe75f0d946bc72b01ffddc3e51d003333cac4b328dd72de9b6c", func := "shearworks/shearworkslaw12.BoyReads", spec := "boyReads", unfollowed := true, recurses := true, plainKeys := false, apart := false }
def BoyReadsSaid : Prop := boyReadsRow.holds Tryz.pinned (OpenSpec.ofChange boyReadsSpec)

/-- ITS FALSE NEIGHBOUR: 'it returns false'. Refute it at one input. -/
def boyReadsWrong : ChangeSpec := { name := "boyReads", fn := fun _ => fun
  | [d1, d2, d3, d4, d5] => { results := [.lit (.bool false)], args := [d1, d2, d3, d4, d5] }
  | _ => none }
def BoyReadsWrongFalsely : Prop := boyReadsRow.holds Tryz.pinned (OpenSpec.ofChange boyReadsWrong)

/-- 'shearworkslaw12.BoyPlans': WHATEVER THE INPUT: true; the input reads as it did. -/
def boyPlansSpec : ChangeSpec := { name := "boyPlans", fn := fun _ => fun
  | [d] => { results := [.lit (.bool true)], args := [d] }
  | _ => none }
def boyPlansRow : OpenClaim := { program := "ythedkfiebmnghaagreat", sum := "f4d4fe87c151efe75f0d946bc72b01ffddc3e51d003333cac4b328dd72de9b6c", func := "shearworks/shearworkslaw12.BoyPlans", spec := "boyPlans", unfollowed := true, recurses := true, plainKeys := false, apart := false }
def BoyPlansSaid : Prop := boyPlansRow.holds Tryz.pinned (OpenSpec.ofChange boyPlansSpec)

/-- ITS FALSE NEIGHBOUR: 'it returns false'. Refute it at one input. -/
def boyPlansWrong : ChangeSpec := { name := "boyPlans", fn := fun _ => fun
  | [d] => { results := [.lit (.bool false)], args := [d] }
  | _ => none }
def BoyPlansWrongFalsely : Prop := boyPlansRow.holds Tryz.pinned (OpenSpec.ofChange boyPlansWrong)

/-- 'shearworkslaw12.BoyTrue': WHATEVER THE INPUT: true; the input reads as it did. -/
def boyTrueSpec : ChangeSpec := { name := "boyTrue", fn := fun _ => fun
  | [d1, d2] => { results := [.lit (.bool true)], args := [d1, d2] }
  | _ => none }
def boyTrueRow : OpenClaim := { program := "ythedkfiebmnghaagreat", sum := "f4d4fe87c151efe75f0d946bc72b01ffddc3e51d003333cac4b328dd72de9b6c", func := "shearworks/shearworkslaw12.BoyTrue", spec := "boyTrue", unfollowed := true, recurses := true, plainKeys := false, apart := false }
def BoyTrueSaid : Prop := boyTrueRow.holds Tryz.pinned (OpenSpec.ofChange boyTrueSpec)

/-- ITS FALSE NEIGHBOUR: 'it returns false'. Refute it at one input. -/
def boyTrueWrong : ChangeSpec := { name := "boyTrue", fn := fun _ => fun
  | [d1, d2] => { results := [.lit (.bool false)], args := [d1, d2] }
  | _ => none }
def BoyTrueWrongFalsely : Prop := boyTrueRow.holds Tryz.pinned (OpenSpec.ofChange boyTrueWrong)

/-- 'shearworkslaw12.BoyNeeds': WHATEVER THE INPUT: true; the input reads as it did. -/
def boyNeedsSpec : ChangeSpec := { name := "boyNeeds", fn := fun _ => fun
  | [d1, d2, d3] => { results := [.lit (.bool true)], args := [d1, d2, d3] }
  | _ => none }
def boyNeedsRow : OpenClaim := { program := "ythedkfiebmnghaagreat", sum := "f4d4fe87c151efe75f0d946bc72b01ffddc3e51d003333cac4b328dd72de9b6c", func := "shearworks/shearworkslaw12.BoyNeeds", spec := "boyNeeds", unfollowed := true, recurses := true, plainKeys := false, apart := false }
def BoyNeedsSaid : Prop := boyNeedsRow.holds Tryz.pinned (OpenSpec.ofChange boyNeedsSpec)

/-- ITS FALSE NEIGHBOUR: 'it returns false'. Refute it at one input. -/
def boyNeedsWrong : ChangeSpec := { name := "boyNeeds", fn := fun _ => fun
  | [d1, d2, d3] => { results := [.lit (.bool false)], args := [d1, d2, d3] }
  | _ => none }
def BoyNeedsWrongFalsely : Prop := boyNeedsRow.holds Tryz.pinned (OpenSpec.ofChange boyNeedsWrong)

/-- 'shearworkslaw12.BoyPlan': WHATEVER THE INPUT: true; the input reads as it did. -/
def boyPlanSpec : ChangeSpec := { name := "boyPlan", fn := fun _ => fun
  | [d1, d2] => { results := [.lit (.bool true)], args := [d1, d2] }
  | _ => none }
def boyPlanRow : OpenClaim := { program := "ythedkfiebmnghaagreat", sum := "f4d4fe87c151efe75f0d946bc72b01ffddc3e51d003333cac4b328dd72de9b6c", func := "shearworks/shearworkslaw12.BoyPlan", spec := "boyPlan", unfollowed := true, recurses := true, plainKeys := false, apart := false }
def BoyPlanSaid : Prop := boyPlanRow.holds Tryz.pinned (OpenSpec.ofChange boyPlanSpec)

/-- ITS FALSE NEIGHBOUR: 'it returns false'. Refute it at one input. -/
def boyPlanWrong : ChangeSpec := { name := "boyPlan", fn := fun _ => fun
  | [d1, d2] => { results := [.lit (.bool false)], args := [d1, d2] }
  | _ => none }
def BoyPlanWrongFalsely : Prop := boyPlanRow.holds Tryz.pinned (OpenSpec.ofChange boyPlanWrong)

/-- 'shearworkslaw12.BoyLists': WHATEVER THE INPUT: true; the input reads as it did. -/
def boyListsSpec : ChangeSpec := { name := "boyLists", fn := fun _ => fun
  | [d1, d2, d3, d4] => { results := [.lit (.bool true)], args := [d1, d2, d3, d4] }
  | _ => none }
def boyListsRow : OpenClaim := { program := "ythedkfiebmnghaagreat", sum := "f4d4fe87c151efe75f0d946bc72b01ffddc3e51d003333cac4b328dd72de9b6c", func := "shearworks/shearworkslaw12.BoyLists", spec := "boyLists", unfollowed := true, recurses := true, plainKeys := false, apart := false }
def BoyListsSaid : Prop := boyListsRow.holds Tryz.pinned (OpenSpec.ofChange boyListsSpec)

/-- ITS FALSE NEIGHBOUR: 'it returns false'. Refute it at one input. -/
def boyListsWrong : ChangeSpec := { name := "boyLists", fn := fun _ => fun
  | [d1, d2, d3, d4] => { results := [.lit (.bool false)], args := [d1, d2, d3, d4] }
  | _ => none }
def BoyListsWrongFalsely : Prop := boyListsRow.holds Tryz.pinned (OpenSpec.ofChange boyListsWrong)

/-- 'shearworkslaw12.BoySlow': WHATEVER THE INPUT: true; the input reads as it did. -/
def boySlowSpec : ChangeSpec := { name := "boySlow", fn := fun _ => fun
  | [d] => { results := [.lit (.bool true)], args := [d] }
  | _ => none }
def boySlowRow : OpenClaim := { program := "ythedkfiebmnghaagreat", sum := "f4d4fe87c151efe75f0d946bc72b01ffddc3e51d003333cac4b328dd72de9b6c", func := "shearworks/shearworkslaw12.BoySlow", spec := "boySlow", unfollowed := true, recurses := true, plainKeys := false, apart := false }
def BoySlowSaid : Prop := boySlowRow.holds Tryz.pinned (OpenSpec.ofChange boySlowSpec)

/-- ITS FALSE NEIGHBOUR: 'it returns false'. Refute it at one input. -/
def boySlowWrong : ChangeSpec := { name := "boySlow", fn := fun _ => fun
  | [d] => { results := [.lit (.bool false)], args := [d] }
  | _ => none }
def BoySlowWrongFalsely : Prop := boySlowRow.holds Tryz.pinned (OpenSpec.ofChange boySlowWrong)

/-- 'shearworkslaw12.BoyMore': WHATEVER THE INPUT: true; the input reads as it did. -/
def boyMoreSpec : ChangeSpec := { name := "boyMore", fn := fun _ => fun
  | [d1, d2] => { results := [.lit (.bool true)], args := [d1, d2] }
  | _ => none }
def boyMoreRow : OpenClaim := { program := "ythedkfiebmnghaagreat", sum := "f4d4fe87c151efe75f0d946bc72b01ffddc3e51d003333cac4b328dd72de9b6c", func := "shearworks/shearworkslaw12.BoyMore", spec := "boyMore", unfollowed := true, recurses := true, plainKeys := false, apart := false }
def BoyMoreSaid : Prop := boyMoreRow.holds Tryz.pinned (OpenSpec.ofChange boyMoreSpec)

/-- ITS FALSE NEIGHBOUR: 'it returns false'. Refute it at one input. -/
def boyMoreWrong : ChangeSpec := { name := "boyMore", fn := fun _ => fun
  | [d1, d2] => { results := [.lit (.bool false)], args := [d1, d2] }
  | _ => none }
def BoyMoreWrongFalsely : Prop := boyMoreRow.holds Tryz.pinned (OpenSpec.ofChange boyMoreWrong)

/-- 'shearworkstop.TopServed': WHATEVER THE INPUT: true; the input reads as it did. -/
def topServedSpec : ChangeSpec := { name := "topServed", fn := fun _ => fun
  | [d1, d2] => { results := [.lit (.bool true)], args := [d1, d2] }
  | _ => none }
def topServedRow : OpenClaim := { program := "ythedkfiebmnghaagreat", sum := "f4d4fe87c151efe75f0d946bc72b01ffddc3e51d003333cac4b328dd72de9b6c", func := "shearworks/shearworkstop.TopServed", spec := "topServed", unfollowed := true, recurses := true, plainKeys := false, apart := false }
def TopServedSaid : Prop := topServedRow.holds Tryz.pinned (OpenSpec.ofChange topServedSpec)

/-- ITS FALSE NEIGHBOUR: 'it returns false'. Refute it at one input. -/
def topServedWrong : ChangeSpec := { name := "topServed", fn := fun _ => fun
  | [d1, d2] => { results := [.lit (.bool false)], args := [d1, d2] }
  | _ => none }
def TopServedWrongFalsely : Prop := topServedRow.holds Tryz.pinned (OpenSpec.ofChange topServedWrong)

/- THE SECOND FORM. 'bulk': how many values and letters a reading holds, each counted each time it is reached (what is shared counts as often as it is met; a slice's spare places count too). A statement '..UptoSaid' is the law's where the arguments, and the package variables that the reading takes, are together of bulk at most 1048576: NARROWER than '..Said'. Prove '..Said' where nothing that the law and all that it calls make is longer than what came in: it says more and counts as full. Else prove '..UptoSaid'. A law counts once. -/
mutual
def uptoBulk {H : Type} : DataW H → Nat
  | .lit (.string bytes) => bytes.length + 1
  | .lit _ => 1
  | .nil => 1
  | .ptr d => uptoBulk d + 1
  | .slice elems spare => uptoBulkAll elems + uptoBulkAll spare + 1
  | .agg parts => uptoBulkAll parts + 1
  | .iface _ d => uptoBulk d + 1
  | .map entries => uptoBulkEntries entries + 1
  | .held _ => 1
def uptoBulkAll {H : Type} : List (DataW H) → Nat
  | [] => 0
  | d :: r => uptoBulk d + uptoBulkAll r
def uptoBulkEntries {H : Type} : List (Lit × DataW H) → Nat
  | [] => 0
  | x :: r => uptoBulkEntry x + uptoBulkEntries r
def uptoBulkEntry {H : Type} : Lit × DataW H → Nat
  | (.string bytes, d) => bytes.length + uptoBulk d + 1
  | (_, d) => uptoBulk d + 1
 end
def uptoSmall : (H : Type) → List (DataW H) → Bool := fun _ ds => decide (uptoBulkAll ds ≤ 1048576)
def OpenSpec.upto (s : _root_.Go.ChangeSpec) : _root_.Go.OpenSpec := { _root_.Go.OpenSpec.ofChange s with cond := some uptoSmall }

/-- 'shearworkslaw12.BoyReads', WHERE WHAT IT READS IS OF BULK AT MOST 1048576: true; the input reads as it did. -/
def boyReadsUptoRow : OpenClaim := { program := "ythedkfiebmnghaagreat", sum := "f4d4fe87c151efe75f0d946bc72b01ffddc3e51d003333cac4b328dd72de9b6c", func := "shearworks/shearworkslaw12.BoyReads", spec := "boyReads", unfollowed := true, recurses := true, plainKeys := false, apart := false, narrowed := true }
def BoyReadsUptoSaid : Prop := boyReadsUptoRow.holds Tryz.pinned (OpenSpec.upto boyReadsSpec)

/-- 'shearworkslaw12.BoyPlans', WHERE WHAT IT READS IS OF BULK AT MOST 1048576: true; the input reads as it did. -/
def boyPlansUptoRow : OpenClaim := { program := "ythedkfiebmnghaagreat", sum := "f4d4fe87c151efe75f0d946bc72b01ffddc3e51d003333cac4b328dd72de9b6c", func := "shearworks/shearworkslaw12.BoyPlans", spec := "boyPlans", unfollowed := true, recurses := true, plainKeys := false, apart := false, narrowed := true }
def BoyPlansUptoSaid : Prop := boyPlansUptoRow.holds Tryz.pinned (OpenSpec.upto boyPlansSpec)

/-- 'shearworkslaw12.BoyTrue', WHERE WHAT IT READS IS OF BULK AT MOST 1048576: true; the input reads as it did. -/
def boyTrueUptoRow : OpenClaim := { program := "ythedkfiebmnghaagreat", sum := "f4d4fe87c151efe75f0d946bc72b01ffddc3e51d003333cac4b328dd72de9b6c", func := "shearworks/shearworkslaw12.BoyTrue", spec := "boyTrue", unfollowed := true, recurses := true, plainKeys := false, apart := false, narrowed := true }
def BoyTrueUptoSaid : Prop := boyTrueUptoRow.holds Tryz.pinned (OpenSpec.upto boyTrueSpec)

/-- 'shearworkslaw12.BoyNeeds', WHERE WHAT IT READS IS OF BULK AT MOST 1048576: true; the input reads as it did. -/
def boyNeedsUptoRow : OpenClaim := { program := "ythedkfiebmnghaagreat", sum := "f4d4fe87c151efe75f0d946bc72b01ffddc3e51d003333cac4b328dd72de9b6c", func := "shearworks/shearworkslaw12.BoyNeeds", spec := "boyNeeds", unfollowed := true, recurses := true, plainKeys := false, apart := false, narrowed := true }
def BoyNeedsUptoSaid : Prop := boyNeedsUptoRow.holds Tryz.pinned (OpenSpec.upto boyNeedsSpec)

/-- 'shearworkslaw12.BoyPlan', WHERE WHAT IT READS IS OF BULK AT MOST 1048576: true; the input reads as it did. -/
def boyPlanUptoRow : OpenClaim := { program := "ythedkfiebmnghaagreat", sum := "f4d4fe87c151efe75f0d946bc72b01ffddc3e51d003333cac4b328dd72de9b6c", func := "shearworks/shearworkslaw12.BoyPlan", spec := "boyPlan", unfollowed := true, recurses := true, plainKeys := false, apart := false, narrowed := true }
def BoyPlanUptoSaid : Prop := boyPlanUptoRow.holds Tryz.pinned (OpenSpec.upto boyPlanSpec)

/-- 'shearworkslaw12.BoyLists', WHERE WHAT IT READS IS OF BULK AT MOST 1048576: true; the input reads as it did. -/
def boyListsUptoRow : OpenClaim := { program := "ythedkfiebmnghaagreat", sum := "f4d4fe87c151efe75f0d946bc72b01ffddc3e51d003333cac4b328dd72de9b6c", func := "shearworks/shearworkslaw12.BoyLists", spec := "boyLists", unfollowed := true, recurses := true, plainKeys := false, apart := false, narrowed := true }
def BoyListsUptoSaid : Prop := boyListsUptoRow.holds Tryz.pinned (OpenSpec.upto boyListsSpec)

/-- 'shearworkslaw12.BoySlow', WHERE WHAT IT READS IS OF BULK AT MOST 1048576: true; the input reads as it did. -/
def boySlowUptoRow : OpenClaim := { program := "ythedkfiebmnghaagreat", sum := "f4d4fe87c151efe75f0d946bc72b01ffddc3e51d003333cac4b328dd72de9b6c", func := "shearworks/shearworkslaw12.BoySlow", spec := "boySlow", unfollowed := true, recurses := true, plainKeys := false, apart := false, narrowed := true }
def BoySlowUptoSaid : Prop := boySlowUptoRow.holds Tryz.pinned (OpenSpec.upto boySlowSpec)

/-- 'shearworkslaw12.BoyMore', WHERE WHAT IT READS IS OF BULK AT MOST 1048576: true; the input reads as it did. -/
def boyMoreUptoRow : OpenClaim := { program := "ythedkfiebmnghaagreat", sum := "f4d4fe87c151efe75f0d946bc72b01ffddc3e51d003333cac4b328dd72de9b6c", func := "shearworks/shearworkslaw12.BoyMore", spec := "boyMore", unfollowed := true, recurses := true, plainKeys := false, apart := false, narrowed := true }
def BoyMoreUptoSaid : Prop := boyMoreUptoRow.holds Tryz.pinned (OpenSpec.upto boyMoreSpec)

/-- 'shearworkstop.TopServed', WHERE WHAT IT READS IS OF BULK AT MOST 1048576: true; the input reads as it did. -/
def topServedUptoRow : OpenClaim := { program := "ythedkfiebmnghaagreat", sum := "f4d4fe87c151efe75f0d946bc72b01ffddc3e51d003333cac4b328dd72de9b6c", func := "shearworks/shearworkstop.TopServed", spec := "topServed", unfollowed := true, recurses := true, plainKeys := false, apart := false, narrowed := true }
def TopServedUptoSaid : Prop := topServedUptoRow.holds Tryz.pinned (OpenSpec.upto topServedSpec)

end Rows
end Go.Proofs.YthedkfiebmnghaaGreat
