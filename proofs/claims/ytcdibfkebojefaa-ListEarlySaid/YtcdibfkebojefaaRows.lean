/-
  No cell of these rows narrows 'for every input' (looked for: loops, veiled, ifaces, maps, wideKeys, modest, calm, conditions, laid).
  DERIVED. THE GIVEN ROWS OF THIS SEAT. 12 by the template 'for every input the law returns true; each argument reads behind the call as it read before'; 0 by the template 'total and deterministic' (their statements: YtcdibfkebojefaaTotals.lean).
  GIVEN WITH THE SEED: the statements are not yours to turn. If you find one false, say at which input.
  Laid BY PROGRAM, IN A SANDBOX (cutbox-rows.mjs): the forced cells as the released guide's own fill.sh prints them over the translation 94128c7108e1411b… (all of the seat's roots in one cut). By AI agents, Wed Nov 11 2026. No macro, syntax, notation, axiom, sorry.
-/
import Derived.Test.YtcdibfkebojefaaChecked
import GoSem.Claim
import GoSem.ClaimJoined
import GoSem.ClaimMapViews
import Derived.JoinedTies
import Derived.KernelRfl
namespace Go.Proofs.Ytcdibfkebojefaa
/- THE CELL 'sum', in the pinned program and in every row, IS THE sha256 OF THE DUMP (.gsa) THAT YtcdibfkebojefaaProg.lean LOADS. Nothing in Lean hashes anything: it is a label: what it is worth is what the hold of that sum in a sandbox is worth. -/
noncomputable def Try.pinned : Pinned := { name := "ytcdibfkebojefaa", sum := "94128c7108e1411bd282ea938c76619c5d7954f200ee20f7907cb7779f1481b4", checked := Try.checked }
namespace Rows
def none {H : Type} : Left H := { results := [], args := [] }

/-- 'hayloftlaw23.GhostCounts': WHATEVER THE INPUT: true; the input reads as it did. -/
def ghostCountsSpec : ChangeSpec := { name := "ghostCounts", fn := fun _ => fun
  | [d1, d2] => { results := [.lit (.bool true)], args := [d1, d2] }
  | _ => none }
def ghostCountsRow : OpenClaim := { program := "ytcdibfkebojefaa", sum := "94128c7108e1411bd282ea938c76619c5d7954f200ee20f7907cb7779f1481b4", func := "hayloft/hayloftlaw23.GhostCounts", spec := "ghostCounts", unfollowed := true, recurses := true, plainKeys := false, apart := false }
def GhostCountsSaid : Prop := ghostCountsRow.holds Try.pinned (OpenSpec.ofChange ghostCountsSpec)

/-- ITS FALSE NEIGHBOUR: 'it returns false'. Refute it at one input. -/
def ghostCountsWrong : ChangeSpec := { name := "ghostCounts", fn := fun _ => fun
  | [d1, d2] => { results := [.lit (.bool false)], args := [d1, d2] }
  | _ => none }
def GhostCountsWrongFalsely : Prop := ghostCountsRow.holds Try.pinned (OpenSpec.ofChange ghostCountsWrong)

/-- 'hayloftlaw15.BoundsTell': WHATEVER THE INPUT: true; the input reads as it did. -/
def boundsTellSpec : ChangeSpec := { name := "boundsTell", fn := fun _ => fun
  | [d1, d2] => { results := [.lit (.bool true)], args := [d1, d2] }
  | _ => none }
def boundsTellRow : OpenClaim := { program := "ytcdibfkebojefaa", sum := "94128c7108e1411bd282ea938c76619c5d7954f200ee20f7907cb7779f1481b4", func := "hayloft/hayloftlaw15.BoundsTell", spec := "boundsTell", unfollowed := true, recurses := true, plainKeys := false, apart := false }
def BoundsTellSaid : Prop := boundsTellRow.holds Try.pinned (OpenSpec.ofChange boundsTellSpec)

/-- ITS FALSE NEIGHBOUR: 'it returns false'. Refute it at one input. -/
def boundsTellWrong : ChangeSpec := { name := "boundsTell", fn := fun _ => fun
  | [d1, d2] => { results := [.lit (.bool false)], args := [d1, d2] }
  | _ => none }
def BoundsTellWrongFalsely : Prop := boundsTellRow.holds Try.pinned (OpenSpec.ofChange boundsTellWrong)

/-- 'hayloftlaw15.BoundsMore': WHATEVER THE INPUT: true; the input reads as it did. -/
def boundsMoreSpec : ChangeSpec := { name := "boundsMore", fn := fun _ => fun
  | [d1, d2, d3, d4] => { results := [.lit (.bool true)], args := [d1, d2, d3, d4] }
  | _ => none }
def boundsMoreRow : OpenClaim := { program := "ytcdibfkebojefaa", sum := "94128c7108e1411bd282ea938c76619c5d7954f200ee20f7907cb7779f1481b4", func := "hayloft/hayloftlaw15.BoundsMore", spec := "boundsMore", unfollowed := true, recurses := true, plainKeys := false, apart := false }
def BoundsMoreSaid : Prop := boundsMoreRow.holds Try.pinned (OpenSpec.ofChange boundsMoreSpec)

/-- ITS FALSE NEIGHBOUR: 'it returns false'. Refute it at one input. -/
def boundsMoreWrong : ChangeSpec := { name := "boundsMore", fn := fun _ => fun
  | [d1, d2, d3, d4] => { results := [.lit (.bool false)], args := [d1, d2, d3, d4] }
  | _ => none }
def BoundsMoreWrongFalsely : Prop := boundsMoreRow.holds Try.pinned (OpenSpec.ofChange boundsMoreWrong)

/-- 'hayloftlaw15.BoundsRing': WHATEVER THE INPUT: true; the input reads as it did. -/
def boundsRingSpec : ChangeSpec := { name := "boundsRing", fn := fun _ => fun
  | [d1, d2] => { results := [.lit (.bool true)], args := [d1, d2] }
  | _ => none }
def boundsRingRow : OpenClaim := { program := "ytcdibfkebojefaa", sum := "94128c7108e1411bd282ea938c76619c5d7954f200ee20f7907cb7779f1481b4", func := "hayloft/hayloftlaw15.BoundsRing", spec := "boundsRing", unfollowed := true, recurses := true, plainKeys := false, apart := false }
def BoundsRingSaid : Prop := boundsRingRow.holds Try.pinned (OpenSpec.ofChange boundsRingSpec)

/-- ITS FALSE NEIGHBOUR: 'it returns false'. Refute it at one input. -/
def boundsRingWrong : ChangeSpec := { name := "boundsRing", fn := fun _ => fun
  | [d1, d2] => { results := [.lit (.bool false)], args := [d1, d2] }
  | _ => none }
def BoundsRingWrongFalsely : Prop := boundsRingRow.holds Try.pinned (OpenSpec.ofChange boundsRingWrong)

/-- 'hayloftlaw18.DelayEnds': WHATEVER THE INPUT: true; the input reads as it did. -/
def delayEndsSpec : ChangeSpec := { name := "delayEnds", fn := fun _ => fun
  | [d1, d2, d3] => { results := [.lit (.bool true)], args := [d1, d2, d3] }
  | _ => none }
def delayEndsRow : OpenClaim := { program := "ytcdibfkebojefaa", sum := "94128c7108e1411bd282ea938c76619c5d7954f200ee20f7907cb7779f1481b4", func := "hayloft/hayloftlaw18.DelayEnds", spec := "delayEnds", unfollowed := true, recurses := true, plainKeys := false, apart := false }
def DelayEndsSaid : Prop := delayEndsRow.holds Try.pinned (OpenSpec.ofChange delayEndsSpec)

/-- ITS FALSE NEIGHBOUR: 'it returns false'. Refute it at one input. -/
def delayEndsWrong : ChangeSpec := { name := "delayEnds", fn := fun _ => fun
  | [d1, d2, d3] => { results := [.lit (.bool false)], args := [d1, d2, d3] }
  | _ => none }
def DelayEndsWrongFalsely : Prop := delayEndsRow.holds Try.pinned (OpenSpec.ofChange delayEndsWrong)

/-- 'hayloftlaw12.HeightTells': WHATEVER THE INPUT: true; the input reads as it did. -/
def heightTellsSpec : ChangeSpec := { name := "heightTells", fn := fun _ => fun
  | [d1, d2] => { results := [.lit (.bool true)], args := [d1, d2] }
  | _ => none }
def heightTellsRow : OpenClaim := { program := "ytcdibfkebojefaa", sum := "94128c7108e1411bd282ea938c76619c5d7954f200ee20f7907cb7779f1481b4", func := "hayloft/hayloftlaw12.HeightTells", spec := "heightTells", unfollowed := true, recurses := true, plainKeys := false, apart := false }
def HeightTellsSaid : Prop := heightTellsRow.holds Try.pinned (OpenSpec.ofChange heightTellsSpec)

/-- ITS FALSE NEIGHBOUR: 'it returns false'. Refute it at one input. -/
def heightTellsWrong : ChangeSpec := { name := "heightTells", fn := fun _ => fun
  | [d1, d2] => { results := [.lit (.bool false)], args := [d1, d2] }
  | _ => none }
def HeightTellsWrongFalsely : Prop := heightTellsRow.holds Try.pinned (OpenSpec.ofChange heightTellsWrong)

/-- 'hayloftlaw12.HeightFalls': WHATEVER THE INPUT: true; the input reads as it did. -/
def heightFallsSpec : ChangeSpec := { name := "heightFalls", fn := fun _ => fun
  | [d1, d2] => { results := [.lit (.bool true)], args := [d1, d2] }
  | _ => none }
def heightFallsRow : OpenClaim := { program := "ytcdibfkebojefaa", sum := "94128c7108e1411bd282ea938c76619c5d7954f200ee20f7907cb7779f1481b4", func := "hayloft/hayloftlaw12.HeightFalls", spec := "heightFalls", unfollowed := true, recurses := true, plainKeys := false, apart := false }
def HeightFallsSaid : Prop := heightFallsRow.holds Try.pinned (OpenSpec.ofChange heightFallsSpec)

/-- ITS FALSE NEIGHBOUR: 'it returns false'. Refute it at one input. -/
def heightFallsWrong : ChangeSpec := { name := "heightFalls", fn := fun _ => fun
  | [d1, d2] => { results := [.lit (.bool false)], args := [d1, d2] }
  | _ => none }
def HeightFallsWrongFalsely : Prop := heightFallsRow.holds Try.pinned (OpenSpec.ofChange heightFallsWrong)

/-- 'hayloftlaw12.HeightBound': WHATEVER THE INPUT: true; the input reads as it did. -/
def heightBoundSpec : ChangeSpec := { name := "heightBound", fn := fun _ => fun
  | [d1, d2, d3] => { results := [.lit (.bool true)], args := [d1, d2, d3] }
  | _ => none }
def heightBoundRow : OpenClaim := { program := "ytcdibfkebojefaa", sum := "94128c7108e1411bd282ea938c76619c5d7954f200ee20f7907cb7779f1481b4", func := "hayloft/hayloftlaw12.HeightBound", spec := "heightBound", unfollowed := true, recurses := true, plainKeys := false, apart := false }
def HeightBoundSaid : Prop := heightBoundRow.holds Try.pinned (OpenSpec.ofChange heightBoundSpec)

/-- ITS FALSE NEIGHBOUR: 'it returns false'. Refute it at one input. -/
def heightBoundWrong : ChangeSpec := { name := "heightBound", fn := fun _ => fun
  | [d1, d2, d3] => { results := [.lit (.bool false)], args := [d1, d2, d3] }
  | _ => none }
def HeightBoundWrongFalsely : Prop := heightBoundRow.holds Try.pinned (OpenSpec.ofChange heightBoundWrong)

/-- 'hayloftlaw14.ListTells': WHATEVER THE INPUT: true; the input reads as it did. -/
def listTellsSpec : ChangeSpec := { name := "listTells", fn := fun _ => fun
  | [d1, d2] => { results := [.lit (.bool true)], args := [d1, d2] }
  | _ => none }
def listTellsRow : OpenClaim := { program := "ytcdibfkebojefaa", sum := "94128c7108e1411bd282ea938c76619c5d7954f200ee20f7907cb7779f1481b4", func := "hayloft/hayloftlaw14.ListTells", spec := "listTells", unfollowed := true, recurses := true, plainKeys := false, apart := false }
def ListTellsSaid : Prop := listTellsRow.holds Try.pinned (OpenSpec.ofChange listTellsSpec)

/-- ITS FALSE NEIGHBOUR: 'it returns false'. Refute it at one input. -/
def listTellsWrong : ChangeSpec := { name := "listTells", fn := fun _ => fun
  | [d1, d2] => { results := [.lit (.bool false)], args := [d1, d2] }
  | _ => none }
def ListTellsWrongFalsely : Prop := listTellsRow.holds Try.pinned (OpenSpec.ofChange listTellsWrong)

/-- 'hayloftlaw14.ListChecks': WHATEVER THE INPUT: true; the input reads as it did. -/
def listChecksSpec : ChangeSpec := { name := "listChecks", fn := fun _ => fun
  | [d1, d2, d3] => { results := [.lit (.bool true)], args := [d1, d2, d3] }
  | _ => none }
def listChecksRow : OpenClaim := { program := "ytcdibfkebojefaa", sum := "94128c7108e1411bd282ea938c76619c5d7954f200ee20f7907cb7779f1481b4", func := "hayloft/hayloftlaw14.ListChecks", spec := "listChecks", unfollowed := true, recurses := true, plainKeys := false, apart := false }
def ListChecksSaid : Prop := listChecksRow.holds Try.pinned (OpenSpec.ofChange listChecksSpec)

/-- ITS FALSE NEIGHBOUR: 'it returns false'. Refute it at one input. -/
def listChecksWrong : ChangeSpec := { name := "listChecks", fn := fun _ => fun
  | [d1, d2, d3] => { results := [.lit (.bool false)], args := [d1, d2, d3] }
  | _ => none }
def ListChecksWrongFalsely : Prop := listChecksRow.holds Try.pinned (OpenSpec.ofChange listChecksWrong)

/-- 'hayloftlaw14.ListEarly': WHATEVER THE INPUT: true; the input reads as it did. -/
def listEarlySpec : ChangeSpec := { name := "listEarly", fn := fun _ => fun
  | [d1, d2] => { results := [.lit (.bool true)], args := [d1, d2] }
  | _ => none }
def listEarlyRow : OpenClaim := { program := "ytcdibfkebojefaa", sum := "94128c7108e1411bd282ea938c76619c5d7954f200ee20f7907cb7779f1481b4", func := "hayloft/hayloftlaw14.ListEarly", spec := "listEarly", unfollowed := true, recurses := true, plainKeys := false, apart := false }
def ListEarlySaid : Prop := listEarlyRow.holds Try.pinned (OpenSpec.ofChange listEarlySpec)

/-- ITS FALSE NEIGHBOUR: 'it returns false'. Refute it at one input. -/
def listEarlyWrong : ChangeSpec := { name := "listEarly", fn := fun _ => fun
  | [d1, d2] => { results := [.lit (.bool false)], args := [d1, d2] }
  | _ => none }
def ListEarlyWrongFalsely : Prop := listEarlyRow.holds Try.pinned (OpenSpec.ofChange listEarlyWrong)

/-- 'hayloftlaw14.ListOwn': WHATEVER THE INPUT: true; the input reads as it did. -/
def listOwnSpec : ChangeSpec := { name := "listOwn", fn := fun _ => fun
  | [d1, d2] => { results := [.lit (.bool true)], args := [d1, d2] }
  | _ => none }
def listOwnRow : OpenClaim := { program := "ytcdibfkebojefaa", sum := "94128c7108e1411bd282ea938c76619c5d7954f200ee20f7907cb7779f1481b4", func := "hayloft/hayloftlaw14.ListOwn", spec := "listOwn", unfollowed := true, recurses := true, plainKeys := false, apart := false }
def ListOwnSaid : Prop := listOwnRow.holds Try.pinned (OpenSpec.ofChange listOwnSpec)

/-- ITS FALSE NEIGHBOUR: 'it returns false'. Refute it at one input. -/
def listOwnWrong : ChangeSpec := { name := "listOwn", fn := fun _ => fun
  | [d1, d2] => { results := [.lit (.bool false)], args := [d1, d2] }
  | _ => none }
def ListOwnWrongFalsely : Prop := listOwnRow.holds Try.pinned (OpenSpec.ofChange listOwnWrong)

/- THE SECOND FORM. 'bulk': how many values and letters a reading holds, each counted each time it is reached (what is shared counts as often as it is met; a slice's spare places count too). A statement '..UptoSaid' is the law's where the arguments, and the package variables that the reading takes, are together of bulk at most 1048576: NARROWER than '..Said'. Prove '..Said' where nothing that the law and all that it calls make is longer than what came in: it says more and counts as full. Else prove '..UptoSaid'. A law counts once. -/
mutual
def uptoBulk {H : Type} : DataW H → Nat
  | .lit (.string bytes) => bytes.length + 1
  | .lit _ => 1
  | .nil => 1
  | .ptr d => uptoBulk d + 1
  | .slice elems spare => uptoBulkAll elems + uptoBulkAll spare + 1
  | .agg parts => uptoBulkAll parts + 1
  | .iface _ d => uptoBulk d + 1
  | .map entries => uptoBulkEntries entries + 1
  | .held _ => 1
def uptoBulkAll {H : Type} : List (DataW H) → Nat
  | [] => 0
  | d :: r => uptoBulk d + uptoBulkAll r
def uptoBulkEntries {H : Type} : List (Lit × DataW H) → Nat
  | [] => 0
  | x :: r => uptoBulkEntry x + uptoBulkEntries r
def uptoBulkEntry {H : Type} : Lit × DataW H → Nat
  | (.string bytes, d) => bytes.length + uptoBulk d + 1
  | (_, d) => uptoBulk d + 1
 end
def uptoSmall : (H : Type) → List (DataW H) → Bool := fun _ ds => decide (uptoBulkAll ds ≤ 1048576)
def OpenSpec.upto (s : _root_.Go.ChangeSpec) : _root_.Go.OpenSpec := { _root_.Go.OpenSpec.ofChange s with cond := some uptoSmall }

/-- 'hayloftlaw23.GhostCounts', WHERE WHAT IT READS IS OF BULK AT MOST 1048576: true; the input reads as it did. -/
def ghostCountsUptoRow : OpenClaim := { program := "ytcdibfkebojefaa", sum := "94128c7108e1411bd282ea938c76619c5d7954f200ee20f7907cb7779f1481b4", func := "hayloft/hayloftlaw23.GhostCounts", spec := "ghostCounts", unfollowed := true, recurses := true, plainKeys := false, apart := false, narrowed := true }
def GhostCountsUptoSaid : Prop := ghostCountsUptoRow.holds Try.pinned (OpenSpec.upto ghostCountsSpec)

/-- 'hayloftlaw15.BoundsTell', WHERE WHAT IT READS IS OF BULK AT MOST 1048576: true; the input reads as it did. -/
def boundsTellUptoRow : OpenClaim := { program := "ytcdibfkebojefaa", sum := "94128c7108e1411bd282ea938c76619c5d7954f200ee20f7907cb7779f1481b4", func := "hayloft/hayloftlaw15.BoundsTell", spec := "boundsTell", unfollowed := true, recurses := true, plainKeys := false, apart := false, narrowed := true }
def BoundsTellUptoSaid : Prop := boundsTellUptoRow.holds Try.pinned (OpenSpec.upto boundsTellSpec)

/-- 'hayloftlaw15.BoundsMore', WHERE WHAT IT READS IS OF BULK AT MOST 1048576: true; the input reads as it did. -/
def boundsMoreUptoRow : OpenClaim := { program := "ytcdibfkebojefaa", sum := "94128c7108e1411bd282ea938c76619c5d7954f200ee20f7907cb7779f1481b4", func := "hayloft/hayloftlaw15.BoundsMore", spec := "boundsMore", unfollowed := true, recurses := true, plainKeys := false, apart := false, narrowed := true }
def BoundsMoreUptoSaid : Prop := boundsMoreUptoRow.holds Try.pinned (OpenSpec.upto boundsMoreSpec)

/-- 'hayloftlaw15.BoundsRing', WHERE WHAT IT READS IS OF BULK AT MOST 1048576: true; the input reads as it did. -/
def boundsRingUptoRow : OpenClaim := { program := "ytcdibfkebojefaa", sum := "94128c7108e1411bd282ea938c76619c5d7954f200ee20f7907cb7779f1481b4", func := "hayloft/hayloftlaw15.BoundsRing", spec := "boundsRing", unfollowed := true, recurses := true, plainKeys := false, apart := false, narrowed := true }
def BoundsRingUptoSaid : Prop := boundsRingUptoRow.holds Try.pinned (OpenSpec.upto boundsRingSpec)

/-- 'hayloftlaw18.DelayEnds', WHERE WHAT IT READS IS OF BULK AT MOST 1048576: true; the input reads as it did. -/
def delayEndsUptoRow : OpenClaim := { program := "ytcdibfkebojefaa", sum := "94128c7108e1411bd282ea938c76619c5d7954f200ee20f7907cb7779f1481b4", func := "hayloft/hayloftlaw18.DelayEnds", spec := "delayEnds", unfollowed := true, recurses := true, plainKeys := false, apart := false, narrowed := true }
def DelayEndsUptoSaid : Prop := delayEndsUptoRow.holds Try.pinned (OpenSpec.upto delayEndsSpec)

/-- 'hayloftlaw12.HeightTells', WHERE WHAT IT READS IS OF BULK AT MOST 1048576: true; the input reads as it did. -/
def heightTellsUptoRow : OpenClaim := { program := "ytcdibfkebojefaa", sum := "94128c7108e1411bd282ea938c76619c5d7954f200ee20f7907cb7779f1481b4", func := "hayloft/hayloftlaw12.HeightTells", spec := "heightTells", unfollowed := true, recurses := true, plainKeys := false, apart := false, narrowed := true }
def HeightTellsUptoSaid : Prop := heightTellsUptoRow.holds Try.pinned (OpenSpec.upto heightTellsSpec)

/-- 'hayloftlaw12.HeightFalls', WHERE WHAT IT READS IS OF BULK AT MOST 1048576: true; the input reads as it did. -/
def heightFallsUptoRow : OpenClaim := { program := "ytcdibfkebojefaa", sum := "94128c7108e1411bd282ea938c76619c5d7954f200ee20f7907cb7779f1481b4", func := "hayloft/hayloftlaw12.HeightFalls", spec := "heightFalls", unfollowed := true, recurses := true, plainKeys := false, apart := false, narrowed := true }
def HeightFallsUptoSaid : Prop := heightFallsUptoRow.holds Try.pinned (OpenSpec.upto heightFallsSpec)

/-- 'hayloftlaw12.HeightBound', WHERE WHAT IT READS IS OF BULK AT MOST 1048576: true; the input reads as it did. -/
def heightBoundUptoRow : OpenClaim := { program := "ytcdibfkebojefaa", sum := "94128c7108e1411bd282ea938c76619c5d7954f200ee20f7907cb7779f1481b4", func := "hayloft/hayloftlaw12.HeightBound", spec := "heightBound", unfollowed := true, recurses := true, plainKeys := false, apart := false, narrowed := true }
def HeightBoundUptoSaid : Prop := heightBoundUptoRow.holds Try.pinned (OpenSpec.upto heightBoundSpec)

/-- 'hayloftlaw14.ListTells', WHERE WHAT IT READS IS OF BULK AT MOST 1048576: true; the input reads as it did. -/
def listTellsUptoRow : OpenClaim := { program := "ytcdibfkebojefaa", sum := "94128c7108e1411bd282ea938c76619c5d7954f200ee20f7907cb7779f1481b4", func := "hayloft/hayloftlaw14.ListTells", spec := "listTells", unfollowed := true, recurses := true, plainKeys := false, apart := false, narrowed := true }
def ListTellsUptoSaid : Prop := listTellsUptoRow.holds Try.pinned (OpenSpec.upto listTellsSpec)

/-- 'hayloftlaw14.ListChecks', WHERE WHAT IT READS IS OF BULK AT MOST 1048576: true; the input reads as it did. -/
def listChecksUptoRow : OpenClaim := { program := "ytcdibfkebojefaa", sum := "94128c7108e1411bd282ea938c76619c5d7954f200ee20f7907cb7779f1481b4", func := "hayloft/hayloftlaw14.ListChecks", spec := "listChecks", unfollowed := true, recurses := true, plainKeys := false, apart := false, narrowed := true }
def ListChecksUptoSaid : Prop := listChecksUptoRow.holds Try.pinned (OpenSpec.upto listChecksSpec)

/-- 'hayloftlaw14.ListEarly', WHERE WHAT IT READS IS OF BULK AT MOST 1048576: true; the input reads as it did. -/
def listEarlyUptoRow : OpenClaim := { program := "ytcdibfkebojefaa", sum := "94128c7108e1411bd282ea938c76619c5d7954f200ee20f7907cb7779f1481b4", func := "hayloft/hayloftlaw14.ListEarly", spec := "listEarly", unfollowed := true, recurses := true, plainKeys := false, apart := false, narrowed := true }
def ListEarlyUptoSaid : Prop := listEarlyUptoRow.holds Try.pinned (OpenSpec.upto listEarlySpec)

/-- 'hayloftlaw14.ListOwn', WHERE WHAT IT READS IS OF BULK AT MOST 1048576: true; the input reads as it did. -/
def listOwnUptoRow : OpenClaim := { program := "ytcdibfkebojefaa", sum := "94128c7108e1411bd282ea938c76619c5d7954f200ee20f7907cb7779f1481b4", func := "hayloft/hayloftlaw14.ListOwn", spec := "listOwn", unfollowed := true, recurses := true, plainKeys := false, apart := false, narrowed := true }
def ListOwnUptoSaid : Prop := listOwnUptoRow.holds Try.pinned (OpenSpec.upto listOwnSpec)

end Rows
end Go.Proofs.Ytcdibfkebojefaa
