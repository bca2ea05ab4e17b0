/-
  No cell of these rows narrows 'for every input' (looked for: loops, veiled, ifaces, maps, wideKeys, modest, calm, conditions, laid).
  DERIVED. THE GIVEN ROWS OF THIS SEAT. 9 by the template 'for every input the law returns true; each argument reads behind the call as it read before'; 0 by the template 'total and deterministic' (their statements: YtdpaimmheoconaaTotals.lean).
  GIVEN WITH THE SEED: the statements are not yours to turn. If you find one false, say at which input.
  Laid BY PROGRAM, IN A SANDBOX (cutbox-rows.mjs): the forced cells as the released guide's own fill.sh prints them over the translation c93006165c8b1f95… (all of the seat's roots in one cut). By AI agents, Wed Nov 11 2026. No macro, syntax, notation, axiom, sorry.
-/
import Derived.Test.YtdpaimmheoconaaChecked
import GoSem.Claim
import GoSem.ClaimJoined
import GoSem.ClaimMapViews
import Derived.JoinedTies
import Derived.KernelRfl
namespace Go.Proofs.Ytdpaimmheoconaa
/- THE CELL 'sum', in the pinned program and in every row, IS THE sha256 OF THE DUMP (.gsa) THAT YtdpaimmheoconaaProg.lean LOADS. Nothing in Lean hashes anything: it is a label: what it is worth is what the hold of that sum in a sandbox is worth. -/
noncomputable def Try.pinned : Pinned := { name := "ytdpaimmheoconaa", sum := "c93006165c8b1f95a1abb3a7c060805877e028d0cd2933da52afd38ac26bfbe6", checked := Try.checked }
namespace Rows
def none {H : Type} : Left H := { results := [], args := [] }

/-- 'hayloftlaw18.DelayOver': WHATEVER THE INPUT: true; the input reads as it did. -/
def delayOverSpec : ChangeSpec := { name := "delayOver", fn := fun _ => fun
  | [d1, d2] => { results := [.lit (.bool true)], args := [d1, d2] }
  | _ => none }
def delayOverRow : OpenClaim := { program := "ytdpaimmheoconaa", sum := "c93006165c8b1f95a1abb3a7c060805877e028d0cd2933da52afd38ac26bfbe6", func := "hayloft/hayloftlaw18.DelayOver", spec := "delayOver", unfollowed := true, recurses := true, plainKeys := false, apart := false }
def DelayOverSaid : Prop := delayOverRow.holds Try.pinned (OpenSpec.ofChange delayOverSpec)

/-- ITS FALSE NEIGHBOUR: 'it returns false'. Refute it at one input. -/
def delayOverWrong : ChangeSpec := { name := "delayOver", fn := fun _ => fun
  | [d1, d2] => { results := [.lit (.bool false)], args := [d1, d2] }
  | _ => none }
def DelayOverWrongFalsely : Prop := delayOverRow.holds Try.pinned (OpenSpec.ofChange delayOverWrong)

/-- 'hayloftlaw07.FlowTells': WHATEVER THE INPUT: true; the input reads as it did. -/
def flowTellsSpec : ChangeSpec := { name := "flowTells", fn := fun _ => fun
  | [d1, d2] => { results := [.lit (.bool true)], args := [d1, d2] }
  | _ => none }
def flowTellsRow : OpenClaim := { program := "ytdpaimmheoconaa", sum := "c93006165c8b1f95a1abb3a7c060805877e028d0cd2933da52afd38ac26bfbe6", func := "hayloft/hayloftlaw07.FlowTells", spec := "flowTells", unfollowed := true, recurses := true, plainKeys := false, apart := false }
def FlowTellsSaid : Prop := flowTellsRow.holds Try.pinned (OpenSpec.ofChange flowTellsSpec)

/-- ITS FALSE NEIGHBOUR: 'it returns false'. Refute it at one input. -/
def flowTellsWrong : ChangeSpec := { name := "flowTells", fn := fun _ => fun
  | [d1, d2] => { results := [.lit (.bool false)], args := [d1, d2] }
  | _ => none }
def FlowTellsWrongFalsely : Prop := flowTellsRow.holds Try.pinned (OpenSpec.ofChange flowTellsWrong)

/-- 'hayloftlaw07.FlowTurns': WHATEVER THE INPUT: true; the input reads as it did. -/
def flowTurnsSpec : ChangeSpec := { name := "flowTurns", fn := fun _ => fun
  | [d] => { results := [.lit (.bool true)], args := [d] }
  | _ => none }
def flowTurnsRow : OpenClaim := { program := "ytdpaimmheoconaa", sum := "c93006165c8b1f95a1abb3a7c060805877e028d0cd2933da52afd38ac26bfbe6", func := "hayloft/hayloftlaw07.FlowTurns", spec := "flowTurns", unfollowed := true, recurses := true, plainKeys := false, apart := false }
def FlowTurnsSaid : Prop := flowTurnsRow.holds Try.pinned (OpenSpec.ofChange flowTurnsSpec)

/-- ITS FALSE NEIGHBOUR: 'it returns false'. Refute it at one input. -/
def flowTurnsWrong : ChangeSpec := { name := "flowTurns", fn := fun _ => fun
  | [d] => { results := [.lit (.bool false)], args := [d] }
  | _ => none }
def FlowTurnsWrongFalsely : Prop := flowTurnsRow.holds Try.pinned (OpenSpec.ofChange flowTurnsWrong)

/-- 'hayloftlaw08.LiveTells': WHATEVER THE INPUT: true; the input reads as it did. -/
def liveTellsSpec : ChangeSpec := { name := "liveTells", fn := fun _ => fun
  | [d1, d2, d3] => { results := [.lit (.bool true)], args := [d1, d2, d3] }
  | _ => none }
def liveTellsRow : OpenClaim := { program := "ytdpaimmheoconaa", sum := "c93006165c8b1f95a1abb3a7c060805877e028d0cd2933da52afd38ac26bfbe6", func := "hayloft/hayloftlaw08.LiveTells", spec := "liveTells", unfollowed := true, recurses := true, plainKeys := false, apart := false }
def LiveTellsSaid : Prop := liveTellsRow.holds Try.pinned (OpenSpec.ofChange liveTellsSpec)

/-- ITS FALSE NEIGHBOUR: 'it returns false'. Refute it at one input. -/
def liveTellsWrong : ChangeSpec := { name := "liveTells", fn := fun _ => fun
  | [d1, d2, d3] => { results := [.lit (.bool false)], args := [d1, d2, d3] }
  | _ => none }
def LiveTellsWrongFalsely : Prop := liveTellsRow.holds Try.pinned (OpenSpec.ofChange liveTellsWrong)

/-- 'hayloftlaw08.LiveMeans': WHATEVER THE INPUT: true; the input reads as it did. -/
def liveMeansSpec : ChangeSpec := { name := "liveMeans", fn := fun _ => fun
  | [d1, d2, d3] => { results := [.lit (.bool true)], args := [d1, d2, d3] }
  | _ => none }
def liveMeansRow : OpenClaim := { program := "ytdpaimmheoconaa", sum := "c93006165c8b1f95a1abb3a7c060805877e028d0cd2933da52afd38ac26bfbe6", func := "hayloft/hayloftlaw08.LiveMeans", spec := "liveMeans", unfollowed := true, recurses := true, plainKeys := false, apart := false }
def LiveMeansSaid : Prop := liveMeansRow.holds Try.pinned (OpenSpec.ofChange liveMeansSpec)

/-- ITS FALSE NEIGHBOUR: 'it returns false'. Refute it at one input. -/
def liveMeansWrong : ChangeSpec := { name := "liveMeans", fn := fun _ => fun
  | [d1, d2, d3] => { results := [.lit (.bool false)], args := [d1, d2, d3] }
  | _ => none }
def LiveMeansWrongFalsely : Prop := liveMeansRow.holds Try.pinned (OpenSpec.ofChange liveMeansWrong)

/-- 'hayloftlaw08.LiveEnds': WHATEVER THE INPUT: true; the input reads as it did. -/
def liveEndsSpec : ChangeSpec := { name := "liveEnds", fn := fun _ => fun
  | [d1, d2] => { results := [.lit (.bool true)], args := [d1, d2] }
  | _ => none }
def liveEndsRow : OpenClaim := { program := "ytdpaimmheoconaa", sum := "c93006165c8b1f95a1abb3a7c060805877e028d0cd2933da52afd38ac26bfbe6", func := "hayloft/hayloftlaw08.LiveEnds", spec := "liveEnds", unfollowed := true, recurses := true, plainKeys := false, apart := false }
def LiveEndsSaid : Prop := liveEndsRow.holds Try.pinned (OpenSpec.ofChange liveEndsSpec)

/-- ITS FALSE NEIGHBOUR: 'it returns false'. Refute it at one input. -/
def liveEndsWrong : ChangeSpec := { name := "liveEnds", fn := fun _ => fun
  | [d1, d2] => { results := [.lit (.bool false)], args := [d1, d2] }
  | _ => none }
def LiveEndsWrongFalsely : Prop := liveEndsRow.holds Try.pinned (OpenSpec.ofChange liveEndsWrong)

/-- 'hayloftlaw17.RoundsEach': WHATEVER THE INPUT: true; the input reads as it did. -/
def roundsEachSpec : ChangeSpec := { name := "roundsEach", fn := fun _ => fun
  | [d1, d2] => { results := [.lit (.bool true)], args := [d1, d2] }
  | _ => none }
def roundsEachRow : OpenClaim := { program := "ytdpaimmheoconaa", sum := "c93006165c8b1f95a1abb3a7c060805877e028d0cd2933da52afd38ac26bfbe6", func := "hayloft/hayloftlaw17.RoundsEach", spec := "roundsEach", unfollowed := true, recurses := true, plainKeys := false, apart := false }
def RoundsEachSaid : Prop := roundsEachRow.holds Try.pinned (OpenSpec.ofChange roundsEachSpec)

/-- ITS FALSE NEIGHBOUR: 'it returns false'. Refute it at one input. -/
def roundsEachWrong : ChangeSpec := { name := "roundsEach", fn := fun _ => fun
  | [d1, d2] => { results := [.lit (.bool false)], args := [d1, d2] }
  | _ => none }
def RoundsEachWrongFalsely : Prop := roundsEachRow.holds Try.pinned (OpenSpec.ofChange roundsEachWrong)

/-- 'hayloftlaw17.RoundsTell': WHATEVER THE INPUT: true; the input reads as it did. -/
def roundsTellSpec : ChangeSpec := { name := "roundsTell", fn := fun _ => fun
  | [d1, d2] => { results := [.lit (.bool true)], args := [d1, d2] }
  | _ => none }
def roundsTellRow : OpenClaim := { program := "ytdpaimmheoconaa", sum := "c93006165c8b1f95a1abb3a7c060805877e028d0cd2933da52afd38ac26bfbe6", func := "hayloft/hayloftlaw17.RoundsTell", spec := "roundsTell", unfollowed := true, recurses := true, plainKeys := false, apart := false }
def RoundsTellSaid : Prop := roundsTellRow.holds Try.pinned (OpenSpec.ofChange roundsTellSpec)

/-- ITS FALSE NEIGHBOUR: 'it returns false'. Refute it at one input. -/
def roundsTellWrong : ChangeSpec := { name := "roundsTell", fn := fun _ => fun
  | [d1, d2] => { results := [.lit (.bool false)], args := [d1, d2] }
  | _ => none }
def RoundsTellWrongFalsely : Prop := roundsTellRow.holds Try.pinned (OpenSpec.ofChange roundsTellWrong)

/-- 'hayloftlaw17.RoundsParts': WHATEVER THE INPUT: true; the input reads as it did. -/
def roundsPartsSpec : ChangeSpec := { name := "roundsParts", fn := fun _ => fun
  | [d1, d2] => { results := [.lit (.bool true)], args := [d1, d2] }
  | _ => none }
def roundsPartsRow : OpenClaim := { program := "ytdpaimmheoconaa", sum := "c93006165c8b1f95a1abb3a7c060805877e028d0cd2933da52afd38ac26bfbe6", func := "hayloft/hayloftlaw17.RoundsParts", spec := "roundsParts", unfollowed := true, recurses := true, plainKeys := false, apart := false }
def RoundsPartsSaid : Prop := roundsPartsRow.holds Try.pinned (OpenSpec.ofChange roundsPartsSpec)

/-- ITS FALSE NEIGHBOUR: 'it returns false'. Refute it at one input. -/
def roundsPartsWrong : ChangeSpec := { name := "roundsParts", fn := fun _ => fun
  | [d1, d2] => { results := [.lit (.bool false)], args := [d1, d2] }
  | _ => none }
def RoundsPartsWrongFalsely : Prop := roundsPartsRow.holds Try.pinned (OpenSpec.ofChange roundsPartsWrong)

/- THE SECOND FORM. 'bulk': how many values and letters a reading holds, each counted each time it is reached (what is shared counts as often as it is met; a slice's spare places count too). A statement '..UptoSaid' is the law's where the arguments, and the package variables that the reading takes, are together of bulk at most 1048576: NARROWER than '..Said'. Prove '..Said' where nothing that the law and all that it calls make is longer than what came in: it says more and counts as full. Else prove '..UptoSaid'. A law counts once. -/
mutual
def uptoBulk {H : Type} : DataW H → Nat
  | .lit (.string bytes) => bytes.length + 1
  | .lit _ => 1
  | .nil => 1
  | .ptr d => uptoBulk d + 1
  | .slice elems spare => uptoBulkAll elems + uptoBulkAll spare + 1
  | .agg parts => uptoBulkAll parts + 1
  | .iface _ d => uptoBulk d + 1
  | .map entries => uptoBulkEntries entries + 1
  | .held _ => 1
def uptoBulkAll {H : Type} : List (DataW H) → Nat
  | [] => 0
  | d :: r => uptoBulk d + uptoBulkAll r
def uptoBulkEntries {H : Type} : List (Lit × DataW H) → Nat
  | [] => 0
  | x :: r => uptoBulkEntry x + uptoBulkEntries r
def uptoBulkEntry {H : Type} : Lit × DataW H → Nat
  | (.string bytes, d) => bytes.length + uptoBulk d + 1
  | (_, d) => uptoBulk d + 1
 end
def uptoSmall : (H : Type) → List (DataW H) → Bool := fun _ ds => decide (uptoBulkAll ds ≤ 1048576)
def OpenSpec.upto (s : _root_.Go.ChangeSpec) : _root_.Go.OpenSpec := { _root_.Go.OpenSpec.ofChange s with cond := some uptoSmall }

/-- 'hayloftlaw18.DelayOver', WHERE WHAT IT READS IS OF BULK AT MOST 1048576: true; the input reads as it did. -/
def delayOverUptoRow : OpenClaim := { program := "ytdpaimmheoconaa", sum := "c93006165c8b1f95a1abb3a7c060805877e028d0cd2933da52afd38ac26bfbe6", func := "hayloft/hayloftlaw18.DelayOver", spec := "delayOver", unfollowed := true, recurses := true, plainKeys := false, apart := false, narrowed := true }
def DelayOverUptoSaid : Prop := delayOverUptoRow.holds Try.pinned (OpenSpec.upto delayOverSpec)

/-- 'hayloftlaw07.FlowTells', WHERE WHAT IT READS IS OF BULK AT MOST 1048576: true; the input reads as it did. -/
def flowTellsUptoRow : OpenClaim := { program := "ytdpaimmheoconaa", sum := "c93006165c8b1f95a1abb3a7c060805877e028d0cd2933da52afd38ac26bfbe6", func := "hayloft/hayloftlaw07.FlowTells", spec := "flowTells", unfollowed := true, recurses := true, plainKeys := false, apart := false, narrowed := true }
def FlowTellsUptoSaid : Prop := flowTellsUptoRow.holds Try.pinned (OpenSpec.upto flowTellsSpec)

/-- 'hayloftlaw07.FlowTurns', WHERE WHAT IT READS IS OF BULK AT MOST 1048576: true; the input reads as it did. -/
def flowTurnsUptoRow : OpenClaim := { program := "ytdpaimmheoconaa", sum := "c93006165c8b1f95a1abb3a7c060805877e028d0cd2933da52afd38ac26bfbe6", func := "hayloft/hayloftlaw07.FlowTurns", spec := "flowTurns", unfollowed := true, recurses := true, plainKeys := false, apart := false, narrowed := true }
def FlowTurnsUptoSaid : Prop := flowTurnsUptoRow.holds Try.pinned (OpenSpec.upto flowTurnsSpec)

/-- 'hayloftlaw08.LiveTells', WHERE WHAT IT READS IS OF BULK AT MOST 1048576: true; the input reads as it did. -/
def liveTellsUptoRow : OpenClaim := { program := "ytdpaimmheoconaa", sum := "c93006165c8b1f95a1abb3a7c060805877e028d0cd2933da52afd38ac26bfbe6", func := "hayloft/hayloftlaw08.LiveTells", spec := "liveTells", unfollowed := true, recurses := true, plainKeys := false, apart := false, narrowed := true }
def LiveTellsUptoSaid : Prop := liveTellsUptoRow.holds Try.pinned (OpenSpec.upto liveTellsSpec)

/-- 'hayloftlaw08.LiveMeans', WHERE WHAT IT READS IS OF BULK AT MOST 1048576: true; the input reads as it did. -/
def liveMeansUptoRow : OpenClaim := { program := "ytdpaimmheoconaa", sum := "c93006165c8b1f95a1abb3a7c060805877e028d0cd2933da52afd38ac26bfbe6", func := "hayloft/hayloftlaw08.LiveMeans", spec := "liveMeans", unfollowed := true, recurses := true, plainKeys := false, apart := false, narrowed := true }
def LiveMeansUptoSaid : Prop := liveMeansUptoRow.holds Try.pinned (OpenSpec.upto liveMeansSpec)

/-- 'hayloftlaw08.LiveEnds', WHERE WHAT IT READS IS OF BULK AT MOST 1048576: true; the input reads as it did. -/
def liveEndsUptoRow : OpenClaim := { program := "ytdpaimmheoconaa", sum := "c93006165c8b1f95a1abb3a7c060805877e028d0cd2933da52afd38ac26bfbe6", func := "hayloft/hayloftlaw08.LiveEnds", spec := "liveEnds", unfollowed := true, recurses := true, plainKeys := false, apart := false, narrowed := true }
def LiveEndsUptoSaid : Prop := liveEndsUptoRow.holds Try.pinned (OpenSpec.upto liveEndsSpec)

/-- 'hayloftlaw17.RoundsEach', WHERE WHAT IT READS IS OF BULK AT MOST 1048576: true; the input reads as it did. -/
def roundsEachUptoRow : OpenClaim := { program := "ytdpaimmheoconaa", sum := "c93006165c8b1f95a1abb3a7c060805877e028d0cd2933da52afd38ac26bfbe6", func := "hayloft/hayloftlaw17.RoundsEach", spec := "roundsEach", unfollowed := true, recurses := true, plainKeys := false, apart := false, narrowed := true }
def RoundsEachUptoSaid : Prop := roundsEachUptoRow.holds Try.pinned (OpenSpec.upto roundsEachSpec)

/-- 'hayloftlaw17.RoundsTell', WHERE WHAT IT READS IS OF BULK AT MOST 1048576: true; the input reads as it did. -/
def roundsTellUptoRow : OpenClaim := { program := "ytdpaimmheoconaa", sum := "c93006165c8b1f95a1abb3a7c060805877e028d0cd2933da52afd38ac26bfbe6", func := "hayloft/hayloftlaw17.RoundsTell", spec := "roundsTell", unfollowed := true, recurses := true, plainKeys := false, apart := false, narrowed := true }
def RoundsTellUptoSaid : Prop := roundsTellUptoRow.holds Try.pinned (OpenSpec.upto roundsTellSpec)

/-- 'hayloftlaw17.RoundsParts', WHERE WHAT IT READS IS OF BULK AT MOST 1048576: true; the input reads as it did. -/
def roundsPartsUptoRow : OpenClaim := { program := "ytdpaimmheoconaa", sum := "c93006165c8b1f95a1abb3a7c060805877e028d0cd2933da52afd38ac26bfbe6", func := "hayloft/hayloftlaw17.RoundsParts", spec := "roundsParts", unfollowed := true, recurses := true, plainKeys := false, apart := false, narrowed := true }
def RoundsPartsUptoSaid : Prop := roundsPartsUptoRow.holds Try.pinned (OpenSpec.upto roundsPartsSpec)

end Rows
end Go.Proofs.Ytdpaimmheoconaa
