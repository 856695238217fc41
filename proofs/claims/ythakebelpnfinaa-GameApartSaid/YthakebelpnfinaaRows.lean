/-
  No cell of these rows narrows 'for every input' (looked for: loops, veiled, ifaces, maps, wideKeys, modest, calm, conditions, laid).
  DERIVED. THE GIVEN ROWS OF THIS SEAT. 6 by the template 'for every input the law returns true; each argument reads behind the call as it read before'; 0 by the template 'total and deterministic' (their statements: YthakebelpnfinaaTotals.lean).
  GIVEN WITH THE SEED: the statements are not yours to turn. If you find one false, say at which input.
  Laid BY PROGRAM, IN A SANDBOX (cutbox-rows.mjs): the forced cells as the released guide's own fill.sh prints them over the translation 31dfbf740cae28ef… (all of the seat's roots in one cut). By AI agents, Wed Nov 11 2026. No macro, syntax, notation, axiom, sorry.
-/
import Derived.Test.YthakebelpnfinaaChecked
import GoSem.Claim
import GoSem.ClaimJoined
import GoSem.ClaimMapViews
import Derived.JoinedTies
import Derived.KernelRfl
namespace Go.Proofs.Ythakebelpnfinaa
/- THE CELL 'sum', in the pinned program and in every row, IS THE sha256 OF THE DUMP (.gsa) THAT YthakebelpnfinaaProg.lean LOADS. Nothing in Lean hashes anything: it is a label: what it is worth is what the hold of that sum in a sandbox is worth. -/
noncomputable def Try.pinned : Pinned := { name := "ythakebelpnfinaa", sum := "31dfbf740cae28efed697e90afa1ebe413e4638dd074bd32f808177f14b80226", checked := Try.checked }
namespace Rows
def none {H : Type} : Left H := { results := [], args := [] }

/-- 'taquinlaw30.GameTells': WHATEVER THE INPUT: true; the input reads as it did. -/
def gameTellsSpec : ChangeSpec := { name := "gameTells", fn := fun _ => fun
  | [d1, d2, d3] => { results := [.lit (.bool true)], args := [d1, d2, d3] }
  | _ => none }
def gameTellsRow : OpenClaim := { program := "ythakebelpnfinaa", sum := "31dfbf740cae28efed697e90afa1ebe413e4638dd074bd32f808177f14b80226", func := "taquin/taquinlaw30.GameTells", spec := "gameTells", unfollowed := true, recurses := true, apart := false }
def GameTellsSaid : Prop := gameTellsRow.holds Try.pinned (OpenSpec.ofChange gameTellsSpec)

/-- ITS FALSE NEIGHBOUR: 'it returns false'. Refute it at one input. -/
def gameTellsWrong : ChangeSpec := { name := "gameTells", fn := fun _ => fun
  | [d1, d2, d3] => { results := [.lit (.bool false)], args := [d1, d2, d3] }
  | _ => none }
def GameTellsWrongFalsely : Prop := gameTellsRow.holds Try.pinned (OpenSpec.ofChange gameTellsWrong)

/-- 'taquinlaw30.GameRanks': WHATEVER THE INPUT: true; the input reads as it did. -/
def gameRanksSpec : ChangeSpec := { name := "gameRanks", fn := fun _ => fun
  | [d] => { results := [.lit (.bool true)], args := [d] }
  | _ => none }
def gameRanksRow : OpenClaim := { program := "ythakebelpnfinaa", sum := "31dfbf740cae28efed697e90afa1ebe413e4638dd074bd32f808177f14b80226", func := "taquin/taquinlaw30.GameRanks", spec := "gameRanks", unfollowed := true, recurses := true, apart := false }
def GameRanksSaid : Prop := gameRanksRow.holds Try.pinned (OpenSpec.ofChange gameRanksSpec)

/-- ITS FALSE NEIGHBOUR: 'it returns false'. Refute it at one input. -/
def gameRanksWrong : ChangeSpec := { name := "gameRanks", fn := fun _ => fun
  | [d] => { results := [.lit (.bool false)], args := [d] }
  | _ => none }
def GameRanksWrongFalsely : Prop := gameRanksRow.holds Try.pinned (OpenSpec.ofChange gameRanksWrong)

/-- 'taquinlaw30.GameForces': WHATEVER THE INPUT: true; the input reads as it did. -/
def gameForcesSpec : ChangeSpec := { name := "gameForces", fn := fun _ => fun
  | [d1, d2, d3, d4] => { results := [.lit (.bool true)], args := [d1, d2, d3, d4] }
  | _ => none }
def gameForcesRow : OpenClaim := { program := "ythakebelpnfinaa", sum := "31dfbf740cae28efed697e90afa1ebe413e4638dd074bd32f808177f14b80226", func := "taquin/taquinlaw30.GameForces", spec := "gameForces", unfollowed := true, recurses := true, apart := false }
def GameForcesSaid : Prop := gameForcesRow.holds Try.pinned (OpenSpec.ofChange gameForcesSpec)

/-- ITS FALSE NEIGHBOUR: 'it returns false'. Refute it at one input. -/
def gameForcesWrong : ChangeSpec := { name := "gameForces", fn := fun _ => fun
  | [d1, d2, d3, d4] => { results := [.lit (.bool false)], args := [d1, d2, d3, d4] }
  | _ => none }
def GameForcesWrongFalsely : Prop := gameForcesRow.holds Try.pinned (OpenSpec.ofChange gameForcesWrong)

/-- 'taquinlaw30.GameAvoids': WHATEVER THE INPUT: true; the input reads as it did. -/
def gameAvoidsSpec : ChangeSpec := { name := "gameAvoids", fn := fun _ => fun
  | [d1, d2, d3] => { results := [.lit (.bool true)], args := [d1, d2, d3] }
  | _ => none }
def gameAvoidsRow : OpenClaim := { program := "ythakebelpnfinaa", sum := "31dfbf740cae28efed697e90afa1ebe413e4638dd074bd32f808177f14b80226", func := "taquin/taquinlaw30.GameAvoids", spec := "gameAvoids", unfollowed := true, recurses := true, apart := false }
def GameAvoidsSaid : Prop := gameAvoidsRow.holds Try.pinned (OpenSpec.ofChange gameAvoidsSpec)

/-- ITS FALSE NEIGHBOUR: 'it returns false'. Refute it at one input. -/
def gameAvoidsWrong : ChangeSpec := { name := "gameAvoids", fn := fun _ => fun
  | [d1, d2, d3] => { results := [.lit (.bool false)], args := [d1, d2, d3] }
  | _ => none }
def GameAvoidsWrongFalsely : Prop := gameAvoidsRow.holds Try.pinned (OpenSpec.ofChange gameAvoidsWrong)

/-- 'taquinlaw30.GameMore': WHATEVER THE INPUT: true; the input reads as it did. -/
def gameMoreSpec : ChangeSpec := { name := "gameMore", fn := fun _ => fun
  | [d1, d2, d3] => { results := [.lit (.bool true)], args := [d1, d2, d3] }
  | _ => none }
def gameMoreRow : OpenClaim := { program := "ythakebelpnfinaa", sum := "31dfbf740cae28efed697e90afa1ebe413e4638dd074bd32f808177f14b80226", func := "taquin/taquinlaw30.GameMore", spec := "gameMore", unfollowed := true, recurses := true, apart := false }
def GameMoreSaid : Prop := gameMoreRow.holds Try.pinned (OpenSpec.ofChange gameMoreSpec)

/-- ITS FALSE NEIGHBOUR: 'it returns false'. Refute it at one input. -/
def gameMoreWrong : ChangeSpec := { name := "gameMore", fn := fun _ => fun
  | [d1, d2, d3] => { results := [.lit (.bool false)], args := [d1, d2, d3] }
  | _ => none }
def GameMoreWrongFalsely : Prop := gameMoreRow.holds Try.pinned (OpenSpec.ofChange gameMoreWrong)

/-- 'taquinlaw30.GameApart': WHATEVER THE INPUT: true; the input reads as it did. -/
def gameApartSpec : ChangeSpec := { name := "gameApart", fn := fun _ => fun
  | [d1, d2] => { results := [.lit (.bool true)], args := [d1, d2] }
  | _ => none }
def gameApartRow : OpenClaim := { program := "ythakebelpnfinaa", sum := "31dfbf740cae28efed697e90afa1ebe413e4638dd074bd32f808177f14b80226", func := "taquin/taquinlaw30.GameApart", spec := "gameApart", unfollowed := true, recurses := true, apart := false }
def GameApartSaid : Prop := gameApartRow.holds Try.pinned (OpenSpec.ofChange gameApartSpec)

/-- ITS FALSE NEIGHBOUR: 'it returns false'. Refute it at one input. -/
def gameApartWrong : ChangeSpec := { name := "gameApart", fn := fun _ => fun
  | [d1, d2] => { results := [.lit (.bool false)], args := [d1, d2] }
  | _ => none }
def GameApartWrongFalsely : Prop := gameApartRow.holds Try.pinned (OpenSpec.ofChange gameApartWrong)

/- THE SECOND FORM. 'bulk': how many values and letters a reading holds, each counted each time it is reached (what is shared counts as often as it is met; a slice's spare places count too). A statement '..UptoSaid' is the law's where the arguments, and the package variables that the reading takes, are together of bulk at most 1048576: NARROWER than '..Said'. Prove '..Said' where nothing that the law and all that it calls make is longer than what came in: it says more and counts as full. Else prove '..UptoSaid'. A law counts once. -/
mutual
def uptoBulk {H : Type} : DataW H → Nat
  | .lit (.string bytes) => bytes.length + 1
  | .lit _ => 1
  | .nil => 1
  | .ptr d => uptoBulk d + 1
  | .slice elems spare => uptoBulkAll elems + uptoBulkAll spare + 1
  | .agg parts => uptoBulkAll parts + 1
  | .iface _ d => uptoBulk d + 1
  | .map entries => uptoBulkEntries entries + 1
  | .held _ => 1
def uptoBulkAll {H : Type} : List (DataW H) → Nat
  | [] => 0
  | d :: r => uptoBulk d + uptoBulkAll r
def uptoBulkEntries {H : Type} : List (Lit × DataW H) → Nat
  | [] => 0
  | x :: r => uptoBulkEntry x + uptoBulkEntries r
def uptoBulkEntry {H : Type} : Lit × DataW H → Nat
  | (.string bytes, d) => bytes.length + uptoBulk d + 1
  | (_, d) => uptoBulk d + 1
 end
def uptoSmall : (H : Type) → List (DataW H) → Bool := fun _ ds => decide (uptoBulkAll ds ≤ 1048576)
def OpenSpec.upto (s : _root_.Go.ChangeSpec) : _root_.Go.OpenSpec := { _root_.Go.OpenSpec.ofChange s with cond := some uptoSmall }

/-- 'taquinlaw30.GameTells', WHERE WHAT IT READS IS OF BULK AT MOST 1048576: true; the input reads as it did. -/
def gameTellsUptoRow : OpenClaim := { program := "ythakebelpnfinaa", sum := "31dfbf740cae28efed697e90afa1ebe413e4638dd074bd32f808177f14b80226", func := "taquin/taquinlaw30.GameTells", spec := "gameTells", unfollowed := true, recurses := true, apart := false, narrowed := true }
def GameTellsUptoSaid : Prop := gameTellsUptoRow.holds Try.pinned (OpenSpec.upto gameTellsSpec)

/-- 'taquinlaw30.GameRanks', WHERE WHAT IT READS IS OF BULK AT MOST 1048576: true; the input reads as it did. -/
def gameRanksUptoRow : OpenClaim := { program := "ythakebelpnfinaa", sum := "31dfbf740cae28efed697e90afa1ebe413e4638dd074bd32f808177f14b80226", func := "taquin/taquinlaw30.GameRanks", spec := "gameRanks", unfollowed := true, recurses := true, apart := false, narrowed := true }
def GameRanksUptoSaid : Prop := gameRanksUptoRow.holds Try.pinned (OpenSpec.upto gameRanksSpec)

/-- 'taquinlaw30.GameForces', WHERE WHAT IT READS IS OF BULK AT MOST 1048576: true; the input reads as it did. -/
def gameForcesUptoRow : OpenClaim := { program := "ythakebelpnfinaa", sum := "31dfbf740cae28efed697e90afa1ebe413e4638dd074bd32f808177f14b80226", func := "taquin/taquinlaw30.GameForces", spec := "gameForces", unfollowed := true, recurses := true, apart := false, narrowed := true }
def GameForcesUptoSaid : Prop := gameForcesUptoRow.holds Try.pinned (OpenSpec.upto gameForcesSpec)

/-- 'taquinlaw30.GameAvoids', WHERE WHAT IT READS IS OF BULK AT MOST 1048576: true; the input reads as it did. -/
def gameAvoidsUptoRow : OpenClaim := { program := "ythakebelpnfinaa", sum := "31dfbf740cae28efed697e90afa1ebe413e4638dd074bd32f808177f14b80226", func := "taquin/taquinlaw30.GameAvoids", spec := "gameAvoids", unfollowed := true, recurses := true, apart := false, narrowed := true }
def GameAvoidsUptoSaid : Prop := gameAvoidsUptoRow.holds Try.pinned (OpenSpec.upto gameAvoidsSpec)

/-- 'taquinlaw30.GameMore', WHERE WHAT IT READS IS OF BULK AT MOST 1048576: true; the input reads as it did. -/
def gameMoreUptoRow : OpenClaim := { program := "ythakebelpnfinaa", sum := "31dfbf740cae28efed697e90afa1ebe413e4638dd074bd32f808177f14b80226", func := "taquin/taquinlaw30.GameMore", spec := "gameMore", unfollowed := true, recurses := true, apart := false, narrowed := true }
def GameMoreUptoSaid : Prop := gameMoreUptoRow.holds Try.pinned (OpenSpec.upto gameMoreSpec)

/-- 'taquinlaw30.GameApart', WHERE WHAT IT READS IS OF BULK AT MOST 1048576: true; the input reads as it did. -/
def gameApartUptoRow : OpenClaim := { program := "ythakebelpnfinaa", sum := "31dfbf740cae28efed697e90afa1ebe413e4638dd074bd32f808177f14b80226", func := "taquin/taquinlaw30.GameApart", spec := "gameApart", unfollowed := true, recurses := true, apart := false, narrowed := true }
def GameApartUptoSaid : Prop := gameApartUptoRow.holds Try.pinned (OpenSpec.upto gameApartSpec)

end Rows
end Go.Proofs.Ythakebelpnfinaa
