/-
  No cell of these rows narrows 'for every input' (looked for: loops, veiled, ifaces, maps, wideKeys, modest, calm, conditions, laid).
  DERIVED. THE GIVEN ROWS OF THIS SEAT. 6 by the template 'for every input the law returns true; each argument reads behind the call as it read before'; 0 by the template 'total and deterministic' (their statements: YtmknkpcdfkpobaaTotals.lean).
  GIVEN WITH THE SEED: the statements are not yours to turn. If you find one false, say at which input.
  Laid BY PROGRAM, IN A SANDBOX (cutbox-rows.mjs): the forced cells as the released guide's own fill.sh prints them over the translation 35d8715575a04bbe… (all of the seat's roots in one cut). By AI agents, Wed Nov 11 2026. No macro, syntax, notation, axiom, sorry.
-/
import Derived.Test.YtmknkpcdfkpobaaChecked
import GoSem.Claim
import GoSem.ClaimJoined
import GoSem.ClaimMapViews
import Derived.JoinedTies
import Derived.KernelRfl
namespace Go.Proofs.Ytmknkpcdfkpobaa
/- THE CELL 'sum', in the pinned program and in every row, IS THE sha256 OF THE DUMP (.gsa) THAT YtmknkpcdfkpobaaProg.lean LOADS. Nothing in Lean hashes anything: it is a label: what it is worth is what the hold of that sum in a sandbox is worth. -/
noncomputable def Try.pinned : Pinned := { name := "ytmknkpcdfkpobaa", sum := "35d8715575a04bbea95de91296104dd02048e2b9470c98ede34ba5ba301b3f85", checked := Try.checked }
namespace Rows
def none {H : Type} : Left H := { results := [], args := [] }

/-- 'bellwetherlaw04.OracleTells': WHATEVER THE INPUT: true; the input reads as it did. -/
def oracleTellsSpec : ChangeSpec := { name := "oracleTells", fn := fun _ => fun
  | [d1, d2, d3, d4, d5, d6] => { results := [.lit (.bool true)], args := [d1, d2, d3, d4, d5, d6] }
  | _ => none }
def oracleTellsRow : OpenClaim := { program := "ytmknkpcdfkpobaa", sum := "35d8715575a04bbea95de91296104dd02048e2b9470c98ede34ba5ba301b3f85", func := "bellwether/bellwetherlaw04.OracleTells", spec := "oracleTells", inPlace := ["slices.overlaps[int]"], apart := false }
def OracleTellsSaid : Prop := oracleTellsRow.holds Try.pinned (OpenSpec.ofChange oracleTellsSpec)

/-- ITS FALSE NEIGHBOUR: 'it returns false'. Refute it at one input. -/
def oracleTellsWrong : ChangeSpec := { name := "oracleTells", fn := fun _ => fun
  | [d1, d2, d3, d4, d5, d6] => { results := [.lit (.bool false)], args := [d1, d2, d3, d4, d5, d6] }
  | _ => none }
def OracleTellsWrongFalsely : Prop := oracleTellsRow.holds Try.pinned (OpenSpec.ofChange oracleTellsWrong)

/-- 'bellwetherlaw04.OracleOrder': WHATEVER THE INPUT: true; the input reads as it did. -/
def oracleOrderSpec : ChangeSpec := { name := "oracleOrder", fn := fun _ => fun
  | [d1, d2, d3] => { results := [.lit (.bool true)], args := [d1, d2, d3] }
  | _ => none }
def oracleOrderRow : OpenClaim := { program := "ytmknkpcdfkpobaa", sum := "35d8715575a04bbea95de91296104dd02048e2b9470c98ede34ba5ba301b3f85", func := "bellwether/bellwetherlaw04.OracleOrder", spec := "oracleOrder", inPlace := ["slices.overlaps[int]"], apart := false }
def OracleOrderSaid : Prop := oracleOrderRow.holds Try.pinned (OpenSpec.ofChange oracleOrderSpec)

/-- ITS FALSE NEIGHBOUR: 'it returns false'. Refute it at one input. -/
def oracleOrderWrong : ChangeSpec := { name := "oracleOrder", fn := fun _ => fun
  | [d1, d2, d3] => { results := [.lit (.bool false)], args := [d1, d2, d3] }
  | _ => none }
def OracleOrderWrongFalsely : Prop := oracleOrderRow.holds Try.pinned (OpenSpec.ofChange oracleOrderWrong)

/-- 'bellwetherlaw04.OracleTurns': WHATEVER THE INPUT: true; the input reads as it did. -/
def oracleTurnsSpec : ChangeSpec := { name := "oracleTurns", fn := fun _ => fun
  | [d1, d2] => { results := [.lit (.bool true)], args := [d1, d2] }
  | _ => none }
def oracleTurnsRow : OpenClaim := { program := "ytmknkpcdfkpobaa", sum := "35d8715575a04bbea95de91296104dd02048e2b9470c98ede34ba5ba301b3f85", func := "bellwether/bellwetherlaw04.OracleTurns", spec := "oracleTurns", inPlace := ["slices.overlaps[int]"], apart := false }
def OracleTurnsSaid : Prop := oracleTurnsRow.holds Try.pinned (OpenSpec.ofChange oracleTurnsSpec)

/-- ITS FALSE NEIGHBOUR: 'it returns false'. Refute it at one input. -/
def oracleTurnsWrong : ChangeSpec := { name := "oracleTurns", fn := fun _ => fun
  | [d1, d2] => { results := [.lit (.bool false)], args := [d1, d2] }
  | _ => none }
def OracleTurnsWrongFalsely : Prop := oracleTurnsRow.holds Try.pinned (OpenSpec.ofChange oracleTurnsWrong)

/-- 'bellwetherlaw04.OracleParts': WHATEVER THE INPUT: true; the input reads as it did. -/
def oraclePartsSpec : ChangeSpec := { name := "oracleParts", fn := fun _ => fun
  | [d1, d2, d3] => { results := [.lit (.bool true)], args := [d1, d2, d3] }
  | _ => none }
def oraclePartsRow : OpenClaim := { program := "ytmknkpcdfkpobaa", sum := "35d8715575a04bbea95de91296104dd02048e2b9470c98ede34ba5ba301b3f85", func := "bellwether/bellwetherlaw04.OracleParts", spec := "oracleParts", inPlace := ["slices.overlaps[int]"], apart := false }
def OraclePartsSaid : Prop := oraclePartsRow.holds Try.pinned (OpenSpec.ofChange oraclePartsSpec)

/-- ITS FALSE NEIGHBOUR: 'it returns false'. Refute it at one input. -/
def oraclePartsWrong : ChangeSpec := { name := "oracleParts", fn := fun _ => fun
  | [d1, d2, d3] => { results := [.lit (.bool false)], args := [d1, d2, d3] }
  | _ => none }
def OraclePartsWrongFalsely : Prop := oraclePartsRow.holds Try.pinned (OpenSpec.ofChange oraclePartsWrong)

/-- 'bellwetherlaw04.OracleFull': WHATEVER THE INPUT: true; the input reads as it did. -/
def oracleFullSpec : ChangeSpec := { name := "oracleFull", fn := fun _ => fun
  | [d1, d2, d3] => { results := [.lit (.bool true)], args := [d1, d2, d3] }
  | _ => none }
def oracleFullRow : OpenClaim := { program := "ytmknkpcdfkpobaa", sum := "35d8715575a04bbea95de91296104dd02048e2b9470c98ede34ba5ba301b3f85", func := "bellwether/bellwetherlaw04.OracleFull", spec := "oracleFull", inPlace := ["slices.overlaps[int]"], apart := false }
def OracleFullSaid : Prop := oracleFullRow.holds Try.pinned (OpenSpec.ofChange oracleFullSpec)

/-- ITS FALSE NEIGHBOUR: 'it returns false'. Refute it at one input. -/
def oracleFullWrong : ChangeSpec := { name := "oracleFull", fn := fun _ => fun
  | [d1, d2, d3] => { results := [.lit (.bool false)], args := [d1, d2, d3] }
  | _ => none }
def OracleFullWrongFalsely : Prop := oracleFullRow.holds Try.pinned (OpenSpec.ofChange oracleFullWrong)

/-- 'bellwetherlaw04.OracleSize': WHATEVER THE INPUT: true; the input reads as it did. -/
def oracleSizeSpec : ChangeSpec := { name := "oracleSize", fn := fun _ => fun
  | [d1, d2, d3, d4] => { results := [.lit (.bool true)], args := [d1, d2, d3, d4] }
  | _ => none }
def oracleSizeRow : OpenClaim := { program := "ytmknkpcdfkpobaa", sum := "35d8715575a04bbea95de91296104dd02048e2b9470c98ede34ba5ba301b3f85", func := "bellwether/bellwetherlaw04.OracleSize", spec := "oracleSize", inPlace := ["slices.overlaps[int]"], apart := false }
def OracleSizeSaid : Prop := oracleSizeRow.holds Try.pinned (OpenSpec.ofChange oracleSizeSpec)

/-- ITS FALSE NEIGHBOUR: 'it returns false'. Refute it at one input. -/
def oracleSizeWrong : ChangeSpec := { name := "oracleSize", fn := fun _ => fun
  | [d1, d2, d3, d4] => { results := [.lit (.bool false)], args := [d1, d2, d3, d4] }
  | _ => none }
def OracleSizeWrongFalsely : Prop := oracleSizeRow.holds Try.pinned (OpenSpec.ofChange oracleSizeWrong)

/- THE SECOND FORM. 'bulk': how many values and letters a reading holds, each counted each time it is reached (what is shared counts as often as it is met; a slice's spare places count too). A statement '..UptoSaid' is the law's where the arguments, and the package variables that the reading takes, are together of bulk at most 1048576: NARROWER than '..Said'. Prove '..Said' where nothing that the law and all that it calls make is longer than what came in: it says more and counts as full. Else prove '..UptoSaid'. A law counts once. -/
mutual
def uptoBulk {H : Type} : DataW H → Nat
  | .lit (.string bytes) => bytes.length + 1
  | .lit _ => 1
  | .nil => 1
  | .ptr d => uptoBulk d + 1
  | .slice elems spare => uptoBulkAll elems + uptoBulkAll spare + 1
  | .agg parts => uptoBulkAll parts + 1
  | .iface _ d => uptoBulk d + 1
  | .map entries => uptoBulkEntries entries + 1
  | .held _ => 1
def uptoBulkAll {H : Type} : List (DataW H) → Nat
  | [] => 0
  | d :: r => uptoBulk d + uptoBulkAll r
def uptoBulkEntries {H : Type} : List (Lit × DataW H) → Nat
  | [] => 0
  | x :: r => uptoBulkEntry x + uptoBulkEntries r
def uptoBulkEntry {H : Type} : Lit × DataW H → Nat
  | (.string bytes, d) => bytes.length + uptoBulk d + 1
  | (_, d) => uptoBulk d + 1
 end
def uptoSmall : (H : Type) → List (DataW H) → Bool := fun _ ds => decide (uptoBulkAll ds ≤ 1048576)
def OpenSpec.upto (s : _root_.Go.ChangeSpec) : _root_.Go.OpenSpec := { _root_.Go.OpenSpec.ofChange s with cond := some uptoSmall }

/-- 'bellwetherlaw04.OracleTells', WHERE WHAT IT READS IS OF BULK AT MOST 1048576: true; the input reads as it did. -/
def oracleTellsUptoRow : OpenClaim := { program := "ytmknkpcdfkpobaa", sum := "35d8715575a04bbea95de91296104dd02048e2b9470c98ede34ba5ba301b3f85", func := "bellwether/bellwetherlaw04.OracleTells", spec := "oracleTells", inPlace := ["slices.overlaps[int]"], apart := false, narrowed := true }
def OracleTellsUptoSaid : Prop := oracleTellsUptoRow.holds Try.pinned (OpenSpec.upto oracleTellsSpec)

/-- 'bellwetherlaw04.OracleOrder', WHERE WHAT IT READS IS OF BULK AT MOST 1048576: true; the input reads as it did. -/
def oracleOrderUptoRow : OpenClaim := { program := "ytmknkpcdfkpobaa", sum := "35d8715575a04bbea95de91296104dd02048e2b9470c98ede34ba5ba301b3f85", func := "bellwether/bellwetherlaw04.OracleOrder", spec := "oracleOrder", inPlace := ["slices.overlaps[int]"], apart := false, narrowed := true }
def OracleOrderUptoSaid : Prop := oracleOrderUptoRow.holds Try.pinned (OpenSpec.upto oracleOrderSpec)

/-- 'bellwetherlaw04.OracleTurns', WHERE WHAT IT READS IS OF BULK AT MOST 1048576: true; the input reads as it did. -/
def oracleTurnsUptoRow : OpenClaim := { program := "ytmknkpcdfkpobaa", sum := "35d8715575a04bbea95de91296104dd02048e2b9470c98ede34ba5ba301b3f85", func := "bellwether/bellwetherlaw04.OracleTurns", spec := "oracleTurns", inPlace := ["slices.overlaps[int]"], apart := false, narrowed := true }
def OracleTurnsUptoSaid : Prop := oracleTurnsUptoRow.holds Try.pinned (OpenSpec.upto oracleTurnsSpec)

/-- 'bellwetherlaw04.OracleParts', WHERE WHAT IT READS IS OF BULK AT MOST 1048576: true; the input reads as it did. -/
def oraclePartsUptoRow : OpenClaim := { program := "ytmknkpcdfkpobaa", sum := "35d8715575a04bbea95de91296104dd02048e2b9470c98ede34ba5ba301b3f85", func := "bellwether/bellwetherlaw04.OracleParts", spec := "oracleParts", inPlace := ["slices.overlaps[int]"], apart := false, narrowed := true }
def OraclePartsUptoSaid : Prop := oraclePartsUptoRow.holds Try.pinned (OpenSpec.upto oraclePartsSpec)

/-- 'bellwetherlaw04.OracleFull', WHERE WHAT IT READS IS OF BULK AT MOST 1048576: true; the input reads as it did. -/
def oracleFullUptoRow : OpenClaim := { program := "ytmknkpcdfkpobaa", sum := "35d8715575a04bbea95de91296104dd02048e2b9470c98ede34ba5ba301b3f85", func := "bellwether/bellwetherlaw04.OracleFull", spec := "oracleFull", inPlace := ["slices.overlaps[int]"], apart := false, narrowed := true }
def OracleFullUptoSaid : Prop := oracleFullUptoRow.holds Try.pinned (OpenSpec.upto oracleFullSpec)

/-- 'bellwetherlaw04.OracleSize', WHERE WHAT IT READS IS OF BULK AT MOST 1048576: true; the input reads as it did. -/
def oracleSizeUptoRow : OpenClaim := { program := "ytmknkpcdfkpobaa", sum := "35d8715575a04bbea95de91296104dd02048e2b9470c98ede34ba5ba301b3f85", func := "bellwether/bellwetherlaw04.OracleSize", spec := "oracleSize", inPlace := ["slices.overlaps[int]"], apart := false, narrowed := true }
def OracleSizeUptoSaid : Prop := oracleSizeUptoRow.holds Try.pinned (OpenSpec.upto oracleSizeSpec)

end Rows
end Go.Proofs.Ytmknkpcdfkpobaa
