/- OracleParts, told of slices that no one will write. -/
import Derived.Test.YtmknkpcdfkpobaaE6
import Derived.Test.YtmknkpcdfkpobaaF6
set_option linter.unusedVariables false
set_option linter.unusedSimpArgs false
namespace Go.Proofs.YtmknkpcdfkpobaaA
open Go.RowKit

theorem partsF (raw : List Int) (ops : List T3) (at' : Int) (H : AH) (hr : ∀ x ∈ raw, I64 x) (hb : raw.length ≤ 9223372036854775807) (hor : ∀ x ∈ ops, x.I64) (hob : ops.length ≤ 9223372036854775807) (hat : I64 at') :
    ACalls Try.prog 6 [FI raw, F3 ops, .int .i64 at'] H (fun v H' => v = .bool true) :=
  ACalls.thaw 1 [] [F3 ops, .int .i64 at'] (by simp) (by decide) fun a cap H1 hE hs _ => ACalls.thaw 3 [.slice a raw.length cap] [.int .i64 at'] (flat_length t3Cells 3 (fun _ => rfl) ops) (by decide) fun b cb H2 hE2 hs2 _ =>
    parts_spec raw ops at' a b cap cb H2 (hs.ext hE2) hr hb hs2 hor hob hat

end Go.Proofs.YtmknkpcdfkpobaaA
