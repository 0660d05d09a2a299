/-
  No cell of these rows narrows 'for every input' (looked for: loops, veiled, ifaces, maps, wideKeys, modest, calm, conditions, laid).
  DERIVED. THE GIVEN ROWS OF THIS SEAT. 3 by the template 'for every input the law returns true; each argument reads behind the call as it read before'; 0 by the template 'total and deterministic' (their statements: YtfmfgckfeojfcaaTotals.lean).
  GIVEN WITH THE SEED: the statements are not yours to turn. If you find one false, say at which input.
  Laid BY PROGRAM, IN A SANDBOX (cutbox-rows.mjs): the forced cells as the released guide's own fill.sh prints them over the translation 4fd0878c7f23e7e7… (all of the seat's roots in one cut). By AI agents, Wed Nov 11 2026. No macro, syntax, notation, axiom, sorry.
-/
import Derived.Test.YtfmfgckfeojfcaaChecked
import GoSem.Claim
import GoSem.ClaimJoined
import GoSem.ClaimMapViews
import Derived.JoinedTies
import Derived.KernelRfl
namespace Go.Proofs.Ytfmfgckfeojfcaa
/- THE CELL 'sum', in the pinned program and in every row, IS THE sha256 OF THE DUMP (.gsa) THAT YtfmfgckfeojfcaaProg.lean LOADS. Nothing in Lean hashes anything: it is a label: what it is worth is what the hold of that sum in a sandbox is worth. -/
noncomputable def Try.pinned : Pinned := { name := "ytfmfgckfeojfcaa", sum := "4fd0878c7f23e7e74efb139cc9991812a403a780ce1fbb45f771024b08fa1ba1", checked := Try.checked }
namespace Rows
def none {H : Type} : Left H := { results := [], args := [] }

/-- 'silversidelaw05.PactSettles': WHATEVER THE INPUT: true; the input reads as it did. -/
def pactSettlesSpec : ChangeSpec := { name := "pactSettles", fn := fun _ => fun
  | [d1, d2, d3] => { results := [.lit (.bool true)], args := [d1, d2, d3] }
  | _ => none }
def pactSettlesRow : OpenClaim := { program := "ytfmfgckfeojfcaa", sum := "4fd0878c7f23e7e74efb139cc9991812a403a780ce1fbb45f771024b08fa1ba1", func := "silverside/silversidelaw05.PactSettles", spec := "pactSettles", unfollowed := true, recurses := true, apart := false }
def PactSettlesSaid : Prop := pactSettlesRow.holds Try.pinned (OpenSpec.ofChange pactSettlesSpec)

/-- ITS FALSE NEIGHBOUR: 'it returns false'. Refute it at one input. -/
def pactSettlesWrong : ChangeSpec := { name := "pactSettles", fn := fun _ => fun
  | [d1, d2, d3] => { results := [.lit (.bool false)], args := [d1, d2, d3] }
  | _ => none }
def PactSettlesWrongFalsely : Prop := pactSettlesRow.holds Try.pinned (OpenSpec.ofChange pactSettlesWrong)

/-- 'silversidelaw05.PactStocks': WHATEVER THE INPUT: true; the input reads as it did. -/
def pactStocksSpec : ChangeSpec := { name := "pactStocks", fn := fun _ => fun
  | [d1, d2, d3] => { results := [.lit (.bool true)], args := [d1, d2, d3] }
  | _ => none }
def pactStocksRow : OpenClaim := { program := "ytfmfgckfeojfcaa", sum := "4fd0878c7f23e7e74efb139cc9991812a403a780ce1fbb45f771024b08fa1ba1", func := "silverside/silversidelaw05.PactStocks", spec := "pactStocks", unfollowed := true, recurses := true, apart := false }
def PactStocksSaid : Prop := pactStocksRow.holds Try.pinned (OpenSpec.ofChange pactStocksSpec)

/-- ITS FALSE NEIGHBOUR: 'it returns false'. Refute it at one input. -/
def pactStocksWrong : ChangeSpec := { name := "pactStocks", fn := fun _ => fun
  | [d1, d2, d3] => { results := [.lit (.bool false)], args := [d1, d2, d3] }
  | _ => none }
def PactStocksWrongFalsely : Prop := pactStocksRow.holds Try.pinned (OpenSpec.ofChange pactStocksWrong)

/-- 'silversidelaw05.PactVoid': WHATEVER THE INPUT: true; the input reads as it did. -/
def pactVoidSpec : ChangeSpec := { name := "pactVoid", fn := fun _ => fun
  | [d] => { results := [.lit (.bool true)], args := [d] }
  | _ => none }
def pactVoidRow : OpenClaim := { program := "ytfmfgckfeojfcaa", sum := "4fd0878c7f23e7e74efb139cc9991812a403a780ce1fbb45f771024b08fa1ba1", func := "silverside/silversidelaw05.PactVoid", spec := "pactVoid", inPlace := ["maps.clone"], unfollowed := true, recurses := true, apart := false }
def PactVoidSaid : Prop := pactVoidRow.holds Try.pinned (OpenSpec.ofChange pactVoidSpec)

/-- ITS FALSE NEIGHBOUR: 'it returns false'. Refute it at one input. -/
def pactVoidWrong : ChangeSpec := { name := "pactVoid", fn := fun _ => fun
  | [d] => { results := [.lit (.bool false)], args := [d] }
  | _ => none }
def PactVoidWrongFalsely : Prop := pactVoidRow.holds Try.pinned (OpenSpec.ofChange pactVoidWrong)

/- THE SECOND FORM. 'bulk': how many values and letters a reading holds, each counted each time it is reached (what is shared counts as often as it is met; a slice's spare places count too). A statement '..UptoSaid' is the law's where the arguments, and the package variables that the reading takes, are together of bulk at most 1048576: NARROWER than '..Said'. Prove '..Said' where nothing that the law and all that it calls make is longer than what came in: it says more and counts as full. Else prove '..UptoSaid'. A law counts once. -/
mutual
def uptoBulk {H : Type} : DataW H → Nat
  | .lit (.string bytes) => bytes.length + 1
  | .lit _ => 1
  | .nil => 1
  | .ptr d => uptoBulk d + 1
  | .slice elems spare => uptoBulkAll elems + uptoBulkAll spare + 1
  | .agg parts => uptoBulkAll parts + 1
  | .iface _ d => uptoBulk d + 1
  | .map entries => uptoBulkEntries entries + 1
  | .held _ => 1
def uptoBulkAll {H : Type} : List (DataW H) → Nat
  | [] => 0
  | d :: r => uptoBulk d + uptoBulkAll r
def uptoBulkEntries {H : Type} : List (Lit × DataW H) → Nat
  | [] => 0
  | x :: r => uptoBulkEntry x + uptoBulkEntries r
def uptoBulkEntry {H : Type} : Lit × DataW H → Nat
  | (.string bytes, d) => bytes.length + uptoBulk d + 1
  | (_, d) => uptoBulk d + 1
 end
def uptoSmall : (H : Type) → List (DataW H) → Bool := fun _ ds => decide (uptoBulkAll ds ≤ 1048576)
def OpenSpec.upto (s : _root_.Go.ChangeSpec) : _root_.Go.OpenSpec := { _root_.Go.OpenSpec.ofChange s with cond := some uptoSmall }

/-- 'silversidelaw05.PactSettles', WHERE WHAT IT READS IS OF BULK AT MOST 1048576: true; the input reads as it did. -/
def pactSettlesUptoRow : OpenClaim := { program := "ytfmfgckfeojfcaa", sum := "4fd0878c7f23e7e74efb139cc9991812a403a780ce1fbb45f771024b08fa1ba1", func := "silverside/silversidelaw05.PactSettles", spec := "pactSettles", unfollowed := true, recurses := true, apart := false, narrowed := true }
def PactSettlesUptoSaid : Prop := pactSettlesUptoRow.holds Try.pinned (OpenSpec.upto pactSettlesSpec)

/-- 'silversidelaw05.PactStocks', WHERE WHAT IT READS IS OF BULK AT MOST 1048576: true; the input reads as it did. -/
def pactStocksUptoRow : OpenClaim := { program := "ytfmfgckfeojfcaa", sum := "4fd0878c7f23e7e74efb139cc9991812a403a780ce1fbb45f771024b08fa1ba1", func := "silverside/silversidelaw05.PactStocks", spec := "pactStocks", unfollowed := true, recurses := true, apart := false, narrowed := true }
def PactStocksUptoSaid : Prop := pactStocksUptoRow.holds Try.pinned (OpenSpec.upto pactStocksSpec)

/-- 'silversidelaw05.PactVoid', WHERE WHAT IT READS IS OF BULK AT MOST 1048576: true; the input reads as it did. -/
def pactVoidUptoRow : OpenClaim := { program := "ytfmfgckfeojfcaa", sum := "4fd0878c7f23e7e74efb139cc9991812a403a780ce1fbb45f771024b08fa1ba1", func := "silverside/silversidelaw05.PactVoid", spec := "pactVoid", inPlace := ["maps.clone"], unfollowed := true, recurses := true, apart := false, narrowed := true }
def PactVoidUptoSaid : Prop := pactVoidUptoRow.holds Try.pinned (OpenSpec.upto pactVoidSpec)

end Rows
end Go.Proofs.Ytfmfgckfeojfcaa
