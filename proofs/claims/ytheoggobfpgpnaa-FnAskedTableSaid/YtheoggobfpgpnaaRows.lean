/-
  No cell of these rows narrows 'for every input' (looked for: loops, veiled, ifaces, maps, wideKeys, modest, calm, conditions, laid).
  DERIVED. THE GIVEN ROWS OF THIS SEAT. 6 by the template 'for every input the law returns true; each argument reads behind the call as it read before'; 0 by the template 'total and deterministic' (their statements: YtheoggobfpgpnaaTotals.lean).
  GIVEN WITH THE SEED: the statements are not yours to turn. If you find one false, say at which input.
  Laid BY PROGRAM, IN A SANDBOX (cutbox-rows.mjs): the forced cells as the released guide's own fill.sh prints them over the translation 243a017ca2449456… (all of the seat's roots in one cut). By AI agents, Wed Nov 11 2026. No macro, syntax, notation, axiom, sorry.
-/
import Derived.Test.YtheoggobfpgpnaaChecked
import GoSem.Claim
import GoSem.ClaimJoined
import GoSem.ClaimMapViews
import Derived.JoinedTies
import Derived.KernelRfl
namespace Go.Proofs.Ytheoggobfpgpnaa
/- THE CELL 'sum', in the pinned program and in every row, IS THE sha256 OF THE DUMP (.gsa) THAT YtheoggobfpgpnaaProg.lean LOADS. Nothing in Lean hashes anything: it is a label: what it is worth is what the hold of that sum in a sandbox is worth. -/
noncomputable def Try.pinned : Pinned := { name := "ytheoggobfpgpnaa", sum := "243a017ca2449456c5724dff57fd0bbafe48f45f0706464d41291b7d1b7a2b29", checked := Try.checked }
namespace Rows
def none {H : Type} : Left H := { results := [], args := [] }

/-- 'laws.FnPlaceOk': WHATEVER THE INPUT: true; the input reads as it did. -/
def fnPlaceOkSpec : ChangeSpec := { name := "fnPlaceOk", fn := fun _ => fun
  | [d] => { results := [.lit (.bool true)], args := [d] }
  | _ => none }
def fnPlaceOkRow : OpenClaim := { program := "ytheoggobfpgpnaa", sum := "243a017ca2449456c5724dff57fd0bbafe48f45f0706464d41291b7d1b7a2b29", func := "loop.example/tellersandliars/laws.FnPlaceOk", spec := "fnPlaceOk", apart := false }
def FnPlaceOkSaid : Prop := fnPlaceOkRow.holds Try.pinned (OpenSpec.ofChange fnPlaceOkSpec)

/-- ITS FALSE NEIGHBOUR: 'it returns false'. Refute it at one input. -/
def fnPlaceOkWrong : ChangeSpec := { name := "fnPlaceOk", fn := fun _ => fun
  | [d] => { results := [.lit (.bool false)], args := [d] }
  | _ => none }
def FnPlaceOkWrongFalsely : Prop := fnPlaceOkRow.holds Try.pinned (OpenSpec.ofChange fnPlaceOkWrong)

/-- 'laws.FnExactPlaceOk': WHATEVER THE INPUT: true; the input reads as it did. -/
def fnExactPlaceOkSpec : ChangeSpec := { name := "fnExactPlaceOk", fn := fun _ => fun
  | [d] => { results := [.lit (.bool true)], args := [d] }
  | _ => none }
def fnExactPlaceOkRow : OpenClaim := { program := "ytheoggobfpgpnaa", sum := "243a017ca2449456c5724dff57fd0bbafe48f45f0706464d41291b7d1b7a2b29", func := "loop.example/tellersandliars/laws.FnExactPlaceOk", spec := "fnExactPlaceOk", apart := false }
def FnExactPlaceOkSaid : Prop := fnExactPlaceOkRow.holds Try.pinned (OpenSpec.ofChange fnExactPlaceOkSpec)

/-- ITS FALSE NEIGHBOUR: 'it returns false'. Refute it at one input. -/
def fnExactPlaceOkWrong : ChangeSpec := { name := "fnExactPlaceOk", fn := fun _ => fun
  | [d] => { results := [.lit (.bool false)], args := [d] }
  | _ => none }
def FnExactPlaceOkWrongFalsely : Prop := fnExactPlaceOkRow.holds Try.pinned (OpenSpec.ofChange fnExactPlaceOkWrong)

/-- 'laws.FnExactClaimText': WHATEVER THE INPUT: true; the input reads as it did. -/
def fnExactClaimTextSpec : ChangeSpec := { name := "fnExactClaimText", fn := fun _ => fun
  | [d1, d2] => { results := [.lit (.bool true)], args := [d1, d2] }
  | _ => none }
def fnExactClaimTextRow : OpenClaim := { program := "ytheoggobfpgpnaa", sum := "243a017ca2449456c5724dff57fd0bbafe48f45f0706464d41291b7d1b7a2b29", func := "loop.example/tellersandliars/laws.FnExactClaimText", spec := "fnExactClaimText", recurses := true, apart := false }
def FnExactClaimTextSaid : Prop := fnExactClaimTextRow.holds Try.pinned (OpenSpec.ofChange fnExactClaimTextSpec)

/-- ITS FALSE NEIGHBOUR: 'it returns false'. Refute it at one input. -/
def fnExactClaimTextWrong : ChangeSpec := { name := "fnExactClaimText", fn := fun _ => fun
  | [d1, d2] => { results := [.lit (.bool false)], args := [d1, d2] }
  | _ => none }
def FnExactClaimTextWrongFalsely : Prop := fnExactClaimTextRow.holds Try.pinned (OpenSpec.ofChange fnExactClaimTextWrong)

/-- 'laws.FnAskedTable': WHATEVER THE INPUT: true; the input reads as it did. -/
def fnAskedTableSpec : ChangeSpec := { name := "fnAskedTable", fn := fun _ => fun
  | [d] => { results := [.lit (.bool true)], args := [d] }
  | _ => none }
def fnAskedTableRow : OpenClaim := { program := "ytheoggobfpgpnaa", sum := "243a017ca2449456c5724dff57fd0bbafe48f45f0706464d41291b7d1b7a2b29", func := "loop.example/tellersandliars/laws.FnAskedTable", spec := "fnAskedTable", unfollowed := true, recurses := true, apart := false }
def FnAskedTableSaid : Prop := fnAskedTableRow.holds Try.pinned (OpenSpec.ofChange fnAskedTableSpec)

/-- ITS FALSE NEIGHBOUR: 'it returns false'. Refute it at one input. -/
def fnAskedTableWrong : ChangeSpec := { name := "fnAskedTable", fn := fun _ => fun
  | [d] => { results := [.lit (.bool false)], args := [d] }
  | _ => none }
def FnAskedTableWrongFalsely : Prop := fnAskedTableRow.holds Try.pinned (OpenSpec.ofChange fnAskedTableWrong)

/-- 'laws.FnDeskNew': WHATEVER THE INPUT: true; the input reads as it did. -/
def fnDeskNewSpec : ChangeSpec := { name := "fnDeskNew", fn := fun _ => fun
  | [d] => { results := [.lit (.bool true)], args := [d] }
  | _ => none }
def fnDeskNewRow : OpenClaim := { program := "ytheoggobfpgpnaa", sum := "243a017ca2449456c5724dff57fd0bbafe48f45f0706464d41291b7d1b7a2b29", func := "loop.example/tellersandliars/laws.FnDeskNew", spec := "fnDeskNew", apart := false }
def FnDeskNewSaid : Prop := fnDeskNewRow.holds Try.pinned (OpenSpec.ofChange fnDeskNewSpec)

/-- ITS FALSE NEIGHBOUR: 'it returns false'. Refute it at one input. -/
def fnDeskNewWrong : ChangeSpec := { name := "fnDeskNew", fn := fun _ => fun
  | [d] => { results := [.lit (.bool false)], args := [d] }
  | _ => none }
def FnDeskNewWrongFalsely : Prop := fnDeskNewRow.holds Try.pinned (OpenSpec.ofChange fnDeskNewWrong)

/-- 'laws.FnLeastAsks': WHATEVER THE INPUT: true; the input reads as it did. -/
def fnLeastAsksSpec : ChangeSpec := { name := "fnLeastAsks", fn := fun _ => fun
  | [d] => { results := [.lit (.bool true)], args := [d] }
  | _ => none }
def fnLeastAsksRow : OpenClaim := { program := "ytheoggobfpgpnaa", sum := "243a017ca2449456c5724dff57fd0bbafe48f45f0706464d41291b7d1b7a2b29", func := "loop.example/tellersandliars/laws.FnLeastAsks", spec := "fnLeastAsks", unfollowed := true, recurses := true, apart := false }
def FnLeastAsksSaid : Prop := fnLeastAsksRow.holds Try.pinned (OpenSpec.ofChange fnLeastAsksSpec)

/-- ITS FALSE NEIGHBOUR: 'it returns false'. Refute it at one input. -/
def fnLeastAsksWrong : ChangeSpec := { name := "fnLeastAsks", fn := fun _ => fun
  | [d] => { results := [.lit (.bool false)], args := [d] }
  | _ => none }
def FnLeastAsksWrongFalsely : Prop := fnLeastAsksRow.holds Try.pinned (OpenSpec.ofChange fnLeastAsksWrong)

/- THE SECOND FORM. 'bulk': how many values and letters a reading holds, each counted each time it is reached (what is shared counts as often as it is met; a slice's spare places count too). A statement '..UptoSaid' is the law's where the arguments, and the package variables that the reading takes, are together of bulk at most 1048576: NARROWER than '..Said'. Prove '..Said' where nothing that the law and all that it calls make is longer than what came in: it says more and counts as full. Else prove '..UptoSaid'. A law counts once. -/
mutual
def uptoBulk {H : Type} : DataW H → Nat
  | .lit (.string bytes) => bytes.length + 1
  | .lit _ => 1
  | .nil => 1
  | .ptr d => uptoBulk d + 1
  | .slice elems spare => uptoBulkAll elems + uptoBulkAll spare + 1
  | .agg parts => uptoBulkAll parts + 1
  | .iface _ d => uptoBulk d + 1
  | .map entries => uptoBulkEntries entries + 1
  | .held _ => 1
def uptoBulkAll {H : Type} : List (DataW H) → Nat
  | [] => 0
  | d :: r => uptoBulk d + uptoBulkAll r
def uptoBulkEntries {H : Type} : List (Lit × DataW H) → Nat
  | [] => 0
  | x :: r => uptoBulkEntry x + uptoBulkEntries r
def uptoBulkEntry {H : Type} : Lit × DataW H → Nat
  | (.string bytes, d) => bytes.length + uptoBulk d + 1
  | (_, d) => uptoBulk d + 1
 end
def uptoSmall : (H : Type) → List (DataW H) → Bool := fun _ ds => decide (uptoBulkAll ds ≤ 1048576)
def OpenSpec.upto (s : _root_.Go.ChangeSpec) : _root_.Go.OpenSpec := { _root_.Go.OpenSpec.ofChange s with cond := some uptoSmall }

/-- 'laws.FnPlaceOk', WHERE WHAT IT READS IS OF BULK AT MOST 1048576: true; the input reads as it did. -/
def fnPlaceOkUptoRow : OpenClaim := { program := "ytheoggobfpgpnaa", sum := "243a017ca2449456c5724dff57fd0bbafe48f45f0706464d41291b7d1b7a2b29", func := "loop.example/tellersandliars/laws.FnPlaceOk", spec := "fnPlaceOk", apart := false, narrowed := true }
def FnPlaceOkUptoSaid : Prop := fnPlaceOkUptoRow.holds Try.pinned (OpenSpec.upto fnPlaceOkSpec)

/-- 'laws.FnExactPlaceOk', WHERE WHAT IT READS IS OF BULK AT MOST 1048576: true; the input reads as it did. -/
def fnExactPlaceOkUptoRow : OpenClaim := { program := "ytheoggobfpgpnaa", sum := "243a017ca2449456c5724dff57fd0bbafe48f45f0706464d41291b7d1b7a2b29", func := "loop.example/tellersandliars/laws.FnExactPlaceOk", spec := "fnExactPlaceOk", apart := false, narrowed := true }
def FnExactPlaceOkUptoSaid : Prop := fnExactPlaceOkUptoRow.holds Try.pinned (OpenSpec.upto fnExactPlaceOkSpec)

/-- 'laws.FnExactClaimText', WHERE WHAT IT READS IS OF BULK AT MOST 1048576: true; the input reads as it did. -/
def fnExactClaimTextUptoRow : OpenClaim := { program := "ytheoggobfpgpnaa", sum := "243a017ca2449456c5724dff57fd0bbafe48f45f0706464d41291b7d1b7a2b29", func := "loop.example/tellersandliars/laws.FnExactClaimText", spec := "fnExactClaimText", recurses := true, apart := false, narrowed := true }
def FnExactClaimTextUptoSaid : Prop := fnExactClaimTextUptoRow.holds Try.pinned (OpenSpec.upto fnExactClaimTextSpec)

/-- 'laws.FnAskedTable', WHERE WHAT IT READS IS OF BULK AT MOST 1048576: true; the input reads as it did. -/
def fnAskedTableUptoRow : OpenClaim := { program := "ytheoggobfpgpnaa", sum := "243a017ca2449456c5724dff57fd0bbafe48f45f0706464d41291b7d1b7a2b29", func := "loop.example/tellersandliars/laws.FnAskedTable", spec := "fnAskedTable", unfollowed := true, recurses := true, apart := false, narrowed := true }
def FnAskedTableUptoSaid : Prop := fnAskedTableUptoRow.holds Try.pinned (OpenSpec.upto fnAskedTableSpec)

/-- 'laws.FnDeskNew', WHERE WHAT IT READS IS OF BULK AT MOST 1048576: true; the input reads as it did. -/
def fnDeskNewUptoRow : OpenClaim := { program := "ytheoggobfpgpnaa", sum := "243a017ca2449456c5724dff57fd0bbafe48f45f0706464d41291b7d1b7a2b29", func := "loop.example/tellersandliars/laws.FnDeskNew", spec := "fnDeskNew", apart := false, narrowed := true }
def FnDeskNewUptoSaid : Prop := fnDeskNewUptoRow.holds Try.pinned (OpenSpec.upto fnDeskNewSpec)

/-- 'laws.FnLeastAsks', WHERE WHAT IT READS IS OF BULK AT MOST 1048576: true; the input reads as it did. -/
def fnLeastAsksUptoRow : OpenClaim := { program := "ytheoggobfpgpnaa", sum := "243a017ca2449456c5724dff57fd0bbafe48f45f0706464d41291b7d1b7a2b29", func := "loop.example/tellersandliars/laws.FnLeastAsks", spec := "fnLeastAsks", unfollowed := true, recurses := true, apart := false, narrowed := true }
def FnLeastAsksUptoSaid : Prop := fnLeastAsksUptoRow.holds Try.pinned (OpenSpec.upto fnLeastAsksSpec)

end Rows
end Go.Proofs.Ytheoggobfpgpnaa
