/-
  No cell of these rows narrows 'for every input' (looked for: loops, veiled, ifaces, maps, wideKeys, modest, calm, conditions, laid).
  DERIVED. THE GIVEN ROWS OF THIS SEAT. 3 by the template 'for every input the law returns true; each argument reads behind the call as it read before'; 0 by the template 'total and deterministic' (their statements: YtcilabemglbhbaaTotals.lean).
  GIVEN WITH THE SEED: the statements are not yours to turn. If you find one false, say at which input.
  Laid BY PROGRAM, IN A SANDBOX (cutbox-rows.mjs): the forced cells as the released guide's own fill.sh prints them over the translation 1bd153361d5766da… (all of the seat's roots in one cut). By AI agents, Wed Nov 11 2026. No macro, syntax, notation, axiom, sorry.
-/
import Derived.Test.YtcilabemglbhbaaChecked
import GoSem.Claim
import GoSem.ClaimJoined
import GoSem.ClaimMapViews
import Derived.JoinedTies
import Derived.KernelRfl
namespace Go.Proofs.Ytcilabemglbhbaa
/- THE CELL 'sum', in the pinned program and in every row, IS THE sha256 OF THE DUMP (.gsa) THAT YtcilabemglbhbaaProg.lean LOADS. Nothing in Lean hashes anything: it is a label: what it is worth is what the hold of that sum in a sandbox is worth. -/
noncomputable def Try.pinned : Pinned := { name := "ytcilabemglbhbaa", sum := "1bd153361d5766da3ec445f1458172f7c095fadb06249724e742509282744dfb", checked := Try.checked }
namespace Rows
def none {H : Type} : Left H := { results := [], args := [] }

/-- 'purserlaw06.TxForms': WHATEVER THE INPUT: true; the input reads as it did. -/
def txFormsSpec : ChangeSpec := { name := "txForms", fn := fun _ => fun
  | [d1, d2] => { results := [.lit (.bool true)], args := [d1, d2] }
  | _ => none }
def txFormsRow : OpenClaim := { program := "ytcilabemglbhbaa", sum := "1bd153361d5766da3ec445f1458172f7c095fadb06249724e742509282744dfb", func := "purser/purserlaw06.TxForms", spec := "txForms", inPlace := ["internal/bytealg.MakeNoZero"], unfollowed := true, recurses := true, apart := false }
def TxFormsSaid : Prop := txFormsRow.holds Try.pinned (OpenSpec.ofChange txFormsSpec)

/-- ITS FALSE NEIGHBOUR: 'it returns false'. Refute it at one input. -/
def txFormsWrong : ChangeSpec := { name := "txForms", fn := fun _ => fun
  | [d1, d2] => { results := [.lit (.bool false)], args := [d1, d2] }
  | _ => none }
def TxFormsWrongFalsely : Prop := txFormsRow.holds Try.pinned (OpenSpec.ofChange txFormsWrong)

/-- 'purserlaw06.TxApart': WHATEVER THE INPUT: true; the input reads as it did. -/
def txApartSpec : ChangeSpec := { name := "txApart", fn := fun _ => fun
  | [d1, d2, d3] => { results := [.lit (.bool true)], args := [d1, d2, d3] }
  | _ => none }
def txApartRow : OpenClaim := { program := "ytcilabemglbhbaa", sum := "1bd153361d5766da3ec445f1458172f7c095fadb06249724e742509282744dfb", func := "purser/purserlaw06.TxApart", spec := "txApart", inPlace := ["internal/bytealg.MakeNoZero", "internal/abi.NoEscape"], unfollowed := true, recurses := true, apart := false }
def TxApartSaid : Prop := txApartRow.holds Try.pinned (OpenSpec.ofChange txApartSpec)

/-- ITS FALSE NEIGHBOUR: 'it returns false'. Refute it at one input. -/
def txApartWrong : ChangeSpec := { name := "txApart", fn := fun _ => fun
  | [d1, d2, d3] => { results := [.lit (.bool false)], args := [d1, d2, d3] }
  | _ => none }
def TxApartWrongFalsely : Prop := txApartRow.holds Try.pinned (OpenSpec.ofChange txApartWrong)

/-- 'purserlaw06.TxNames': WHATEVER THE INPUT: true; the input reads as it did. -/
def txNamesSpec : ChangeSpec := { name := "txNames", fn := fun _ => fun
  | [] => { results := [.lit (.bool true)], args := [] }
  | _ => none }
def txNamesRow : OpenClaim := { program := "ytcilabemglbhbaa", sum := "1bd153361d5766da3ec445f1458172f7c095fadb06249724e742509282744dfb", func := "purser/purserlaw06.TxNames", spec := "txNames", inPlace := ["internal/bytealg.MakeNoZero", "internal/abi.NoEscape", "internal/bytealg.Compare"], unfollowed := true, recurses := true, apart := false }
def TxNamesSaid : Prop := txNamesRow.holds Try.pinned (OpenSpec.ofChange txNamesSpec)

/-- ITS FALSE NEIGHBOUR: 'it returns false'. Refute it at one input. -/
def txNamesWrong : ChangeSpec := { name := "txNames", fn := fun _ => fun
  | [] => { results := [.lit (.bool false)], args := [] }
  | _ => none }
def TxNamesWrongFalsely : Prop := txNamesRow.holds Try.pinned (OpenSpec.ofChange txNamesWrong)

/- THE SECOND FORM. 'bulk': how many values and letters a reading holds, each counted each time it is reached (what is shared counts as often as it is met; a slice's spare places count too). A statement '..UptoSaid' is the law's where the arguments, and the package variables that the reading takes, are together of bulk at most 1048576: NARROWER than '..Said'. Prove '..Said' where nothing that the law and all that it calls make is longer than what came in: it says more and counts as full. Else prove '..UptoSaid'. A law counts once. -/
mutual
def uptoBulk {H : Type} : DataW H → Nat
  | .lit (.string bytes) => bytes.length + 1
  | .lit _ => 1
  | .nil => 1
  | .ptr d => uptoBulk d + 1
  | .slice elems spare => uptoBulkAll elems + uptoBulkAll spare + 1
  | .agg parts => uptoBulkAll parts + 1
  | .iface _ d => uptoBulk d + 1
  | .map entries => uptoBulkEntries entries + 1
  | .held _ => 1
def uptoBulkAll {H : Type} : List (DataW H) → Nat
  | [] => 0
  | d :: r => uptoBulk d + uptoBulkAll r
def uptoBulkEntries {H : Type} : List (Lit × DataW H) → Nat
  | [] => 0
  | x :: r => uptoBulkEntry x + uptoBulkEntries r
def uptoBulkEntry {H : Type} : Lit × DataW H → Nat
  | (.string bytes, d) => bytes.length + uptoBulk d + 1
  | (_, d) => uptoBulk d + 1
 end
def uptoSmall : (H : Type) → List (DataW H) → Bool := fun _ ds => decide (uptoBulkAll ds ≤ 1048576)
def OpenSpec.upto (s : _root_.Go.ChangeSpec) : _root_.Go.OpenSpec := { _root_.Go.OpenSpec.ofChange s with cond := some uptoSmall }

/-- 'purserlaw06.TxForms', WHERE WHAT IT READS IS OF BULK AT MOST 1048576: true; the input reads as it did. -/
def txFormsUptoRow : OpenClaim := { program := "ytcilabemglbhbaa", sum := "1bd153361d5766da3ec445f1458172f7c095fadb06249724e742509282744dfb", func := "purser/purserlaw06.TxForms", spec := "txForms", inPlace := ["internal/bytealg.MakeNoZero"], unfollowed := true, recurses := true, apart := false, narrowed := true }
def TxFormsUptoSaid : Prop := txFormsUptoRow.holds Try.pinned (OpenSpec.upto txFormsSpec)

/-- 'purserlaw06.TxApart', WHERE WHAT IT READS IS OF BULK AT MOST 1048576: true; the input reads as it did. -/
def txApartUptoRow : OpenClaim := { program := "ytcilabemglbhbaa", sum := "1bd153361d5766da3ec445f1458172f7c095fadb06249724e742509282744dfb", func := "purser/purserlaw06.TxApart", spec := "txApart", inPlace := ["internal/bytealg.MakeNoZero", "internal/abi.NoEscape"], unfollowed := true, recurses := true, apart := false, narrowed := true }
def TxApartUptoSaid : Prop := txApartUptoRow.holds Try.pinned (OpenSpec.upto txApartSpec)

/-- 'purserlaw06.TxNames', WHERE WHAT IT READS IS OF BULK AT MOST 1048576: true; the input reads as it did. -/
def txNamesUptoRow : OpenClaim := { program := "ytcilabemglbhbaa", sum := "1bd153361d5766da3ec445f1458172f7c095fadb06249724e742509282744dfb", func := "purser/purserlaw06.TxNames", spec := "txNames", inPlace := ["internal/bytealg.MakeNoZero", "internal/abi.NoEscape", "internal/bytealg.Compare"], unfollowed := true, recurses := true, apart := false, narrowed := true }
def TxNamesUptoSaid : Prop := txNamesUptoRow.holds Try.pinned (OpenSpec.upto txNamesSpec)

end Rows
end Go.Proofs.Ytcilabemglbhbaa
