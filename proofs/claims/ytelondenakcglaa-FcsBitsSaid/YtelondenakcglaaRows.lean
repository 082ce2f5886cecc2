/-
  No cell of these rows narrows 'for every input' (looked for: loops, veiled, ifaces, maps, wideKeys, modest, calm, conditions, laid).
  DERIVED. THE GIVEN ROWS OF THIS SEAT. 5 by the template 'for every input the law returns true; each argument reads behind the call as it read before'; 0 by the template 'total and deterministic' (their statements: YtelondenakcglaaTotals.lean).
  GIVEN WITH THE SEED: the statements are not yours to turn. If you find one false, say at which input.
  Laid BY PROGRAM, IN A SANDBOX (cutbox-rows.mjs): the forced cells as the released guide's own fill.sh prints them over the translation c19d6679121efb84… (all of the seat's roots in one cut). By AI agents, Wed Nov 11 2026. No macro, syntax, notation, axiom, sorry.
-/
import Derived.Test.YtelondenakcglaaChecked
import GoSem.Claim
import GoSem.ClaimJoined
import GoSem.ClaimMapViews
import Derived.JoinedTies
import Derived.KernelRfl
namespace Go.Proofs.Ytelondenakcglaa
/- THE CELL 'sum', in the pinned program and in every row, IS THE sha256 OF THE DUMP (.gsa) THAT YtelondenakcglaaProg.lean LOADS. Nothing in Lean hashes anything: it is a label: what it is worth is what the hold of that sum in a sandbox is worth. -/
noncomputable def Try.pinned : Pinned := { name := "ytelondenakcglaa", sum := "c19d6679121efb84a5b54c0c65cb23dc3a43cfb65b3dcfc9a23d009f7a4a9432", checked := Try.checked }
namespace Rows
def none {H : Type} : Left H := { results := [], args := [] }

/-- 'withylaw1.FcsAll': WHATEVER THE INPUT: true; the input reads as it did. -/
def fcsAllSpec : ChangeSpec := { name := "fcsAll", fn := fun _ => fun
  | [d] => { results := [.lit (.bool true)], args := [d] }
  | _ => none }
def fcsAllRow : OpenClaim := { program := "ytelondenakcglaa", sum := "c19d6679121efb84a5b54c0c65cb23dc3a43cfb65b3dcfc9a23d009f7a4a9432", func := "withy/withylaw1.FcsAll", spec := "fcsAll", apart := false }
def FcsAllSaid : Prop := fcsAllRow.holds Try.pinned (OpenSpec.ofChange fcsAllSpec)

/-- ITS FALSE NEIGHBOUR: 'it returns false'. Refute it at one input. -/
def fcsAllWrong : ChangeSpec := { name := "fcsAll", fn := fun _ => fun
  | [d] => { results := [.lit (.bool false)], args := [d] }
  | _ => none }
def FcsAllWrongFalsely : Prop := fcsAllRow.holds Try.pinned (OpenSpec.ofChange fcsAllWrong)

/-- 'withylaw1.FcsBits': WHATEVER THE INPUT: true; the input reads as it did. -/
def fcsBitsSpec : ChangeSpec := { name := "fcsBits", fn := fun _ => fun
  | [d1, d2] => { results := [.lit (.bool true)], args := [d1, d2] }
  | _ => none }
def fcsBitsRow : OpenClaim := { program := "ytelondenakcglaa", sum := "c19d6679121efb84a5b54c0c65cb23dc3a43cfb65b3dcfc9a23d009f7a4a9432", func := "withy/withylaw1.FcsBits", spec := "fcsBits", apart := false }
def FcsBitsSaid : Prop := fcsBitsRow.holds Try.pinned (OpenSpec.ofChange fcsBitsSpec)

/-- ITS FALSE NEIGHBOUR: 'it returns false'. Refute it at one input. -/
def fcsBitsWrong : ChangeSpec := { name := "fcsBits", fn := fun _ => fun
  | [d1, d2] => { results := [.lit (.bool false)], args := [d1, d2] }
  | _ => none }
def FcsBitsWrongFalsely : Prop := fcsBitsRow.holds Try.pinned (OpenSpec.ofChange fcsBitsWrong)

/-- 'withylaw1.FcsSteps': WHATEVER THE INPUT: true; the input reads as it did. -/
def fcsStepsSpec : ChangeSpec := { name := "fcsSteps", fn := fun _ => fun
  | [d1, d2] => { results := [.lit (.bool true)], args := [d1, d2] }
  | _ => none }
def fcsStepsRow : OpenClaim := { program := "ytelondenakcglaa", sum := "c19d6679121efb84a5b54c0c65cb23dc3a43cfb65b3dcfc9a23d009f7a4a9432", func := "withy/withylaw1.FcsSteps", spec := "fcsSteps", apart := false }
def FcsStepsSaid : Prop := fcsStepsRow.holds Try.pinned (OpenSpec.ofChange fcsStepsSpec)

/-- ITS FALSE NEIGHBOUR: 'it returns false'. Refute it at one input. -/
def fcsStepsWrong : ChangeSpec := { name := "fcsSteps", fn := fun _ => fun
  | [d1, d2] => { results := [.lit (.bool false)], args := [d1, d2] }
  | _ => none }
def FcsStepsWrongFalsely : Prop := fcsStepsRow.holds Try.pinned (OpenSpec.ofChange fcsStepsWrong)

/-- 'withylaw1.FcsResidue': WHATEVER THE INPUT: true; the input reads as it did. -/
def fcsResidueSpec : ChangeSpec := { name := "fcsResidue", fn := fun _ => fun
  | [d1, d2] => { results := [.lit (.bool true)], args := [d1, d2] }
  | _ => none }
def fcsResidueRow : OpenClaim := { program := "ytelondenakcglaa", sum := "c19d6679121efb84a5b54c0c65cb23dc3a43cfb65b3dcfc9a23d009f7a4a9432", func := "withy/withylaw1.FcsResidue", spec := "fcsResidue", apart := false }
def FcsResidueSaid : Prop := fcsResidueRow.holds Try.pinned (OpenSpec.ofChange fcsResidueSpec)

/-- ITS FALSE NEIGHBOUR: 'it returns false'. Refute it at one input. -/
def fcsResidueWrong : ChangeSpec := { name := "fcsResidue", fn := fun _ => fun
  | [d1, d2] => { results := [.lit (.bool false)], args := [d1, d2] }
  | _ => none }
def FcsResidueWrongFalsely : Prop := fcsResidueRow.holds Try.pinned (OpenSpec.ofChange fcsResidueWrong)

/-- 'withylaw1.FcsShorts': WHATEVER THE INPUT: true; the input reads as it did. -/
def fcsShortsSpec : ChangeSpec := { name := "fcsShorts", fn := fun _ => fun
  | [d1, d2] => { results := [.lit (.bool true)], args := [d1, d2] }
  | _ => none }
def fcsShortsRow : OpenClaim := { program := "ytelondenakcglaa", sum := "c19d6679121efb84a5b54c0c65cb23dc3a43cfb65b3dcfc9a23d009f7a4a9432", func := "withy/withylaw1.FcsShorts", spec := "fcsShorts", apart := false }
def FcsShortsSaid : Prop := fcsShortsRow.holds Try.pinned (OpenSpec.ofChange fcsShortsSpec)

/-- ITS FALSE NEIGHBOUR: 'it returns false'. Refute it at one input. -/
def fcsShortsWrong : ChangeSpec := { name := "fcsShorts", fn := fun _ => fun
  | [d1, d2] => { results := [.lit (.bool false)], args := [d1, d2] }
  | _ => none }
def FcsShortsWrongFalsely : Prop := fcsShortsRow.holds Try.pinned (OpenSpec.ofChange fcsShortsWrong)

/- THE SECOND FORM. 'bulk': how many values and letters a reading holds, each counted each time it is reached (what is shared counts as often as it is met; a slice's spare places count too). A statement '..UptoSaid' is the law's where the arguments, and the package variables that the reading takes, are together of bulk at most 1048576: NARROWER than '..Said'. Prove '..Said' where nothing that the law and all that it calls make is longer than what came in: it says more and counts as full. Else prove '..UptoSaid'. A law counts once. -/
mutual
def uptoBulk {H : Type} : DataW H → Nat
  | .lit (.string bytes) => bytes.length + 1
  | .lit _ => 1
  | .nil => 1
  | .ptr d => uptoBulk d + 1
  | .slice elems spare => uptoBulkAll elems + uptoBulkAll spare + 1
  | .agg parts => uptoBulkAll parts + 1
  | .iface _ d => uptoBulk d + 1
  | .map entries => uptoBulkEntries entries + 1
  | .held _ => 1
def uptoBulkAll {H : Type} : List (DataW H) → Nat
  | [] => 0
  | d :: r => uptoBulk d + uptoBulkAll r
def uptoBulkEntries {H : Type} : List (Lit × DataW H) → Nat
  | [] => 0
  | x :: r => uptoBulkEntry x + uptoBulkEntries r
def uptoBulkEntry {H : Type} : Lit × DataW H → Nat
  | (.string bytes, d) => bytes.length + uptoBulk d + 1
  | (_, d) => uptoBulk d + 1
 end
def uptoSmall : (H : Type) → List (DataW H) → Bool := fun _ ds => decide (uptoBulkAll ds ≤ 1048576)
def OpenSpec.upto (s : _root_.Go.ChangeSpec) : _root_.Go.OpenSpec := { _root_.Go.OpenSpec.ofChange s with cond := some uptoSmall }

/-- 'withylaw1.FcsAll', WHERE WHAT IT READS IS OF BULK AT MOST 1048576: true; the input reads as it did. -/
def fcsAllUptoRow : OpenClaim := { program := "ytelondenakcglaa", sum := "c19d6679121efb84a5b54c0c65cb23dc3a43cfb65b3dcfc9a23d009f7a4a9432", func := "withy/withylaw1.FcsAll", spec := "fcsAll", apart := false, narrowed := true }
def FcsAllUptoSaid : Prop := fcsAllUptoRow.holds Try.pinned (OpenSpec.upto fcsAllSpec)

/-- 'withylaw1.FcsBits', WHERE WHAT IT READS IS OF BULK AT MOST 1048576: true; the input reads as it did. -/
def fcsBitsUptoRow : OpenClaim := { program := "ytelondenakcglaa", sum := "c19d6679121efb84a5b54c0c65cb23dc3a43cfb65b3dcfc9a23d009f7a4a9432", func := "withy/withylaw1.FcsBits", spec := "fcsBits", apart := false, narrowed := true }
def FcsBitsUptoSaid : Prop := fcsBitsUptoRow.holds Try.pinned (OpenSpec.upto fcsBitsSpec)

/-- 'withylaw1.FcsSteps', WHERE WHAT IT READS IS OF BULK AT MOST 1048576: true; the input reads as it did. -/
def fcsStepsUptoRow : OpenClaim := { program := "ytelondenakcglaa", sum := "c19d6679121efb84a5b54c0c65cb23dc3a43cfb65b3dcfc9a23d009f7a4a9432", func := "withy/withylaw1.FcsSteps", spec := "fcsSteps", apart := false, narrowed := true }
def FcsStepsUptoSaid : Prop := fcsStepsUptoRow.holds Try.pinned (OpenSpec.upto fcsStepsSpec)

/-- 'withylaw1.FcsResidue', WHERE WHAT IT READS IS OF BULK AT MOST 1048576: true; the input reads as it did. -/
def fcsResidueUptoRow : OpenClaim := { program := "ytelondenakcglaa", sum := "c19d6679121efb84a5b54c0c65cb23dc3a43cfb65b3dcfc9a23d009f7a4a9432", func := "withy/withylaw1.FcsResidue", spec := "fcsResidue", apart := false, narrowed := true }
def FcsResidueUptoSaid : Prop := fcsResidueUptoRow.holds Try.pinned (OpenSpec.upto fcsResidueSpec)

/-- 'withylaw1.FcsShorts', WHERE WHAT IT READS IS OF BULK AT MOST 1048576: true; the input reads as it did. -/
def fcsShortsUptoRow : OpenClaim := { program := "ytelondenakcglaa", sum := "c19d6679121efb84a5b54c0c65cb23dc3a43cfb65b3dcfc9a23d009f7a4a9432", func := "withy/withylaw1.FcsShorts", spec := "fcsShorts", apart := false, narrowed := true }
def FcsShortsUptoSaid : Prop := fcsShortsUptoRow.holds Try.pinned (OpenSpec.upto fcsShortsSpec)

end Rows
end Go.Proofs.Ytelondenakcglaa
