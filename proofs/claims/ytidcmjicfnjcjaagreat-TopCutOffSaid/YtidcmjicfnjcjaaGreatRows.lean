/-
  No cell of these rows narrows 'for every input' (looked for: loops, veiled, ifaces, maps, wideKeys, modest, calm, conditions, laid).
  DERIVED. THE GIVEN ROWS OF THIS SEAT. 10 by the template 'for every input the law returns true; each argument reads behind the call as it read before'; 0 by the template 'total and deterministic' (their statements: YtidcmjicfnjcjaaGreatTotals.lean).
  GIVEN WITH THE SEED: the statements are not yours to turn. If you find one false, say at which input.
  Laid BY PROGRAM, IN A SANDBOX (cutbox-rows.mjs): the forced cells as the released guide's own fill.sh prints them over the translation 724c442b67c29317… (all of the seat's roots in one cut). By AI agents, Wed Nov 11 2026. No macro, syntax, notation, axiom, sorry.
-/
import Derived.Test.YtidcmjicfnjcjaaGreatChecked
import GoSem.Claim
import GoSem.ClaimJoined
import GoSem.ClaimMapViews
import Derived.JoinedTies
import Derived.KernelRfl
namespace Go.Proofs.YtidcmjicfnjcjaaGreat
/- THE CELL 'sum', in the pinned program and in every row, IS THE sha256 OF THE DUMP (.gsa) THAT YtidcmjicfnjcjaaGreatProg.lean LOADS. Nothing in Lean hashes anything: it is a label: what it is worth is what the hold of that sum in a sandbox is worth. -/
noncomputable def Tryz.pinned : Pinned := { name := "ytidcmjicfnjcjaagreat", sum := "724c442b67c2931787ab675be5b04f378de3d21306771201c92cefd843a3480e", checked := Tryz.checked }
namespace Rows
def none {H : Type} : Left H := { results := [], args := [] }

/-- 'shacklelaw06.ProofsNeed': WHATEVER THE INPUT: true; the input reads as it did. -/
def proofsNeedSpec : ChangeSpec := { name := "proofsNeed", fn := fun _ => fun
  | [d1, d2, d3] => { results := [.lit (.bool true)], args := [d1, d2, d3] }
  | _ => none }
def proofsNeedRow : OpenClaim := { program := "ytidcmjicfnjcjaagreat", sum := "724c442b67c2931787ab675be5b04f378de3d21306771201c92cefd843a3480e", func := "shackle/shacklelaw06.ProofsNeed", spec := "proofsNeed", inPlace := ["slices.overlaps[int]"], unfollowed := true, recurses := true, apart := false }
def ProofsNeedSaid : Prop := proofsNeedRow.holds Tryz.pinned (OpenSpec.ofChange proofsNeedSpec)

/-- ITS FALSE NEIGHBOUR: 'it returns false'. Refute it at one input. -/
def proofsNeedWrong : ChangeSpec := { name := "proofsNeed", fn := fun _ => fun
  | [d1, d2, d3] => { results := [.lit (.bool false)], args := [d1, d2, d3] }
  | _ => none }
def ProofsNeedWrongFalsely : Prop := proofsNeedRow.holds Tryz.pinned (OpenSpec.ofChange proofsNeedWrong)

/-- 'shacklelaw06.ProofsMore': WHATEVER THE INPUT: true; the input reads as it did. -/
def proofsMoreSpec : ChangeSpec := { name := "proofsMore", fn := fun _ => fun
  | [d1, d2, d3] => { results := [.lit (.bool true)], args := [d1, d2, d3] }
  | _ => none }
def proofsMoreRow : OpenClaim := { program := "ytidcmjicfnjcjaagreat", sum := "724c442b67c2931787ab675be5b04f378de3d21306771201c92cefd843a3480e", func := "shackle/shacklelaw06.ProofsMore", spec := "proofsMore", inPlace := ["slices.overlaps[int]"], unfollowed := true, recurses := true, apart := false }
def ProofsMoreSaid : Prop := proofsMoreRow.holds Tryz.pinned (OpenSpec.ofChange proofsMoreSpec)

/-- ITS FALSE NEIGHBOUR: 'it returns false'. Refute it at one input. -/
def proofsMoreWrong : ChangeSpec := { name := "proofsMore", fn := fun _ => fun
  | [d1, d2, d3] => { results := [.lit (.bool false)], args := [d1, d2, d3] }
  | _ => none }
def ProofsMoreWrongFalsely : Prop := proofsMoreRow.holds Tryz.pinned (OpenSpec.ofChange proofsMoreWrong)

/-- 'shacklelaw06.ProofsReplaced': WHATEVER THE INPUT: true; the input reads as it did. -/
def proofsReplacedSpec : ChangeSpec := { name := "proofsReplaced", fn := fun _ => fun
  | [d1, d2, d3] => { results := [.lit (.bool true)], args := [d1, d2, d3] }
  | _ => none }
def proofsReplacedRow : OpenClaim := { program := "ytidcmjicfnjcjaagreat", sum := "724c442b67c2931787ab675be5b04f378de3d21306771201c92cefd843a3480e", func := "shackle/shacklelaw06.ProofsReplaced", spec := "proofsReplaced", inPlace := ["slices.overlaps[int]"], unfollowed := true, recurses := true, apart := false }
def ProofsReplacedSaid : Prop := proofsReplacedRow.holds Tryz.pinned (OpenSpec.ofChange proofsReplacedSpec)

/-- ITS FALSE NEIGHBOUR: 'it returns false'. Refute it at one input. -/
def proofsReplacedWrong : ChangeSpec := { name := "proofsReplaced", fn := fun _ => fun
  | [d1, d2, d3] => { results := [.lit (.bool false)], args := [d1, d2, d3] }
  | _ => none }
def ProofsReplacedWrongFalsely : Prop := proofsReplacedRow.holds Tryz.pinned (OpenSpec.ofChange proofsReplacedWrong)

/-- 'shacklelaw06.ProofsRule': WHATEVER THE INPUT: true; the input reads as it did. -/
def proofsRuleSpec : ChangeSpec := { name := "proofsRule", fn := fun _ => fun
  | [d1, d2] => { results := [.lit (.bool true)], args := [d1, d2] }
  | _ => none }
def proofsRuleRow : OpenClaim := { program := "ytidcmjicfnjcjaagreat", sum := "724c442b67c2931787ab675be5b04f378de3d21306771201c92cefd843a3480e", func := "shackle/shacklelaw06.ProofsRule", spec := "proofsRule", inPlace := ["slices.overlaps[int]"], unfollowed := true, recurses := true, apart := false }
def ProofsRuleSaid : Prop := proofsRuleRow.holds Tryz.pinned (OpenSpec.ofChange proofsRuleSpec)

/-- ITS FALSE NEIGHBOUR: 'it returns false'. Refute it at one input. -/
def proofsRuleWrong : ChangeSpec := { name := "proofsRule", fn := fun _ => fun
  | [d1, d2] => { results := [.lit (.bool false)], args := [d1, d2] }
  | _ => none }
def ProofsRuleWrongFalsely : Prop := proofsRuleRow.holds Tryz.pinned (OpenSpec.ofChange proofsRuleWrong)

/-- 'shacklelaw06.ProofsBroke': WHATEVER THE INPUT: true; the input reads as it did. -/
def proofsBrokeSpec : ChangeSpec := { name := "proofsBroke", fn := fun _ => fun
  | [d1, d2] => { results := [.lit (.bool true)], args := [d1, d2] }
  | _ => none }
def proofsBrokeRow : OpenClaim := { program := "ytidcmjicfnjcjaagreat", sum := "724c442b67c2931787ab675be5b04f378de3d21306771201c92cefd843a3480e", func := "shackle/shacklelaw06.ProofsBroke", spec := "proofsBroke", inPlace := ["slices.overlaps[int]"], unfollowed := true, recurses := true, apart := false }
def ProofsBrokeSaid : Prop := proofsBrokeRow.holds Tryz.pinned (OpenSpec.ofChange proofsBrokeSpec)

/-- ITS FALSE NEIGHBOUR: 'it returns false'. Refute it at one input. -/
def proofsBrokeWrong : ChangeSpec := { name := "proofsBroke", fn := fun _ => fun
  | [d1, d2] => { results := [.lit (.bool false)], args := [d1, d2] }
  | _ => none }
def ProofsBrokeWrongFalsely : Prop := proofsBrokeRow.holds Tryz.pinned (OpenSpec.ofChange proofsBrokeWrong)

/-- 'shacklelaw06.ProofsFailures': WHATEVER THE INPUT: true; the input reads as it did. -/
def proofsFailuresSpec : ChangeSpec := { name := "proofsFailures", fn := fun _ => fun
  | [d] => { results := [.lit (.bool true)], args := [d] }
  | _ => none }
def proofsFailuresRow : OpenClaim := { program := "ytidcmjicfnjcjaagreat", sum := "724c442b67c2931787ab675be5b04f378de3d21306771201c92cefd843a3480e", func := "shackle/shacklelaw06.ProofsFailures", spec := "proofsFailures", inPlace := ["slices.overlaps[int]"], unfollowed := true, recurses := true, apart := false }
def ProofsFailuresSaid : Prop := proofsFailuresRow.holds Tryz.pinned (OpenSpec.ofChange proofsFailuresSpec)

/-- ITS FALSE NEIGHBOUR: 'it returns false'. Refute it at one input. -/
def proofsFailuresWrong : ChangeSpec := { name := "proofsFailures", fn := fun _ => fun
  | [d] => { results := [.lit (.bool false)], args := [d] }
  | _ => none }
def ProofsFailuresWrongFalsely : Prop := proofsFailuresRow.holds Tryz.pinned (OpenSpec.ofChange proofsFailuresWrong)

/-- 'shacklelaw06.ProofsGood': WHATEVER THE INPUT: true; the input reads as it did. -/
def proofsGoodSpec : ChangeSpec := { name := "proofsGood", fn := fun _ => fun
  | [d] => { results := [.lit (.bool true)], args := [d] }
  | _ => none }
def proofsGoodRow : OpenClaim := { program := "ytidcmjicfnjcjaagreat", sum := "724c442b67c2931787ab675be5b04f378de3d21306771201c92cefd843a3480e", func := "shackle/shacklelaw06.ProofsGood", spec := "proofsGood", inPlace := ["slices.overlaps[int]"], unfollowed := true, recurses := true, apart := false }
def ProofsGoodSaid : Prop := proofsGoodRow.holds Tryz.pinned (OpenSpec.ofChange proofsGoodSpec)

/-- ITS FALSE NEIGHBOUR: 'it returns false'. Refute it at one input. -/
def proofsGoodWrong : ChangeSpec := { name := "proofsGood", fn := fun _ => fun
  | [d] => { results := [.lit (.bool false)], args := [d] }
  | _ => none }
def ProofsGoodWrongFalsely : Prop := proofsGoodRow.holds Tryz.pinned (OpenSpec.ofChange proofsGoodWrong)

/-- 'shacklelaw06.ProofsLater': WHATEVER THE INPUT: true; the input reads as it did. -/
def proofsLaterSpec : ChangeSpec := { name := "proofsLater", fn := fun _ => fun
  | [d] => { results := [.lit (.bool true)], args := [d] }
  | _ => none }
def proofsLaterRow : OpenClaim := { program := "ytidcmjicfnjcjaagreat", sum := "724c442b67c2931787ab675be5b04f378de3d21306771201c92cefd843a3480e", func := "shackle/shacklelaw06.ProofsLater", spec := "proofsLater", inPlace := ["slices.overlaps[int]"], unfollowed := true, recurses := true, apart := false }
def ProofsLaterSaid : Prop := proofsLaterRow.holds Tryz.pinned (OpenSpec.ofChange proofsLaterSpec)

/-- ITS FALSE NEIGHBOUR: 'it returns false'. Refute it at one input. -/
def proofsLaterWrong : ChangeSpec := { name := "proofsLater", fn := fun _ => fun
  | [d] => { results := [.lit (.bool false)], args := [d] }
  | _ => none }
def ProofsLaterWrongFalsely : Prop := proofsLaterRow.holds Tryz.pinned (OpenSpec.ofChange proofsLaterWrong)

/-- 'shacklelaw06.ProofsTrue': WHATEVER THE INPUT: true; the input reads as it did. -/
def proofsTrueSpec : ChangeSpec := { name := "proofsTrue", fn := fun _ => fun
  | [d1, d2, d3] => { results := [.lit (.bool true)], args := [d1, d2, d3] }
  | _ => none }
def proofsTrueRow : OpenClaim := { program := "ytidcmjicfnjcjaagreat", sum := "724c442b67c2931787ab675be5b04f378de3d21306771201c92cefd843a3480e", func := "shackle/shacklelaw06.ProofsTrue", spec := "proofsTrue", inPlace := ["slices.overlaps[int]"], unfollowed := true, recurses := true, apart := false }
def ProofsTrueSaid : Prop := proofsTrueRow.holds Tryz.pinned (OpenSpec.ofChange proofsTrueSpec)

/-- ITS FALSE NEIGHBOUR: 'it returns false'. Refute it at one input. -/
def proofsTrueWrong : ChangeSpec := { name := "proofsTrue", fn := fun _ => fun
  | [d1, d2, d3] => { results := [.lit (.bool false)], args := [d1, d2, d3] }
  | _ => none }
def ProofsTrueWrongFalsely : Prop := proofsTrueRow.holds Tryz.pinned (OpenSpec.ofChange proofsTrueWrong)

/-- 'shackletop.TopCutOff': WHATEVER THE INPUT: true; the input reads as it did. -/
def topCutOffSpec : ChangeSpec := { name := "topCutOff", fn := fun _ => fun
  | [d] => { results := [.lit (.bool true)], args := [d] }
  | _ => none }
def topCutOffRow : OpenClaim := { program := "ytidcmjicfnjcjaagreat", sum := "724c442b67c2931787ab675be5b04f378de3d21306771201c92cefd843a3480e", func := "shackle/shackletop.TopCutOff", spec := "topCutOff", inPlace := ["slices.overlaps[int]"], unfollowed := true, recurses := true, apart := false }
def TopCutOffSaid : Prop := topCutOffRow.holds Tryz.pinned (OpenSpec.ofChange topCutOffSpec)

/-- ITS FALSE NEIGHBOUR: 'it returns false'. Refute it at one input. -/
def topCutOffWrong : ChangeSpec := { name := "topCutOff", fn := fun _ => fun
  | [d] => { results := [.lit (.bool false)], args := [d] }
  | _ => none }
def TopCutOffWrongFalsely : Prop := topCutOffRow.holds Tryz.pinned (OpenSpec.ofChange topCutOffWrong)

/- THE SECOND FORM. 'bulk': how many values and letters a reading holds, each counted each time it is reached (what is shared counts as often as it is met; a slice's spare places count too). A statement '..UptoSaid' is the law's where the arguments, and the package variables that the reading takes, are together of bulk at most 1048576: NARROWER than '..Said'. Prove '..Said' where nothing that the law and all that it calls make is longer than what came in: it says more and counts as full. Else prove '..UptoSaid'. A law counts once. -/
mutual
def uptoBulk {H : Type} : DataW H → Nat
  | .lit (.string bytes) => bytes.length + 1
  | .lit _ => 1
  | .nil => 1
  | .ptr d => uptoBulk d + 1
  | .slice elems spare => uptoBulkAll elems + uptoBulkAll spare + 1
  | .agg parts => uptoBulkAll parts + 1
  | .iface _ d => uptoBulk d + 1
  | .map entries => uptoBulkEntries entries + 1
  | .held _ => 1
def uptoBulkAll {H : Type} : List (DataW H) → Nat
  | [] => 0
  | d :: r => uptoBulk d + uptoBulkAll r
def uptoBulkEntries {H : Type} : List (Lit × DataW H) → Nat
  | [] => 0
  | x :: r => uptoBulkEntry x + uptoBulkEntries r
def uptoBulkEntry {H : Type} : Lit × DataW H → Nat
  | (.string bytes, d) => bytes.length + uptoBulk d + 1
  | (_, d) => uptoBulk d + 1
 end
def uptoSmall : (H : Type) → List (DataW H) → Bool := fun _ ds => decide (uptoBulkAll ds ≤ 1048576)
def OpenSpec.upto (s : _root_.Go.ChangeSpec) : _root_.Go.OpenSpec := { _root_.Go.OpenSpec.ofChange s with cond := some uptoSmall }

/-- 'shacklelaw06.ProofsNeed', WHERE WHAT IT READS IS OF BULK AT MOST 1048576: true; the input reads as it did. -/
def proofsNeedUptoRow : OpenClaim := { program := "ytidcmjicfnjcjaagreat", sum := "724c442b67c2931787ab675be5b04f378de3d21306771201c92cefd843a3480e", func := "shackle/shacklelaw06.ProofsNeed", spec := "proofsNeed", inPlace := ["slices.overlaps[int]"], unfollowed := true, recurses := true, apart := false, narrowed := true }
def ProofsNeedUptoSaid : Prop := proofsNeedUptoRow.holds Tryz.pinned (OpenSpec.upto proofsNeedSpec)

/-- 'shacklelaw06.ProofsMore', WHERE WHAT IT READS IS OF BULK AT MOST 1048576: true; the input reads as it did. -/
def proofsMoreUptoRow : OpenClaim := { program := "ytidcmjicfnjcjaagreat", sum := "724c442b67c2931787ab675be5b04f378de3d21306771201c92cefd843a3480e", func := "shackle/shacklelaw06.ProofsMore", spec := "proofsMore", inPlace := ["slices.overlaps[int]"], unfollowed := true, recurses := true, apart := false, narrowed := true }
def ProofsMoreUptoSaid : Prop := proofsMoreUptoRow.holds Tryz.pinned (OpenSpec.upto proofsMoreSpec)

/-- 'shacklelaw06.ProofsReplaced', WHERE WHAT IT READS IS OF BULK AT MOST 1048576: true; the input reads as it did. -/
def proofsReplacedUptoRow : OpenClaim := { program := "ytidcmjicfnjcjaagreat", sum := "724c442b67c2931787ab675be5b04f378de3d21306771201c92cefd843a3480e", func := "shackle/shacklelaw06.ProofsReplaced", spec := "proofsReplaced", inPlace := ["slices.overlaps[int]"], unfollowed := true, recurses := true, apart := false, narrowed := true }
def ProofsReplacedUptoSaid : Prop := proofsReplacedUptoRow.holds Tryz.pinned (OpenSpec.upto proofsReplacedSpec)

/-- 'shacklelaw06.ProofsRule', WHERE WHAT IT READS IS OF BULK AT MOST 1048576: true; the input reads as it did. -/
def proofsRuleUptoRow : OpenClaim := { program := "ytidcmjicfnjcjaagreat", sum := "724c442b67c2931787ab675be5b04f378de3d21306771201c92cefd843a3480e", func := "shackle/shacklelaw06.ProofsRule", spec := "proofsRule", inPlace := ["slices.overlaps[int]"], unfollowed := true, recurses := true, apart := false, narrowed := true }
def ProofsRuleUptoSaid : Prop := proofsRuleUptoRow.holds Tryz.pinned (OpenSpec.upto proofsRuleSpec)

/-- 'shacklelaw06.ProofsBroke', WHERE WHAT IT READS IS OF BULK AT MOST 1048576: true; the input reads as it did. -/
def proofsBrokeUptoRow : OpenClaim := { program := "ytidcmjicfnjcjaagreat", sum := "724c442b67c2931787ab675be5b04f378de3d21306771201c92cefd843a3480e", func := "shackle/shacklelaw06.ProofsBroke", spec := "proofsBroke", inPlace := ["slices.overlaps[int]"], unfollowed := true, recurses := true, apart := false, narrowed := true }
def ProofsBrokeUptoSaid : Prop := proofsBrokeUptoRow.holds Tryz.pinned (OpenSpec.upto proofsBrokeSpec)

/-- 'shacklelaw06.ProofsFailures', WHERE WHAT IT READS IS OF BULK AT MOST 1048576: true; the input reads as it did. -/
def proofsFailuresUptoRow : OpenClaim := { program := "ytidcmjicfnjcjaagreat", sum := "724c442b67c2931787ab675be5b04f378de3d21306771201c92cefd843a3480e", func := "shackle/shacklelaw06.ProofsFailures", spec := "proofsFailures", inPlace := ["slices.overlaps[int]"], unfollowed := true, recurses := true, apart := false, narrowed := true }
def ProofsFailuresUptoSaid : Prop := proofsFailuresUptoRow.holds Tryz.pinned (OpenSpec.upto proofsFailuresSpec)

/-- 'shacklelaw06.ProofsGood', WHERE WHAT IT READS IS OF BULK AT MOST 1048576: true; the input reads as it did. -/
def proofsGoodUptoRow : OpenClaim := { program := "ytidcmjicfnjcjaagreat", sum := "724c442b67c2931787ab675be5b04f378de3d21306771201c92cefd843a3480e", func := "shackle/shacklelaw06.ProofsGood", spec := "proofsGood", inPlace := ["slices.overlaps[int]"], unfollowed := true, recurses := true, apart := false, narrowed := true }
def ProofsGoodUptoSaid : Prop := proofsGoodUptoRow.holds Tryz.pinned (OpenSpec.upto proofsGoodSpec)

/-- 'shacklelaw06.ProofsLater', WHERE WHAT IT READS IS OF BULK AT MOST 1048576: true; the input reads as it did. -/
def proofsLaterUptoRow : OpenClaim := { program := "ytidcmjicfnjcjaagreat", sum := "724c442b67c2931787ab675be5b04f378de3d21306771201c92cefd843a3480e", func := "shackle/shacklelaw06.ProofsLater", spec := "proofsLater", inPlace := ["slices.overlaps[int]"], unfollowed := true, recurses := true, apart := false, narrowed := true }
def ProofsLaterUptoSaid : Prop := proofsLaterUptoRow.holds Tryz.pinned (OpenSpec.upto proofsLaterSpec)

/-- 'shacklelaw06.ProofsTrue', WHERE WHAT IT READS IS OF BULK AT MOST 1048576: true; the input reads as it did. -/
def proofsTrueUptoRow : OpenClaim := { program := "ytidcmjicfnjcjaagreat", sum := "724c442b67c2931787ab675be5b04f378de3d21306771201c92cefd843a3480e", func := "shackle/shacklelaw06.ProofsTrue", spec := "proofsTrue", inPlace := ["slices.overlaps[int]"], unfollowed := true, recurses := true, apart := false, narrowed := true }
def ProofsTrueUptoSaid : Prop := proofsTrueUptoRow.holds Tryz.pinned (OpenSpec.upto proofsTrueSpec)

/-- 'shackletop.TopCutOff', WHERE WHAT IT READS IS OF BULK AT MOST 1048576: true; the input reads as it did. -/
def topCutOffUptoRow : OpenClaim := { program := "ytidcmjicfnjcjaagreat", sum := "724c442b67c2931787ab675be5b04f378de3d21306771201c92cefd843a3480e", func := "shackle/shackletop.TopCutOff", spec := "topCutOff", inPlace := ["slices.overlaps[int]"], unfollowed := true, recurses := true, apart := false, narrowed := true }
def TopCutOffUptoSaid : Prop := topCutOffUptoRow.holds Tryz.pinned (OpenSpec.upto topCutOffSpec)

end Rows
end Go.Proofs.YtidcmjicfnjcjaaGreat
