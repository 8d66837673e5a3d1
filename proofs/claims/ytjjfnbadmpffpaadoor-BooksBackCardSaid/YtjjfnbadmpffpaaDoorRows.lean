/-
  NARROWER THAN 'FOR EVERY INPUT', by the rows' own cells (each row's printed sentence says how): BooksWrite: laid · BooksByte: laid · BooksOrder: laid · BooksJoin: laid · BooksCopies: laid · BooksLost: laid · BooksClash: laid · BooksRead: laid · BooksBack: laid.
  DERIVED. THE GIVEN ROWS OF THIS SEAT. 9 by the template 'for every input the law returns true; each argument reads behind the call as it read before'; 0 by the template 'total and deterministic' (their statements: YtjjfnbadmpffpaaDoorTotals.lean).
  GIVEN WITH THE SEED: the statements are not yours to turn. If you find one false, say at which input.
  Laid BY PROGRAM, IN A SANDBOX (cutbox-rows.mjs): the forced cells as the released guide's own fill.sh prints them over the translation c42f1188c3eed05d… (all of the seat's roots in one cut). By AI agents, Wed Nov 11 2026. No macro, syntax, notation, axiom, sorry.
-/
import Derived.Test.YtjjfnbadmpffpaaDoorChecked
import GoSem.PinnedTables
import GoSem.Claim
import GoSem.ClaimJoined
import GoSem.ClaimMapViews
import Derived.JoinedTies
import Derived.KernelRfl
namespace Go.Proofs.YtjjfnbadmpffpaaDoor
/- THE CELL 'sum', in the pinned program and in every row, IS THE sha256 OF THE DUMP (.gsa) THAT YtjjfnbadmpffpaaDoorProg.lean LOADS. Nothing in Lean hashes anything: it is a label: what it is worth is what the hold of that sum in a sandbox is worth. -/
noncomputable def Tryd.pinned : Pinned := { name := "ytjjfnbadmpffpaadoor", sum := "c42f1188c3eed05d4f2ac80644bfff3a54784fb1ed1b00d9c2e62492c0de5258", checked := Tryd.checked }
namespace Rows
def none {H : Type} : Left H := { results := [], args := [] }

/- WHAT THE LISTED PACKAGE-LEVEL VARIABLES READ AS WHEN THE CALL BEGINS. Each datum BY PROGRAM (the guide's laid-datum.mjs) off the statement by which the dump's own 'gosem.cut.vars' lays the variable. In a bare row this is a premise. The card (YtjjfnbadmpffpaaDoorCards.lean) ties it to the program's text. -/
def laid_unicode_utf8_acceptRanges {H : Type} : DataW H := .agg [.agg [.lit (.int .u8 128), .lit (.int .u8 191)], .agg [.lit (.int .u8 160), .lit (.int .u8 191)], .agg [.lit (.int .u8 128), .lit (.int .u8 159)], .agg [.lit (.int .u8 144), .lit (.int .u8 191)], .agg [.lit (.int .u8 128), .lit (.int .u8 143)], .agg [.lit (.int .u8 0), .lit (.int .u8 0)], .agg [.lit (.int .u8 0), .lit (.int .u8 0)], .agg [.lit (.int .u8 0), .lit (.int .u8 0)], .agg [.lit (.int .u8 0), .lit (.int .u8 0)], .agg [.lit (.int .u8 0), .lit (.int .u8 0)], .agg [.lit (.int .u8 0), .lit (.int .u8 0)], .agg [.lit (.int .u8 0), .lit (.int .u8 0)], .agg [.lit (.int .u8 0), .lit (.int .u8 0)], .agg [.lit (.int .u8 0), .lit (.int .u8 0)], .agg [.lit (.int .u8 0), .lit (.int .u8 0)], .agg [.lit (.int .u8 0), .lit (.int .u8 0)]]
/-- One of Go's own tables, pinned by name: the form's constant. -/
def laid_unicode_utf8_first : DataW Unit := Go.Pinned.utf8First

/-- 'shacklelaw14.BooksWrite': WHATEVER THE INPUT: true; the input reads as it did. -/
def booksWriteSpec : ChangeSpec := { name := "booksWrite", fn := fun _ => fun
  | [d] => { results := [.lit (.bool true)], args := [d] }
  | _ => none }
def booksWriteRow : OpenClaim := { program := "ytjjfnbadmpffpaadoor", sum := "c42f1188c3eed05d4f2ac80644bfff3a54784fb1ed1b00d9c2e62492c0de5258", func := "shackle/shacklelaw14.BooksWrite", spec := "booksWrite", inPlace := ["internal/bytealg.CountString", "internal/bytealg.IndexByteString", "internal/bytealg.IndexString"], unfollowed := true, recurses := true, named := ["unicode/utf8.first", "unicode/utf8.acceptRanges", "internal/bytealg.MaxLen"], apart := false, laid := [("unicode/utf8.acceptRanges", laid_unicode_utf8_acceptRanges), ("unicode/utf8.first", laid_unicode_utf8_first)] }
def BooksWriteSaid : Prop := booksWriteRow.holds Tryd.pinned (OpenSpec.ofChange booksWriteSpec)

/-- ITS FALSE NEIGHBOUR: 'it returns false'. Refute it at one input. -/
def booksWriteWrong : ChangeSpec := { name := "booksWrite", fn := fun _ => fun
  | [d] => { results := [.lit (.bool false)], args := [d] }
  | _ => none }
def BooksWriteWrongFalsely : Prop := booksWriteRow.holds Tryd.pinned (OpenSpec.ofChange booksWriteWrong)

/-- 'shacklelaw14.BooksByte': WHATEVER THE INPUT: true; the input reads as it did. -/
def booksByteSpec : ChangeSpec := { name := "booksByte", fn := fun _ => fun
  | [d1, d2] => { results := [.lit (.bool true)], args := [d1, d2] }
  | _ => none }
def booksByteRow : OpenClaim := { program := "ytjjfnbadmpffpaadoor", sum := "c42f1188c3eed05d4f2ac80644bfff3a54784fb1ed1b00d9c2e62492c0de5258", func := "shackle/shacklelaw14.BooksByte", spec := "booksByte", inPlace := ["internal/bytealg.CountString", "internal/bytealg.IndexByteString", "internal/bytealg.IndexString"], unfollowed := true, recurses := true, named := ["unicode/utf8.first", "unicode/utf8.acceptRanges", "internal/bytealg.MaxLen"], apart := false, laid := [("unicode/utf8.acceptRanges", laid_unicode_utf8_acceptRanges), ("unicode/utf8.first", laid_unicode_utf8_first)] }
def BooksByteSaid : Prop := booksByteRow.holds Tryd.pinned (OpenSpec.ofChange booksByteSpec)

/-- ITS FALSE NEIGHBOUR: 'it returns false'. Refute it at one input. -/
def booksByteWrong : ChangeSpec := { name := "booksByte", fn := fun _ => fun
  | [d1, d2] => { results := [.lit (.bool false)], args := [d1, d2] }
  | _ => none }
def BooksByteWrongFalsely : Prop := booksByteRow.holds Tryd.pinned (OpenSpec.ofChange booksByteWrong)

/-- 'shacklelaw14.BooksOrder': WHATEVER THE INPUT: true; the input reads as it did. -/
def booksOrderSpec : ChangeSpec := { name := "booksOrder", fn := fun _ => fun
  | [d1, d2] => { results := [.lit (.bool true)], args := [d1, d2] }
  | _ => none }
def booksOrderRow : OpenClaim := { program := "ytjjfnbadmpffpaadoor", sum := "c42f1188c3eed05d4f2ac80644bfff3a54784fb1ed1b00d9c2e62492c0de5258", func := "shackle/shacklelaw14.BooksOrder", spec := "booksOrder", inPlace := ["internal/bytealg.CountString", "internal/bytealg.IndexByteString", "internal/bytealg.IndexString"], unfollowed := true, recurses := true, named := ["unicode/utf8.first", "unicode/utf8.acceptRanges", "internal/bytealg.MaxLen"], apart := false, laid := [("unicode/utf8.acceptRanges", laid_unicode_utf8_acceptRanges), ("unicode/utf8.first", laid_unicode_utf8_first)] }
def BooksOrderSaid : Prop := booksOrderRow.holds Tryd.pinned (OpenSpec.ofChange booksOrderSpec)

/-- ITS FALSE NEIGHBOUR: 'it returns false'. Refute it at one input. -/
def booksOrderWrong : ChangeSpec := { name := "booksOrder", fn := fun _ => fun
  | [d1, d2] => { results := [.lit (.bool false)], args := [d1, d2] }
  | _ => none }
def BooksOrderWrongFalsely : Prop := booksOrderRow.holds Tryd.pinned (OpenSpec.ofChange booksOrderWrong)

/-- 'shacklelaw14.BooksJoin': WHATEVER THE INPUT: true; the input reads as it did. -/
def booksJoinSpec : ChangeSpec := { name := "booksJoin", fn := fun _ => fun
  | [d1, d2] => { results := [.lit (.bool true)], args := [d1, d2] }
  | _ => none }
def booksJoinRow : OpenClaim := { program := "ytjjfnbadmpffpaadoor", sum := "c42f1188c3eed05d4f2ac80644bfff3a54784fb1ed1b00d9c2e62492c0de5258", func := "shackle/shacklelaw14.BooksJoin", spec := "booksJoin", inPlace := ["internal/bytealg.CountString", "internal/bytealg.IndexByteString", "internal/bytealg.IndexString"], unfollowed := true, recurses := true, named := ["unicode/utf8.first", "unicode/utf8.acceptRanges", "internal/bytealg.MaxLen"], apart := false, laid := [("unicode/utf8.acceptRanges", laid_unicode_utf8_acceptRanges), ("unicode/utf8.first", laid_unicode_utf8_first)] }
def BooksJoinSaid : Prop := booksJoinRow.holds Tryd.pinned (OpenSpec.ofChange booksJoinSpec)

/-- ITS FALSE NEIGHBOUR: 'it returns false'. Refute it at one input. -/
def booksJoinWrong : ChangeSpec := { name := "booksJoin", fn := fun _ => fun
  | [d1, d2] => { results := [.lit (.bool false)], args := [d1, d2] }
  | _ => none }
def BooksJoinWrongFalsely : Prop := booksJoinRow.holds Tryd.pinned (OpenSpec.ofChange booksJoinWrong)

/-- 'shacklelaw14.BooksCopies': WHATEVER THE INPUT: true; the input reads as it did. -/
def booksCopiesSpec : ChangeSpec := { name := "booksCopies", fn := fun _ => fun
  | [d1, d2] => { results := [.lit (.bool true)], args := [d1, d2] }
  | _ => none }
def booksCopiesRow : OpenClaim := { program := "ytjjfnbadmpffpaadoor", sum := "c42f1188c3eed05d4f2ac80644bfff3a54784fb1ed1b00d9c2e62492c0de5258", func := "shackle/shacklelaw14.BooksCopies", spec := "booksCopies", inPlace := ["internal/bytealg.CountString", "internal/bytealg.IndexByteString", "internal/bytealg.IndexString"], unfollowed := true, recurses := true, named := ["unicode/utf8.first", "unicode/utf8.acceptRanges", "internal/bytealg.MaxLen"], apart := false, laid := [("unicode/utf8.acceptRanges", laid_unicode_utf8_acceptRanges), ("unicode/utf8.first", laid_unicode_utf8_first)] }
def BooksCopiesSaid : Prop := booksCopiesRow.holds Tryd.pinned (OpenSpec.ofChange booksCopiesSpec)

/-- ITS FALSE NEIGHBOUR: 'it returns false'. Refute it at one input. -/
def booksCopiesWrong : ChangeSpec := { name := "booksCopies", fn := fun _ => fun
  | [d1, d2] => { results := [.lit (.bool false)], args := [d1, d2] }
  | _ => none }
def BooksCopiesWrongFalsely : Prop := booksCopiesRow.holds Tryd.pinned (OpenSpec.ofChange booksCopiesWrong)

/-- 'shacklelaw14.BooksLost': WHATEVER THE INPUT: true; the input reads as it did. -/
def booksLostSpec : ChangeSpec := { name := "booksLost", fn := fun _ => fun
  | [d1, d2] => { results := [.lit (.bool true)], args := [d1, d2] }
  | _ => none }
def booksLostRow : OpenClaim := { program := "ytjjfnbadmpffpaadoor", sum := "c42f1188c3eed05d4f2ac80644bfff3a54784fb1ed1b00d9c2e62492c0de5258", func := "shackle/shacklelaw14.BooksLost", spec := "booksLost", inPlace := ["internal/bytealg.CountString", "internal/bytealg.IndexByteString", "internal/bytealg.IndexString"], unfollowed := true, recurses := true, named := ["unicode/utf8.first", "unicode/utf8.acceptRanges", "internal/bytealg.MaxLen"], apart := false, laid := [("unicode/utf8.acceptRanges", laid_unicode_utf8_acceptRanges), ("unicode/utf8.first", laid_unicode_utf8_first)] }
def BooksLostSaid : Prop := booksLostRow.holds Tryd.pinned (OpenSpec.ofChange booksLostSpec)

/-- ITS FALSE NEIGHBOUR: 'it returns false'. Refute it at one input. -/
def booksLostWrong : ChangeSpec := { name := "booksLost", fn := fun _ => fun
  | [d1, d2] => { results := [.lit (.bool false)], args := [d1, d2] }
  | _ => none }
def BooksLostWrongFalsely : Prop := booksLostRow.holds Tryd.pinned (OpenSpec.ofChange booksLostWrong)

/-- 'shacklelaw14.BooksClash': WHATEVER THE INPUT: true; the input reads as it did. -/
def booksClashSpec : ChangeSpec := { name := "booksClash", fn := fun _ => fun
  | [d1, d2, d3] => { results := [.lit (.bool true)], args := [d1, d2, d3] }
  | _ => none }
def booksClashRow : OpenClaim := { program := "ytjjfnbadmpffpaadoor", sum := "c42f1188c3eed05d4f2ac80644bfff3a54784fb1ed1b00d9c2e62492c0de5258", func := "shackle/shacklelaw14.BooksClash", spec := "booksClash", inPlace := ["internal/bytealg.CountString", "internal/bytealg.IndexByteString", "internal/bytealg.IndexString"], unfollowed := true, recurses := true, named := ["unicode/utf8.first", "unicode/utf8.acceptRanges", "internal/bytealg.MaxLen"], apart := false, laid := [("unicode/utf8.acceptRanges", laid_unicode_utf8_acceptRanges), ("unicode/utf8.first", laid_unicode_utf8_first)] }
def BooksClashSaid : Prop := booksClashRow.holds Tryd.pinned (OpenSpec.ofChange booksClashSpec)

/-- ITS FALSE NEIGHBOUR: 'it returns false'. Refute it at one input. -/
def booksClashWrong : ChangeSpec := { name := "booksClash", fn := fun _ => fun
  | [d1, d2, d3] => { results := [.lit (.bool false)], args := [d1, d2, d3] }
  | _ => none }
def BooksClashWrongFalsely : Prop := booksClashRow.holds Tryd.pinned (OpenSpec.ofChange booksClashWrong)

/-- 'shacklelaw14.BooksRead': WHATEVER THE INPUT: true; the input reads as it did. -/
def booksReadSpec : ChangeSpec := { name := "booksRead", fn := fun _ => fun
  | [d] => { results := [.lit (.bool true)], args := [d] }
  | _ => none }
def booksReadRow : OpenClaim := { program := "ytjjfnbadmpffpaadoor", sum := "c42f1188c3eed05d4f2ac80644bfff3a54784fb1ed1b00d9c2e62492c0de5258", func := "shackle/shacklelaw14.BooksRead", spec := "booksRead", inPlace := ["internal/bytealg.CountString", "internal/bytealg.IndexByteString", "internal/bytealg.IndexString"], unfollowed := true, recurses := true, named := ["unicode/utf8.first", "unicode/utf8.acceptRanges", "internal/bytealg.MaxLen"], apart := false, laid := [("unicode/utf8.acceptRanges", laid_unicode_utf8_acceptRanges), ("unicode/utf8.first", laid_unicode_utf8_first)] }
def BooksReadSaid : Prop := booksReadRow.holds Tryd.pinned (OpenSpec.ofChange booksReadSpec)

/-- ITS FALSE NEIGHBOUR: 'it returns false'. Refute it at one input. -/
def booksReadWrong : ChangeSpec := { name := "booksRead", fn := fun _ => fun
  | [d] => { results := [.lit (.bool false)], args := [d] }
  | _ => none }
def BooksReadWrongFalsely : Prop := booksReadRow.holds Tryd.pinned (OpenSpec.ofChange booksReadWrong)

/-- 'shacklelaw14.BooksBack': WHATEVER THE INPUT: true; the input reads as it did. -/
def booksBackSpec : ChangeSpec := { name := "booksBack", fn := fun _ => fun
  | [d1, d2] => { results := [.lit (.bool true)], args := [d1, d2] }
  | _ => none }
def booksBackRow : OpenClaim := { program := "ytjjfnbadmpffpaadoor", sum := "c42f1188c3eed05d4f2ac80644bfff3a54784fb1ed1b00d9c2e62492c0de5258", func := "shackle/shacklelaw14.BooksBack", spec := "booksBack", inPlace := ["internal/bytealg.CountString", "internal/bytealg.IndexByteString", "internal/bytealg.IndexString"], unfollowed := true, recurses := true, named := ["unicode/utf8.first", "unicode/utf8.acceptRanges", "internal/bytealg.MaxLen"], apart := false, laid := [("unicode/utf8.acceptRanges", laid_unicode_utf8_acceptRanges), ("unicode/utf8.first", laid_unicode_utf8_first)] }
def BooksBackSaid : Prop := booksBackRow.holds Tryd.pinned (OpenSpec.ofChange booksBackSpec)

/-- ITS FALSE NEIGHBOUR: 'it returns false'. Refute it at one input. -/
def booksBackWrong : ChangeSpec := { name := "booksBack", fn := fun _ => fun
  | [d1, d2] => { results := [.lit (.bool false)], args := [d1, d2] }
  | _ => none }
def BooksBackWrongFalsely : Prop := booksBackRow.holds Tryd.pinned (OpenSpec.ofChange booksBackWrong)

/- THE SECOND FORM. 'bulk': how many values and letters a reading holds, each counted each time it is reached (what is shared counts as often as it is met; a slice's spare places count too). A statement '..UptoSaid' is the law's where the arguments, and the package variables that the reading takes, are together of bulk at most 1048576: NARROWER than '..Said'. Prove '..Said' where nothing that the law and all that it calls make is longer than what came in: it says more and counts as full. Else prove '..UptoSaid'. A law counts once. -/
mutual
def uptoBulk {H : Type} : DataW H → Nat
  | .lit (.string bytes) => bytes.length + 1
  | .lit _ => 1
  | .nil => 1
  | .ptr d => uptoBulk d + 1
  | .slice elems spare => uptoBulkAll elems + uptoBulkAll spare + 1
  | .agg parts => uptoBulkAll parts + 1
  | .iface _ d => uptoBulk d + 1
  | .map entries => uptoBulkEntries entries + 1
  | .held _ => 1
def uptoBulkAll {H : Type} : List (DataW H) → Nat
  | [] => 0
  | d :: r => uptoBulk d + uptoBulkAll r
def uptoBulkEntries {H : Type} : List (Lit × DataW H) → Nat
  | [] => 0
  | x :: r => uptoBulkEntry x + uptoBulkEntries r
def uptoBulkEntry {H : Type} : Lit × DataW H → Nat
  | (.string bytes, d) => bytes.length + uptoBulk d + 1
  | (_, d) => uptoBulk d + 1
 end
def uptoSmall : (H : Type) → List (DataW H) → Bool := fun _ ds => decide (uptoBulkAll ds ≤ 1048576)
def OpenSpec.upto (s : _root_.Go.ChangeSpec) : _root_.Go.OpenSpec := { _root_.Go.OpenSpec.ofChange s with cond := some uptoSmall }

/-- 'shacklelaw14.BooksWrite', WHERE WHAT IT READS IS OF BULK AT MOST 1048576: true; the input reads as it did. -/
def booksWriteUptoRow : OpenClaim := { program := "ytjjfnbadmpffpaadoor", sum := "c42f1188c3eed05d4f2ac80644bfff3a54784fb1ed1b00d9c2e62492c0de5258", func := "shackle/shacklelaw14.BooksWrite", spec := "booksWrite", inPlace := ["internal/bytealg.CountString", "internal/bytealg.IndexByteString", "internal/bytealg.IndexString"], unfollowed := true, recurses := true, named := ["unicode/utf8.first", "unicode/utf8.acceptRanges", "internal/bytealg.MaxLen"], apart := false, laid := [("unicode/utf8.acceptRanges", laid_unicode_utf8_acceptRanges), ("unicode/utf8.first", laid_unicode_utf8_first)], narrowed := true }
def BooksWriteUptoSaid : Prop := booksWriteUptoRow.holds Tryd.pinned (OpenSpec.upto booksWriteSpec)

/-- 'shacklelaw14.BooksByte', WHERE WHAT IT READS IS OF BULK AT MOST 1048576: true; the input reads as it did. -/
def booksByteUptoRow : OpenClaim := { program := "ytjjfnbadmpffpaadoor", sum := "c42f1188c3eed05d4f2ac80644bfff3a54784fb1ed1b00d9c2e62492c0de5258", func := "shackle/shacklelaw14.BooksByte", spec := "booksByte", inPlace := ["internal/bytealg.CountString", "internal/bytealg.IndexByteString", "internal/bytealg.IndexString"], unfollowed := true, recurses := true, named := ["unicode/utf8.first", "unicode/utf8.acceptRanges", "internal/bytealg.MaxLen"], apart := false, laid := [("unicode/utf8.acceptRanges", laid_unicode_utf8_acceptRanges), ("unicode/utf8.first", laid_unicode_utf8_first)], narrowed := true }
def BooksByteUptoSaid : Prop := booksByteUptoRow.holds Tryd.pinned (OpenSpec.upto booksByteSpec)

/-- 'shacklelaw14.BooksOrder', WHERE WHAT IT READS IS OF BULK AT MOST 1048576: true; the input reads as it did. -/
def booksOrderUptoRow : OpenClaim := { program := "ytjjfnbadmpffpaadoor", sum := "c42f1188c3eed05d4f2ac80644bfff3a54784fb1ed1b00d9c2e62492c0de5258", func := "shackle/shacklelaw14.BooksOrder", spec := "booksOrder", inPlace := ["internal/bytealg.CountString", "internal/bytealg.IndexByteString", "internal/bytealg.IndexString"], unfollowed := true, recurses := true, named := ["unicode/utf8.first", "unicode/utf8.acceptRanges", "internal/bytealg.MaxLen"], apart := false, laid := [("unicode/utf8.acceptRanges", laid_unicode_utf8_acceptRanges), ("unicode/utf8.first", laid_unicode_utf8_first)], narrowed := true }
def BooksOrderUptoSaid : Prop := booksOrderUptoRow.holds Tryd.pinned (OpenSpec.upto booksOrderSpec)

/-- 'shacklelaw14.BooksJoin', WHERE WHAT IT READS IS OF BULK AT MOST 1048576: true; the input reads as it did. -/
def booksJoinUptoRow : OpenClaim := { program := "ytjjfnbadmpffpaadoor", sum := "c42f1188c3eed05d4f2ac80644bfff3a54784fb1ed1b00d9c2e62492c0de5258", func := "shackle/shacklelaw14.BooksJoin", spec := "booksJoin", inPlace := ["internal/bytealg.CountString", "internal/bytealg.IndexByteString", "internal/bytealg.IndexString"], unfollowed := true, recurses := true, named := ["unicode/utf8.first", "unicode/utf8.acceptRanges", "internal/bytealg.MaxLen"], apart := false, laid := [("unicode/utf8.acceptRanges", laid_unicode_utf8_acceptRanges), ("unicode/utf8.first", laid_unicode_utf8_first)], narrowed := true }
def BooksJoinUptoSaid : Prop := booksJoinUptoRow.holds Tryd.pinned (OpenSpec.upto booksJoinSpec)

/-- 'shacklelaw14.BooksCopies', WHERE WHAT IT READS IS OF BULK AT MOST 1048576: true; the input reads as it did. -/
def booksCopiesUptoRow : OpenClaim := { program := "ytjjfnbadmpffpaadoor", sum := "c42f1188c3eed05d4f2ac80644bfff3a54784fb1ed1b00d9c2e62492c0de5258", func := "shackle/shacklelaw14.BooksCopies", spec := "booksCopies", inPlace := ["internal/bytealg.CountString", "internal/bytealg.IndexByteString", "internal/bytealg.IndexString"], unfollowed := true, recurses := true, named := ["unicode/utf8.first", "unicode/utf8.acceptRanges", "internal/bytealg.MaxLen"], apart := false, laid := [("unicode/utf8.acceptRanges", laid_unicode_utf8_acceptRanges), ("unicode/utf8.first", laid_unicode_utf8_first)], narrowed := true }
def BooksCopiesUptoSaid : Prop := booksCopiesUptoRow.holds Tryd.pinned (OpenSpec.upto booksCopiesSpec)

/-- 'shacklelaw14.BooksLost', WHERE WHAT IT READS IS OF BULK AT MOST 1048576: true; the input reads as it did. -/
def booksLostUptoRow : OpenClaim := { program := "ytjjfnbadmpffpaadoor", sum := "c42f1188c3eed05d4f2ac80644bfff3a54784fb1ed1b00d9c2e62492c0de5258", func := "shackle/shacklelaw14.BooksLost", spec := "booksLost", inPlace := ["internal/bytealg.CountString", "internal/bytealg.IndexByteString", "internal/bytealg.IndexString"], unfollowed := true, recurses := true, named := ["unicode/utf8.first", "unicode/utf8.acceptRanges", "internal/bytealg.MaxLen"], apart := false, laid := [("unicode/utf8.acceptRanges", laid_unicode_utf8_acceptRanges), ("unicode/utf8.first", laid_unicode_utf8_first)], narrowed := true }
def BooksLostUptoSaid : Prop := booksLostUptoRow.holds Tryd.pinned (OpenSpec.upto booksLostSpec)

/-- 'shacklelaw14.BooksClash', WHERE WHAT IT READS IS OF BULK AT MOST 1048576: true; the input reads as it did. -/
def booksClashUptoRow : OpenClaim := { program := "ytjjfnbadmpffpaadoor", sum := "c42f1188c3eed05d4f2ac80644bfff3a54784fb1ed1b00d9c2e62492c0de5258", func := "shackle/shacklelaw14.BooksClash", spec := "booksClash", inPlace := ["internal/bytealg.CountString", "internal/bytealg.IndexByteString", "internal/bytealg.IndexString"], unfollowed := true, recurses := true, named := ["unicode/utf8.first", "unicode/utf8.acceptRanges", "internal/bytealg.MaxLen"], apart := false, laid := [("unicode/utf8.acceptRanges", laid_unicode_utf8_acceptRanges), ("unicode/utf8.first", laid_unicode_utf8_first)], narrowed := true }
def BooksClashUptoSaid : Prop := booksClashUptoRow.holds Tryd.pinned (OpenSpec.upto booksClashSpec)

/-- 'shacklelaw14.BooksRead', WHERE WHAT IT READS IS OF BULK AT MOST 1048576: true; the input reads as it did. -/
def booksReadUptoRow : OpenClaim := { program := "ytjjfnbadmpffpaadoor", sum := "c42f1188c3eed05d4f2ac80644bfff3a54784fb1ed1b00d9c2e62492c0de5258", func := "shackle/shacklelaw14.BooksRead", spec := "booksRead", inPlace := ["internal/bytealg.CountString", "internal/bytealg.IndexByteString", "internal/bytealg.IndexString"], unfollowed := true, recurses := true, named := ["unicode/utf8.first", "unicode/utf8.acceptRanges", "internal/bytealg.MaxLen"], apart := false, laid := [("unicode/utf8.acceptRanges", laid_unicode_utf8_acceptRanges), ("unicode/utf8.first", laid_unicode_utf8_first)], narrowed := true }
def BooksReadUptoSaid : Prop := booksReadUptoRow.holds Tryd.pinned (OpenSpec.upto booksReadSpec)

/-- 'shacklelaw14.BooksBack', WHERE WHAT IT READS IS OF BULK AT MOST 1048576: true; the input reads as it did. -/
def booksBackUptoRow : OpenClaim := { program := "ytjjfnbadmpffpaadoor", sum := "c42f1188c3eed05d4f2ac80644bfff3a54784fb1ed1b00d9c2e62492c0de5258", func := "shackle/shacklelaw14.BooksBack", spec := "booksBack", inPlace := ["internal/bytealg.CountString", "internal/bytealg.IndexByteString", "internal/bytealg.IndexString"], unfollowed := true, recurses := true, named := ["unicode/utf8.first", "unicode/utf8.acceptRanges", "internal/bytealg.MaxLen"], apart := false, laid := [("unicode/utf8.acceptRanges", laid_unicode_utf8_acceptRanges), ("unicode/utf8.first", laid_unicode_utf8_first)], narrowed := true }
def BooksBackUptoSaid : Prop := booksBackUptoRow.holds Tryd.pinned (OpenSpec.upto booksBackSpec)

end Rows
end Go.Proofs.YtjjfnbadmpffpaaDoor
