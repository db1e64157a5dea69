/-
  NARROWER THAN 'FOR EVERY INPUT', by the rows' own cells (each row's printed sentence says how): TermsMatchesReference: loops, laid · TermsFutureMatchesReference: laid · TermsMore: laid · TermsFinish: laid · TermsDoom: laid · TermsUses: laid.
  DERIVED. THE GIVEN ROWS OF THIS SEAT. 6 by the template 'for every input the law returns true; each argument reads behind the call as it read before'; 0 by the template 'total and deterministic' (their statements: YtdaghncicimipaaGreatDoorTotals.lean).
  GIVEN WITH THE SEED: the statements are not yours to turn. If you find one false, say at which input.
  Laid BY PROGRAM, IN A SANDBOX (cutbox-rows.mjs): the forced cells as the released guide's own fill.sh prints them over the translation 901fa5a1541b5402… (all of the seat's roots in one cut). By AI agents, Wed Nov 11 2026. No macro, syntax, notation, axiom, sorry.
-/
import Derived.Test.YtdaghncicimipaaGreatDoorChecked
import GoSem.Claim
import GoSem.ClaimJoined
import GoSem.ClaimMapViews
import Derived.JoinedTies
import Derived.KernelRfl
namespace Go.Proofs.YtdaghncicimipaaGreatDoor
/- THE CELL 'sum', in the pinned program and in every row, IS THE sha256 OF THE DUMP (.gsa) THAT YtdaghncicimipaaGreatDoorProg.lean LOADS. Nothing in Lean hashes anything: it is a label: what it is worth is what the hold of that sum in a sandbox is worth. -/
noncomputable def Tryz.pinned : Pinned := { name := "ytdaghncicimipaagreatdoor", sum := "901fa5a1541b5402e8bdce9c42f2ea6b2d7b749f387c8dc0c8af1059568b4137", checked := Tryz.checked }
namespace Rows
def none {H : Type} : Left H := { results := [], args := [] }

/- WHAT THE LISTED PACKAGE-LEVEL VARIABLES READ AS WHEN THE CALL BEGINS. Each datum BY PROGRAM (the guide's laid-datum.mjs) off the statement by which the dump's own 'gosem.cut.vars' lays the variable. In a bare row this is a premise. The card (YtdaghncicimipaaGreatDoorCards.lean) ties it to the program's text. -/
def laid_math_bits_deBruijn32tab {H : Type} : DataW H := .agg [.lit (.int .u8 0), .lit (.int .u8 1), .lit (.int .u8 28), .lit (.int .u8 2), .lit (.int .u8 29), .lit (.int .u8 14), .lit (.int .u8 24), .lit (.int .u8 3), .lit (.int .u8 30), .lit (.int .u8 22), .lit (.int .u8 20), .lit (.int .u8 15), .lit (.int .u8 25), .lit (.int .u8 17), .lit (.int .u8 4), .lit (.int .u8 8), .lit (.int .u8 31), .lit (.int .u8 27), .lit (.int .u8 13), .lit (.int .u8 23), .lit (.int .u8 21), .lit (.int .u8 19), .lit (.int .u8 16), .lit (.int .u8 7), .lit (.int .u8 26), .lit (.int .u8 12), .lit (.int .u8 18), .lit (.int .u8 6), .lit (.int .u8 11), .lit (.int .u8 5), .lit (.int .u8 10), .lit (.int .u8 9)]
def laid_math_bits_deBruijn64tab {H : Type} : DataW H := .agg [.lit (.int .u8 0), .lit (.int .u8 1), .lit (.int .u8 56), .lit (.int .u8 2), .lit (.int .u8 57), .lit (.int .u8 49), .lit (.int .u8 28), .lit (.int .u8 3), .lit (.int .u8 61), .lit (.int .u8 58), .lit (.int .u8 42), .lit (.int .u8 50), .lit (.int .u8 38), .lit (.int .u8 29), .lit (.int .u8 17), .lit (.int .u8 4), .lit (.int .u8 62), .lit (.int .u8 47), .lit (.int .u8 59), .lit (.int .u8 36), .lit (.int .u8 45), .lit (.int .u8 43), .lit (.int .u8 51), .lit (.int .u8 22), .lit (.int .u8 53), .lit (.int .u8 39), .lit (.int .u8 33), .lit (.int .u8 30), .lit (.int .u8 24), .lit (.int .u8 18), .lit (.int .u8 12), .lit (.int .u8 5), .lit (.int .u8 63), .lit (.int .u8 55), .lit (.int .u8 48), .lit (.int .u8 27), .lit (.int .u8 60), .lit (.int .u8 41), .lit (.int .u8 37), .lit (.int .u8 16), .lit (.int .u8 46), .lit (.int .u8 35), .lit (.int .u8 44), .lit (.int .u8 21), .lit (.int .u8 52), .lit (.int .u8 32), .lit (.int .u8 23), .lit (.int .u8 11), .lit (.int .u8 54), .lit (.int .u8 26), .lit (.int .u8 40), .lit (.int .u8 15), .lit (.int .u8 34), .lit (.int .u8 20), .lit (.int .u8 31), .lit (.int .u8 10), .lit (.int .u8 25), .lit (.int .u8 14), .lit (.int .u8 19), .lit (.int .u8 9), .lit (.int .u8 13), .lit (.int .u8 8), .lit (.int .u8 7), .lit (.int .u8 6)]

/-- 'nadirlaw15.TermsMatchesReference': WHATEVER THE INPUT: true; the input reads as it did. -/
def termsMatchesReferenceSpec : ChangeSpec := { name := "termsMatchesReference", fn := fun _ => fun
  | [d1, d2, d3, d4] => { results := [.lit (.bool true)], args := [d1, d2, d3, d4] }
  | _ => none }
def termsMatchesReferenceRow : OpenClaim := { program := "ytdaghncicimipaagreatdoor", sum := "901fa5a1541b5402e8bdce9c42f2ea6b2d7b749f387c8dc0c8af1059568b4137", func := "nadir/nadirlaw15.TermsMatchesReference", spec := "termsMatchesReference", unfollowed := true, recurses := true, named := ["math/bits.deBruijn32tab", "math/bits.deBruijn64tab"], loops := true, apart := false, laid := [("math/bits.deBruijn32tab", laid_math_bits_deBruijn32tab), ("math/bits.deBruijn64tab", laid_math_bits_deBruijn64tab)] }
def TermsMatchesReferenceSaid : Prop := termsMatchesReferenceRow.holds Tryz.pinned (OpenSpec.ofChange termsMatchesReferenceSpec)

/-- ITS FALSE NEIGHBOUR: 'it returns false'. Refute it at one input. -/
def termsMatchesReferenceWrong : ChangeSpec := { name := "termsMatchesReference", fn := fun _ => fun
  | [d1, d2, d3, d4] => { results := [.lit (.bool false)], args := [d1, d2, d3, d4] }
  | _ => none }
def TermsMatchesReferenceWrongFalsely : Prop := termsMatchesReferenceRow.holds Tryz.pinned (OpenSpec.ofChange termsMatchesReferenceWrong)

/-- 'nadirlaw15.TermsFutureMatchesReference': WHATEVER THE INPUT: true; the input reads as it did. -/
def termsFutureMatchesReferenceSpec : ChangeSpec := { name := "termsFutureMatchesReference", fn := fun _ => fun
  | [d1, d2, d3, d4] => { results := [.lit (.bool true)], args := [d1, d2, d3, d4] }
  | _ => none }
def termsFutureMatchesReferenceRow : OpenClaim := { program := "ytdaghncicimipaagreatdoor", sum := "901fa5a1541b5402e8bdce9c42f2ea6b2d7b749f387c8dc0c8af1059568b4137", func := "nadir/nadirlaw15.TermsFutureMatchesReference", spec := "termsFutureMatchesReference", unfollowed := true, recurses := true, named := ["math/bits.deBruijn32tab", "math/bits.deBruijn64tab"], apart := false, laid := [("math/bits.deBruijn32tab", laid_math_bits_deBruijn32tab), ("math/bits.deBruijn64tab", laid_math_bits_deBruijn64tab)] }
def TermsFutureMatchesReferenceSaid : Prop := termsFutureMatchesReferenceRow.holds Tryz.pinned (OpenSpec.ofChange termsFutureMatchesReferenceSpec)

/-- ITS FALSE NEIGHBOUR: 'it returns false'. Refute it at one input. -/
def termsFutureMatchesReferenceWrong : ChangeSpec := { name := "termsFutureMatchesReference", fn := fun _ => fun
  | [d1, d2, d3, d4] => { results := [.lit (.bool false)], args := [d1, d2, d3, d4] }
  | _ => none }
def TermsFutureMatchesReferenceWrongFalsely : Prop := termsFutureMatchesReferenceRow.holds Tryz.pinned (OpenSpec.ofChange termsFutureMatchesReferenceWrong)

/-- 'nadirlaw15.TermsMore': WHATEVER THE INPUT: true; the input reads as it did. -/
def termsMoreSpec : ChangeSpec := { name := "termsMore", fn := fun _ => fun
  | [d1, d2] => { results := [.lit (.bool true)], args := [d1, d2] }
  | _ => none }
def termsMoreRow : OpenClaim := { program := "ytdaghncicimipaagreatdoor", sum := "901fa5a1541b5402e8bdce9c42f2ea6b2d7b749f387c8dc0c8af1059568b4137", func := "nadir/nadirlaw15.TermsMore", spec := "termsMore", unfollowed := true, recurses := true, named := ["math/bits.deBruijn32tab", "math/bits.deBruijn64tab"], apart := false, laid := [("math/bits.deBruijn32tab", laid_math_bits_deBruijn32tab), ("math/bits.deBruijn64tab", laid_math_bits_deBruijn64tab)] }
def TermsMoreSaid : Prop := termsMoreRow.holds Tryz.pinned (OpenSpec.ofChange termsMoreSpec)

/-- ITS FALSE NEIGHBOUR: 'it returns false'. Refute it at one input. -/
def termsMoreWrong : ChangeSpec := { name := "termsMore", fn := fun _ => fun
  | [d1, d2] => { results := [.lit (.bool false)], args := [d1, d2] }
  | _ => none }
def TermsMoreWrongFalsely : Prop := termsMoreRow.holds Tryz.pinned (OpenSpec.ofChange termsMoreWrong)

/-- 'nadirlaw15.TermsFinish': WHATEVER THE INPUT: true; the input reads as it did. -/
def termsFinishSpec : ChangeSpec := { name := "termsFinish", fn := fun _ => fun
  | [d1, d2, d3] => { results := [.lit (.bool true)], args := [d1, d2, d3] }
  | _ => none }
def termsFinishRow : OpenClaim := { program := "ytdaghncicimipaagreatdoor", sum := "901fa5a1541b5402e8bdce9c42f2ea6b2d7b749f387c8dc0c8af1059568b4137", func := "nadir/nadirlaw15.TermsFinish", spec := "termsFinish", unfollowed := true, recurses := true, named := ["math/bits.deBruijn32tab", "math/bits.deBruijn64tab"], apart := false, laid := [("math/bits.deBruijn32tab", laid_math_bits_deBruijn32tab), ("math/bits.deBruijn64tab", laid_math_bits_deBruijn64tab)] }
def TermsFinishSaid : Prop := termsFinishRow.holds Tryz.pinned (OpenSpec.ofChange termsFinishSpec)

/-- ITS FALSE NEIGHBOUR: 'it returns false'. Refute it at one input. -/
def termsFinishWrong : ChangeSpec := { name := "termsFinish", fn := fun _ => fun
  | [d1, d2, d3] => { results := [.lit (.bool false)], args := [d1, d2, d3] }
  | _ => none }
def TermsFinishWrongFalsely : Prop := termsFinishRow.holds Tryz.pinned (OpenSpec.ofChange termsFinishWrong)

/-- 'nadirlaw15.TermsDoom': WHATEVER THE INPUT: true; the input reads as it did. -/
def termsDoomSpec : ChangeSpec := { name := "termsDoom", fn := fun _ => fun
  | [d1, d2, d3, d4] => { results := [.lit (.bool true)], args := [d1, d2, d3, d4] }
  | _ => none }
def termsDoomRow : OpenClaim := { program := "ytdaghncicimipaagreatdoor", sum := "901fa5a1541b5402e8bdce9c42f2ea6b2d7b749f387c8dc0c8af1059568b4137", func := "nadir/nadirlaw15.TermsDoom", spec := "termsDoom", unfollowed := true, recurses := true, named := ["math/bits.deBruijn32tab", "math/bits.deBruijn64tab"], apart := false, laid := [("math/bits.deBruijn32tab", laid_math_bits_deBruijn32tab), ("math/bits.deBruijn64tab", laid_math_bits_deBruijn64tab)] }
def TermsDoomSaid : Prop := termsDoomRow.holds Tryz.pinned (OpenSpec.ofChange termsDoomSpec)

/-- ITS FALSE NEIGHBOUR: 'it returns false'. Refute it at one input. -/
def termsDoomWrong : ChangeSpec := { name := "termsDoom", fn := fun _ => fun
  | [d1, d2, d3, d4] => { results := [.lit (.bool false)], args := [d1, d2, d3, d4] }
  | _ => none }
def TermsDoomWrongFalsely : Prop := termsDoomRow.holds Tryz.pinned (OpenSpec.ofChange termsDoomWrong)

/-- 'nadirlaw15.TermsUses': WHATEVER THE INPUT: true; the input reads as it did. -/
def termsUsesSpec : ChangeSpec := { name := "termsUses", fn := fun _ => fun
  | [d] => { results := [.lit (.bool true)], args := [d] }
  | _ => none }
def termsUsesRow : OpenClaim := { program := "ytdaghncicimipaagreatdoor", sum := "901fa5a1541b5402e8bdce9c42f2ea6b2d7b749f387c8dc0c8af1059568b4137", func := "nadir/nadirlaw15.TermsUses", spec := "termsUses", unfollowed := true, recurses := true, named := ["math/bits.deBruijn32tab", "math/bits.deBruijn64tab"], apart := false, laid := [("math/bits.deBruijn32tab", laid_math_bits_deBruijn32tab), ("math/bits.deBruijn64tab", laid_math_bits_deBruijn64tab)] }
def TermsUsesSaid : Prop := termsUsesRow.holds Tryz.pinned (OpenSpec.ofChange termsUsesSpec)

/-- ITS FALSE NEIGHBOUR: 'it returns false'. Refute it at one input. -/
def termsUsesWrong : ChangeSpec := { name := "termsUses", fn := fun _ => fun
  | [d] => { results := [.lit (.bool false)], args := [d] }
  | _ => none }
def TermsUsesWrongFalsely : Prop := termsUsesRow.holds Tryz.pinned (OpenSpec.ofChange termsUsesWrong)

/- THE SECOND FORM. 'bulk': how many values and letters a reading holds, each counted each time it is reached (what is shared counts as often as it is met; a slice's spare places count too). A statement '..UptoSaid' is the law's where the arguments, and the package variables that the reading takes, are together of bulk at most 1048576: NARROWER than '..Said'. Prove '..Said' where nothing that the law and all that it calls make is longer than what came in: it says more and counts as full. Else prove '..UptoSaid'. A law counts once. -/
mutual
def uptoBulk {H : Type} : DataW H → Nat
  | .lit (.string bytes) => bytes.length + 1
  | .lit _ => 1
  | .nil => 1
  | .ptr d => uptoBulk d + 1
  | .slice elems spare => uptoBulkAll elems + uptoBulkAll spare + 1
  | .agg parts => uptoBulkAll parts + 1
  | .iface _ d => uptoBulk d + 1
  | .map entries => uptoBulkEntries entries + 1
  | .held _ => 1
def uptoBulkAll {H : Type} : List (DataW H) → Nat
  | [] => 0
  | d :: r => uptoBulk d + uptoBulkAll r
def uptoBulkEntries {H : Type} : List (Lit × DataW H) → Nat
  | [] => 0
  | x :: r => uptoBulkEntry x + uptoBulkEntries r
def uptoBulkEntry {H : Type} : Lit × DataW H → Nat
  | (.string bytes, d) => bytes.length + uptoBulk d + 1
  | (_, d) => uptoBulk d + 1
 end
def uptoSmall : (H : Type) → List (DataW H) → Bool := fun _ ds => decide (uptoBulkAll ds ≤ 1048576)
def OpenSpec.upto (s : _root_.Go.ChangeSpec) : _root_.Go.OpenSpec := { _root_.Go.OpenSpec.ofChange s with cond := some uptoSmall }

/-- 'nadirlaw15.TermsMatchesReference', WHERE WHAT IT READS IS OF BULK AT MOST 1048576: true; the input reads as it did. -/
def termsMatchesReferenceUptoRow : OpenClaim := { program := "ytdaghncicimipaagreatdoor", sum := "901fa5a1541b5402e8bdce9c42f2ea6b2d7b749f387c8dc0c8af1059568b4137", func := "nadir/nadirlaw15.TermsMatchesReference", spec := "termsMatchesReference", unfollowed := true, recurses := true, named := ["math/bits.deBruijn32tab", "math/bits.deBruijn64tab"], loops := true, apart := false, laid := [("math/bits.deBruijn32tab", laid_math_bits_deBruijn32tab), ("math/bits.deBruijn64tab", laid_math_bits_deBruijn64tab)], narrowed := true }
def TermsMatchesReferenceUptoSaid : Prop := termsMatchesReferenceUptoRow.holds Tryz.pinned (OpenSpec.upto termsMatchesReferenceSpec)

/-- 'nadirlaw15.TermsFutureMatchesReference', WHERE WHAT IT READS IS OF BULK AT MOST 1048576: true; the input reads as it did. -/
def termsFutureMatchesReferenceUptoRow : OpenClaim := { program := "ytdaghncicimipaagreatdoor", sum := "901fa5a1541b5402e8bdce9c42f2ea6b2d7b749f387c8dc0c8af1059568b4137", func := "nadir/nadirlaw15.TermsFutureMatchesReference", spec := "termsFutureMatchesReference", unfollowed := true, recurses := true, named := ["math/bits.deBruijn32tab", "math/bits.deBruijn64tab"], apart := false, laid := [("math/bits.deBruijn32tab", laid_math_bits_deBruijn32tab), ("math/bits.deBruijn64tab", laid_math_bits_deBruijn64tab)], narrowed := true }
def TermsFutureMatchesReferenceUptoSaid : Prop := termsFutureMatchesReferenceUptoRow.holds Tryz.pinned (OpenSpec.upto termsFutureMatchesReferenceSpec)

/-- 'nadirlaw15.TermsMore', WHERE WHAT IT READS IS OF BULK AT MOST 1048576: true; the input reads as it did. -/
def termsMoreUptoRow : OpenClaim := { program := "ytdaghncicimipaagreatdoor", sum := "901fa5a1541b5402e8bdce9c42f2ea6b2d7b749f387c8dc0c8af1059568b4137", func := "nadir/nadirlaw15.TermsMore", spec := "termsMore", unfollowed := true, recurses := true, named := ["math/bits.deBruijn32tab", "math/bits.deBruijn64tab"], apart := false, laid := [("math/bits.deBruijn32tab", laid_math_bits_deBruijn32tab), ("math/bits.deBruijn64tab", laid_math_bits_deBruijn64tab)], narrowed := true }
def TermsMoreUptoSaid : Prop := termsMoreUptoRow.holds Tryz.pinned (OpenSpec.upto termsMoreSpec)

/-- 'nadirlaw15.TermsFinish', WHERE WHAT IT READS IS OF BULK AT MOST 1048576: true; the input reads as it did. -/
def termsFinishUptoRow : OpenClaim := { program := "ytdaghncicimipaagreatdoor", sum := "901fa5a1541b5402e8bdce9c42f2ea6b2d7b749f387c8dc0c8af1059568b4137", func := "nadir/nadirlaw15.TermsFinish", spec := "termsFinish", unfollowed := true, recurses := true, named := ["math/bits.deBruijn32tab", "math/bits.deBruijn64tab"], apart := false, laid := [("math/bits.deBruijn32tab", laid_math_bits_deBruijn32tab), ("math/bits.deBruijn64tab", laid_math_bits_deBruijn64tab)], narrowed := true }
def TermsFinishUptoSaid : Prop := termsFinishUptoRow.holds Tryz.pinned (OpenSpec.upto termsFinishSpec)

/-- 'nadirlaw15.TermsDoom', WHERE WHAT IT READS IS OF BULK AT MOST 1048576: true; the input reads as it did. -/
def termsDoomUptoRow : OpenClaim := { program := "ytdaghncicimipaagreatdoor", sum := "901fa5a1541b5402e8bdce9c42f2ea6b2d7b749f387c8dc0c8af1059568b4137", func := "nadir/nadirlaw15.TermsDoom", spec := "termsDoom", unfollowed := true, recurses := true, named := ["math/bits.deBruijn32tab", "math/bits.deBruijn64tab"], apart := false, laid := [("math/bits.deBruijn32tab", laid_math_bits_deBruijn32tab), ("math/bits.deBruijn64tab", laid_math_bits_deBruijn64tab)], narrowed := true }
def TermsDoomUptoSaid : Prop := termsDoomUptoRow.holds Tryz.pinned (OpenSpec.upto termsDoomSpec)

/-- 'nadirlaw15.TermsUses', WHERE WHAT IT READS IS OF BULK AT MOST 1048576: true; the input reads as it did. -/
def termsUsesUptoRow : OpenClaim := { program := "ytdaghncicimipaagreatdoor", sum := "901fa5a1541b5402e8bdce9c42f2ea6b2d7b749f387c8dc0c8af1059568b4137", func := "nadir/nadirlaw15.TermsUses", spec := "termsUses", unfollowed := true, recurses := true, named := ["math/bits.deBruijn32tab", "math/bits.deBruijn64tab"], apart := false, laid := [("math/bits.deBruijn32tab", laid_math_bits_deBruijn32tab), ("math/bits.deBruijn64tab", laid_math_bits_deBruijn64tab)], narrowed := true }
def TermsUsesUptoSaid : Prop := termsUsesUptoRow.holds Tryz.pinned (OpenSpec.upto termsUsesSpec)

end Rows
end Go.Proofs.YtdaghncicimipaaGreatDoor
