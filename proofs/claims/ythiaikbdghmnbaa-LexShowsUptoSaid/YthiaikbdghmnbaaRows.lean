/-
  NARROWER THAN 'FOR EVERY INPUT', by the rows' own cells (each row's printed sentence says how): LexShows: loops.
  DERIVED. THE GIVEN ROWS OF THIS SEAT. 4 by the template 'for every input the law returns true; each argument reads behind the call as it read before'; 0 by the template 'total and deterministic' (their statements: YthiaikbdghmnbaaTotals.lean).
  GIVEN WITH THE SEED: the statements are not yours to turn. If you find one false, say at which input.
  Laid BY PROGRAM, IN A SANDBOX (cutbox-rows.mjs): the forced cells as the released guide's own fill.sh prints them over the translation 0fbabeeab3e29ed7… (all of the seat's roots in one cut). By AI agents, Wed Nov 11 2026. No macro, syntax, notation, axiom, sorry.
-/
import Derived.Test.YthiaikbdghmnbaaChecked
import GoSem.Claim
import GoSem.ClaimJoined
import GoSem.ClaimMapViews
import Derived.JoinedTies
import Derived.KernelRfl
namespace Go.Proofs.Ythiaikbdghmnbaa
/- THE CELL 'sum', in the pinned program and in every row, IS THE sha256 OF THE DUMP (.gsa) THAT YthiaikbdghmnbaaProg.lean LOADS. Nothing in Lean hashes anything: it is a label: what it is worth is what the hold of that sum in a sandbox is worth. -/
noncomputable def Try.pinned : Pinned := { name := "ythiaikbdghmnbaa", sum := "0fbabeeab3e29ed77038b5f5e852c01e176ce18be3850890e7229884886b6834", checked := Try.checked }
namespace Rows
def none {H : Type} : Left H := { results := [], args := [] }

/-- 'whetstonelaw13.LexParses': WHATEVER THE INPUT: true; the input reads as it did. -/
def lexParsesSpec : ChangeSpec := { name := "lexParses", fn := fun _ => fun
  | [d] => { results := [.lit (.bool true)], args := [d] }
  | _ => none }
def lexParsesRow : OpenClaim := { program := "ythiaikbdghmnbaa", sum := "0fbabeeab3e29ed77038b5f5e852c01e176ce18be3850890e7229884886b6834", func := "whetstone/whetstonelaw13.LexParses", spec := "lexParses", inPlace := ["internal/bytealg.IndexByteString"], unfollowed := true, recurses := true, apart := false }
def LexParsesSaid : Prop := lexParsesRow.holds Try.pinned (OpenSpec.ofChange lexParsesSpec)

/-- ITS FALSE NEIGHBOUR: 'it returns false'. Refute it at one input. -/
def lexParsesWrong : ChangeSpec := { name := "lexParses", fn := fun _ => fun
  | [d] => { results := [.lit (.bool false)], args := [d] }
  | _ => none }
def LexParsesWrongFalsely : Prop := lexParsesRow.holds Try.pinned (OpenSpec.ofChange lexParsesWrong)

/-- 'whetstonelaw13.LexRow': WHATEVER THE INPUT: true; the input reads as it did. -/
def lexRowSpec : ChangeSpec := { name := "lexRow", fn := fun _ => fun
  | [d1, d2] => { results := [.lit (.bool true)], args := [d1, d2] }
  | _ => none }
def lexRowRow : OpenClaim := { program := "ythiaikbdghmnbaa", sum := "0fbabeeab3e29ed77038b5f5e852c01e176ce18be3850890e7229884886b6834", func := "whetstone/whetstonelaw13.LexRow", spec := "lexRow", inPlace := ["internal/bytealg.IndexByteString"], unfollowed := true, recurses := true, apart := false }
def LexRowSaid : Prop := lexRowRow.holds Try.pinned (OpenSpec.ofChange lexRowSpec)

/-- ITS FALSE NEIGHBOUR: 'it returns false'. Refute it at one input. -/
def lexRowWrong : ChangeSpec := { name := "lexRow", fn := fun _ => fun
  | [d1, d2] => { results := [.lit (.bool false)], args := [d1, d2] }
  | _ => none }
def LexRowWrongFalsely : Prop := lexRowRow.holds Try.pinned (OpenSpec.ofChange lexRowWrong)

/-- 'whetstonelaw13.LexShows': WHATEVER THE INPUT: true; the input reads as it did. -/
def lexShowsSpec : ChangeSpec := { name := "lexShows", fn := fun _ => fun
  | [d] => { results := [.lit (.bool true)], args := [d] }
  | _ => none }
def lexShowsRow : OpenClaim := { program := "ythiaikbdghmnbaa", sum := "0fbabeeab3e29ed77038b5f5e852c01e176ce18be3850890e7229884886b6834", func := "whetstone/whetstonelaw13.LexShows", spec := "lexShows", inPlace := ["internal/bytealg.IndexByteString", "internal/abi.NoEscape"], unfollowed := true, recurses := true, loops := true, apart := false }
def LexShowsSaid : Prop := lexShowsRow.holds Try.pinned (OpenSpec.ofChange lexShowsSpec)

/-- ITS FALSE NEIGHBOUR: 'it returns false'. Refute it at one input. -/
def lexShowsWrong : ChangeSpec := { name := "lexShows", fn := fun _ => fun
  | [d] => { results := [.lit (.bool false)], args := [d] }
  | _ => none }
def LexShowsWrongFalsely : Prop := lexShowsRow.holds Try.pinned (OpenSpec.ofChange lexShowsWrong)

/-- 'whetstonelaw13.LexBack': WHATEVER THE INPUT: true; the input reads as it did. -/
def lexBackSpec : ChangeSpec := { name := "lexBack", fn := fun _ => fun
  | [d] => { results := [.lit (.bool true)], args := [d] }
  | _ => none }
def lexBackRow : OpenClaim := { program := "ythiaikbdghmnbaa", sum := "0fbabeeab3e29ed77038b5f5e852c01e176ce18be3850890e7229884886b6834", func := "whetstone/whetstonelaw13.LexBack", spec := "lexBack", inPlace := ["internal/bytealg.IndexByteString", "internal/abi.NoEscape"], unfollowed := true, recurses := true, apart := false }
def LexBackSaid : Prop := lexBackRow.holds Try.pinned (OpenSpec.ofChange lexBackSpec)

/-- ITS FALSE NEIGHBOUR: 'it returns false'. Refute it at one input. -/
def lexBackWrong : ChangeSpec := { name := "lexBack", fn := fun _ => fun
  | [d] => { results := [.lit (.bool false)], args := [d] }
  | _ => none }
def LexBackWrongFalsely : Prop := lexBackRow.holds Try.pinned (OpenSpec.ofChange lexBackWrong)

/- THE SECOND FORM. 'bulk': how many values and letters a reading holds, each counted each time it is reached (what is shared counts as often as it is met; a slice's spare places count too). A statement '..UptoSaid' is the law's where the arguments, and the package variables that the reading takes, are together of bulk at most 1048576: NARROWER than '..Said'. Prove '..Said' where nothing that the law and all that it calls make is longer than what came in: it says more and counts as full. Else prove '..UptoSaid'. A law counts once. -/
mutual
def uptoBulk {H : Type} : DataW H → Nat
  | .lit (.string bytes) => bytes.length + 1
  | .lit _ => 1
  | .nil => 1
  | .ptr d => uptoBulk d + 1
  | .slice elems spare => uptoBulkAll elems + uptoBulkAll spare + 1
  | .agg parts => uptoBulkAll parts + 1
  | .iface _ d => uptoBulk d + 1
  | .map entries => uptoBulkEntries entries + 1
  | .held _ => 1
def uptoBulkAll {H : Type} : List (DataW H) → Nat
  | [] => 0
  | d :: r => uptoBulk d + uptoBulkAll r
def uptoBulkEntries {H : Type} : List (Lit × DataW H) → Nat
  | [] => 0
  | x :: r => uptoBulkEntry x + uptoBulkEntries r
def uptoBulkEntry {H : Type} : Lit × DataW H → Nat
  | (.string bytes, d) => bytes.length + uptoBulk d + 1
  | (_, d) => uptoBulk d + 1
 end
def uptoSmall : (H : Type) → List (DataW H) → Bool := fun _ ds => decide (uptoBulkAll ds ≤ 1048576)
def OpenSpec.upto (s : _root_.Go.ChangeSpec) : _root_.Go.OpenSpec := { _root_.Go.OpenSpec.ofChange s with cond := some uptoSmall }

/-- 'whetstonelaw13.LexParses', WHERE WHAT IT READS IS OF BULK AT MOST 1048576: true; the input reads as it did. -/
def lexParsesUptoRow : OpenClaim := { program := "ythiaikbdghmnbaa", sum := "0fbabeeab3e29ed77038b5f5e852c01e176ce18be3850890e7229884886b6834", func := "whetstone/whetstonelaw13.LexParses", spec := "lexParses", inPlace := ["internal/bytealg.IndexByteString"], unfollowed := true, recurses := true, apart := false, narrowed := true }
def LexParsesUptoSaid : Prop := lexParsesUptoRow.holds Try.pinned (OpenSpec.upto lexParsesSpec)

/-- 'whetstonelaw13.LexRow', WHERE WHAT IT READS IS OF BULK AT MOST 1048576: true; the input reads as it did. -/
def lexRowUptoRow : OpenClaim := { program := "ythiaikbdghmnbaa", sum := "0fbabeeab3e29ed77038b5f5e852c01e176ce18be3850890e7229884886b6834", func := "whetstone/whetstonelaw13.LexRow", spec := "lexRow", inPlace := ["internal/bytealg.IndexByteString"], unfollowed := true, recurses := true, apart := false, narrowed := true }
def LexRowUptoSaid : Prop := lexRowUptoRow.holds Try.pinned (OpenSpec.upto lexRowSpec)

/-- 'whetstonelaw13.LexShows', WHERE WHAT IT READS IS OF BULK AT MOST 1048576: true; the input reads as it did. -/
def lexShowsUptoRow : OpenClaim := { program := "ythiaikbdghmnbaa", sum := "0fbabeeab3e29ed77038b5f5e852c01e176ce18be3850890e7229884886b6834", func := "whetstone/whetstonelaw13.LexShows", spec := "lexShows", inPlace := ["internal/bytealg.IndexByteString", "internal/abi.NoEscape"], unfollowed := true, recurses := true, loops := true, apart := false, narrowed := true }
def LexShowsUptoSaid : Prop := lexShowsUptoRow.holds Try.pinned (OpenSpec.upto lexShowsSpec)

/-- 'whetstonelaw13.LexBack', WHERE WHAT IT READS IS OF BULK AT MOST 1048576: true; the input reads as it did. -/
def lexBackUptoRow : OpenClaim := { program := "ythiaikbdghmnbaa", sum := "0fbabeeab3e29ed77038b5f5e852c01e176ce18be3850890e7229884886b6834", func := "whetstone/whetstonelaw13.LexBack", spec := "lexBack", inPlace := ["internal/bytealg.IndexByteString", "internal/abi.NoEscape"], unfollowed := true, recurses := true, apart := false, narrowed := true }
def LexBackUptoSaid : Prop := lexBackUptoRow.holds Try.pinned (OpenSpec.upto lexBackSpec)

end Rows
end Go.Proofs.Ythiaikbdghmnbaa
