/-
  NARROWER THAN 'FOR EVERY INPUT', by the rows' own cells (each row's printed sentence says how): CellarerWhen: laid · ManifestOrder: laid · ManifestGoes: laid · ManifestLists: laid.
  DERIVED. THE GIVEN ROWS OF THIS SEAT. 4 by the template 'for every input the law returns true; each argument reads behind the call as it read before'; 0 by the template 'total and deterministic' (their statements: YtlilkfnfcaepiaaGreatDoorTotals.lean).
  GIVEN WITH THE SEED: the statements are not yours to turn. If you find one false, say at which input.
  Laid BY PROGRAM, IN A SANDBOX (cutbox-rows.mjs): the forced cells as the released guide's own fill.sh prints them over the translation df191d2ccff20758… (all of the seat's roots in one cut). By AI agents, Wed Nov 11 2026. No macro, syntax, notation, axiom, sorry.
-/
import Derived.Test.YtlilkfnfcaepiaaGreatDoorChecked
import GoSem.PinnedTables
import GoSem.Claim
import GoSem.ClaimJoined
import GoSem.ClaimMapViews
import Derived.JoinedTies
import Derived.KernelRfl
namespace Go.Proofs.YtlilkfnfcaepiaaGreatDoor
/- THE CELL 'sum', in the pinned program and in every row, IS THE sha256 OF THE DUMP (.gsa) THAT YtlilkfnfcaepiaaGreatDoorProg.lean LOADS. Nothing in Lean hashes anything: it is a label: what it is worth is what the hold of that sum in a sandbox is worth. -/
noncomputable def Tryz.pinned : Pinned := { name := "ytlilkfnfcaepiaagreatdoor", sum := "df191d2ccff20758831416229204add7f8acde4ca11acf31fe839651e1041018", checked := Tryz.checked }
namespace Rows
def none {H : Type} : Left H := { results := [], args := [] }

/- WHAT THE LISTED PACKAGE-LEVEL VARIABLES READ AS WHEN THE CALL BEGINS. Each datum BY PROGRAM (the guide's laid-datum.mjs) off the statement by which the dump's own 'gosem.cut.vars' lays the variable. In a bare row this is a premise. The card (YtlilkfnfcaepiaaGreatDoorCards.lean) ties it to the program's text. -/
def laid_unicode_utf8_acceptRanges {H : Type} : DataW H := .agg [.agg [.lit (.int .u8 128), .lit (.int .u8 191)], .agg [.lit (.int .u8 160), .lit (.int .u8 191)], .agg [.lit (.int .u8 128), .lit (.int .u8 159)], .agg [.lit (.int .u8 144), .lit (.int .u8 191)], .agg [.lit (.int .u8 128), .lit (.int .u8 143)], .agg [.lit (.int .u8 0), .lit (.int .u8 0)], .agg [.lit (.int .u8 0), .lit (.int .u8 0)], .agg [.lit (.int .u8 0), .lit (.int .u8 0)], .agg [.lit (.int .u8 0), .lit (.int .u8 0)], .agg [.lit (.int .u8 0), .lit (.int .u8 0)], .agg [.lit (.int .u8 0), .lit (.int .u8 0)], .agg [.lit (.int .u8 0), .lit (.int .u8 0)], .agg [.lit (.int .u8 0), .lit (.int .u8 0)], .agg [.lit (.int .u8 0), .lit (.int .u8 0)], .agg [.lit (.int .u8 0), .lit (.int .u8 0)], .agg [.lit (.int .u8 0), .lit (.int .u8 0)]]
/-- One of Go's own tables, pinned by name: the form's constant. -/
def laid_unicode_utf8_first : DataW Unit := Go.Pinned.utf8First

/-- 'cellarertop.CellarerWhen': WHATEVER THE INPUT: true; the input reads as it did. -/
def cellarerWhenSpec : ChangeSpec := { name := "cellarerWhen", fn := fun _ => fun
  | [d] => { results := [.lit (.bool true)], args := [d] }
  | _ => none }
def cellarerWhenRow : OpenClaim := { program := "ytlilkfnfcaepiaagreatdoor", sum := "df191d2ccff20758831416229204add7f8acde4ca11acf31fe839651e1041018", func := "cellarer/cellarertop.CellarerWhen", spec := "cellarerWhen", inPlace := ["internal/abi.NoEscape", "internal/bytealg.MakeNoZero", "maps.clone", "internal/bytealg.abigen_runtime_cmpstring"], unfollowed := true, recurses := true, named := ["unicode/utf8.first", "unicode/utf8.acceptRanges"], apart := false, laid := [("unicode/utf8.acceptRanges", laid_unicode_utf8_acceptRanges), ("unicode/utf8.first", laid_unicode_utf8_first)] }
def CellarerWhenSaid : Prop := cellarerWhenRow.holds Tryz.pinned (OpenSpec.ofChange cellarerWhenSpec)

/-- ITS FALSE NEIGHBOUR: 'it returns false'. Refute it at one input. -/
def cellarerWhenWrong : ChangeSpec := { name := "cellarerWhen", fn := fun _ => fun
  | [d] => { results := [.lit (.bool false)], args := [d] }
  | _ => none }
def CellarerWhenWrongFalsely : Prop := cellarerWhenRow.holds Tryz.pinned (OpenSpec.ofChange cellarerWhenWrong)

/-- 'cellarerlaw19.ManifestOrder': WHATEVER THE INPUT: true; the input reads as it did. -/
def manifestOrderSpec : ChangeSpec := { name := "manifestOrder", fn := fun _ => fun
  | [d] => { results := [.lit (.bool true)], args := [d] }
  | _ => none }
def manifestOrderRow : OpenClaim := { program := "ytlilkfnfcaepiaagreatdoor", sum := "df191d2ccff20758831416229204add7f8acde4ca11acf31fe839651e1041018", func := "cellarer/cellarerlaw19.ManifestOrder", spec := "manifestOrder", inPlace := ["internal/abi.NoEscape", "internal/bytealg.MakeNoZero", "maps.clone", "internal/bytealg.abigen_runtime_cmpstring"], unfollowed := true, recurses := true, named := ["unicode/utf8.first", "unicode/utf8.acceptRanges"], apart := false, laid := [("unicode/utf8.acceptRanges", laid_unicode_utf8_acceptRanges), ("unicode/utf8.first", laid_unicode_utf8_first)] }
def ManifestOrderSaid : Prop := manifestOrderRow.holds Tryz.pinned (OpenSpec.ofChange manifestOrderSpec)

/-- ITS FALSE NEIGHBOUR: 'it returns false'. Refute it at one input. -/
def manifestOrderWrong : ChangeSpec := { name := "manifestOrder", fn := fun _ => fun
  | [d] => { results := [.lit (.bool false)], args := [d] }
  | _ => none }
def ManifestOrderWrongFalsely : Prop := manifestOrderRow.holds Tryz.pinned (OpenSpec.ofChange manifestOrderWrong)

/-- 'cellarerlaw19.ManifestGoes': WHATEVER THE INPUT: true; the input reads as it did. -/
def manifestGoesSpec : ChangeSpec := { name := "manifestGoes", fn := fun _ => fun
  | [d1, d2, d3] => { results := [.lit (.bool true)], args := [d1, d2, d3] }
  | _ => none }
def manifestGoesRow : OpenClaim := { program := "ytlilkfnfcaepiaagreatdoor", sum := "df191d2ccff20758831416229204add7f8acde4ca11acf31fe839651e1041018", func := "cellarer/cellarerlaw19.ManifestGoes", spec := "manifestGoes", inPlace := ["internal/abi.NoEscape", "internal/bytealg.MakeNoZero", "maps.clone", "internal/bytealg.abigen_runtime_cmpstring"], unfollowed := true, recurses := true, named := ["unicode/utf8.first", "unicode/utf8.acceptRanges"], apart := false, laid := [("unicode/utf8.acceptRanges", laid_unicode_utf8_acceptRanges), ("unicode/utf8.first", laid_unicode_utf8_first)] }
def ManifestGoesSaid : Prop := manifestGoesRow.holds Tryz.pinned (OpenSpec.ofChange manifestGoesSpec)

/-- ITS FALSE NEIGHBOUR: 'it returns false'. Refute it at one input. -/
def manifestGoesWrong : ChangeSpec := { name := "manifestGoes", fn := fun _ => fun
  | [d1, d2, d3] => { results := [.lit (.bool false)], args := [d1, d2, d3] }
  | _ => none }
def ManifestGoesWrongFalsely : Prop := manifestGoesRow.holds Tryz.pinned (OpenSpec.ofChange manifestGoesWrong)

/-- 'cellarerlaw19.ManifestLists': WHATEVER THE INPUT: true; the input reads as it did. -/
def manifestListsSpec : ChangeSpec := { name := "manifestLists", fn := fun _ => fun
  | [d1, d2, d3] => { results := [.lit (.bool true)], args := [d1, d2, d3] }
  | _ => none }
def manifestListsRow : OpenClaim := { program := "ytlilkfnfcaepiaagreatdoor", sum := "df191d2ccff20758831416229204add7f8acde4ca11acf31fe839651e1041018", func := "cellarer/cellarerlaw19.ManifestLists", spec := "manifestLists", inPlace := ["internal/abi.NoEscape", "internal/bytealg.MakeNoZero", "maps.clone", "internal/bytealg.abigen_runtime_cmpstring"], unfollowed := true, recurses := true, named := ["unicode/utf8.first", "unicode/utf8.acceptRanges"], apart := false, laid := [("unicode/utf8.acceptRanges", laid_unicode_utf8_acceptRanges), ("unicode/utf8.first", laid_unicode_utf8_first)] }
def ManifestListsSaid : Prop := manifestListsRow.holds Tryz.pinned (OpenSpec.ofChange manifestListsSpec)

/-- ITS FALSE NEIGHBOUR: 'it returns false'. Refute it at one input. -/
def manifestListsWrong : ChangeSpec := { name := "manifestLists", fn := fun _ => fun
  | [d1, d2, d3] => { results := [.lit (.bool false)], args := [d1, d2, d3] }
  | _ => none }
def ManifestListsWrongFalsely : Prop := manifestListsRow.holds Tryz.pinned (OpenSpec.ofChange manifestListsWrong)

/- THE SECOND FORM. 'bulk': how many values and letters a reading holds, each counted each time it is reached (what is shared counts as often as it is met; a slice's spare places count too). A statement '..UptoSaid' is the law's where the arguments, and the package variables that the reading takes, are together of bulk at most 1048576: NARROWER than '..Said'. Prove '..Said' where nothing that the law and all that it calls make is longer than what came in: it says more and counts as full. Else prove '..UptoSaid'. A law counts once. -/
mutual
def uptoBulk {H : Type} : DataW H → Nat
  | .lit (.string bytes) => bytes.length + 1
  | .lit _ => 1
  | .nil => 1
  | .ptr d => uptoBulk d + 1
  | .slice elems spare => uptoBulkAll elems + uptoBulkAll spare + 1
  | .agg parts => uptoBulkAll parts + 1
  | .iface _ d => uptoBulk d + 1
  | .map entries => uptoBulkEntries entries + 1
  | .held _ => 1
def uptoBulkAll {H : Type} : List (DataW H) → Nat
  | [] => 0
  | d :: r => uptoBulk d + uptoBulkAll r
def uptoBulkEntries {H : Type} : List (Lit × DataW H) → Nat
  | [] => 0
  | x :: r => uptoBulkEntry x + uptoBulkEntries r
def uptoBulkEntry {H : Type} : Lit × DataW H → Nat
  | (.string bytes, d) => bytes.length + uptoBulk d + 1
  | (_, d) => uptoBulk d + 1
 end
def uptoSmall : (H : Type) → List (DataW H) → Bool := fun _ ds => decide (uptoBulkAll ds ≤ 1048576)
def OpenSpec.upto (s : _root_.Go.ChangeSpec) : _root_.Go.OpenSpec := { _root_.Go.OpenSpec.ofChange s with cond := some uptoSmall }

/-- 'cellarertop.CellarerWhen', WHERE WHAT IT READS IS OF BULK AT MOST 1048576: true; the input reads as it did. -/
def cellarerWhenUptoRow : OpenClaim := { program := "ytlilkfnfcaepiaagreatdoor", sum := "df191d2ccff20758831416229204add7f8acde4ca11acf31fe839651e1041018", func := "cellarer/cellarertop.CellarerWhen", spec := "cellarerWhen", inPlace := ["internal/abi.NoEscape", "internal/bytealg.MakeNoZero", "maps.clone", "internal/bytealg.abigen_runtime_cmpstring"], unfollowed := true, recurses := true, named := ["unicode/utf8.first", "unicode/utf8.acceptRanges"], apart := false, laid := [("unicode/utf8.acceptRanges", laid_unicode_utf8_acceptRanges), ("unicode/utf8.first", laid_unicode_utf8_first)], narrowed := true }
def CellarerWhenUptoSaid : Prop := cellarerWhenUptoRow.holds Tryz.pinned (OpenSpec.upto cellarerWhenSpec)

/-- 'cellarerlaw19.ManifestOrder', WHERE WHAT IT READS IS OF BULK AT MOST 1048576: true; the input reads as it did. -/
def manifestOrderUptoRow : OpenClaim := { program := "ytlilkfnfcaepiaagreatdoor", sum := "df191d2ccff20758831416229204add7f8acde4ca11acf31fe839651e1041018", func := "cellarer/cellarerlaw19.ManifestOrder", spec := "manifestOrder", inPlace := ["internal/abi.NoEscape", "internal/bytealg.MakeNoZero", "maps.clone", "internal/bytealg.abigen_runtime_cmpstring"], unfollowed := true, recurses := true, named := ["unicode/utf8.first", "unicode/utf8.acceptRanges"], apart := false, laid := [("unicode/utf8.acceptRanges", laid_unicode_utf8_acceptRanges), ("unicode/utf8.first", laid_unicode_utf8_first)], narrowed := true }
def ManifestOrderUptoSaid : Prop := manifestOrderUptoRow.holds Tryz.pinned (OpenSpec.upto manifestOrderSpec)

/-- 'cellarerlaw19.ManifestGoes', WHERE WHAT IT READS IS OF BULK AT MOST 1048576: true; the input reads as it did. -/
def manifestGoesUptoRow : OpenClaim := { program := "ytlilkfnfcaepiaagreatdoor", sum := "df191d2ccff20758831416229204add7f8acde4ca11acf31fe839651e1041018", func := "cellarer/cellarerlaw19.ManifestGoes", spec := "manifestGoes", inPlace := ["internal/abi.NoEscape", "internal/bytealg.MakeNoZero", "maps.clone", "internal/bytealg.abigen_runtime_cmpstring"], unfollowed := true, recurses := true, named := ["unicode/utf8.first", "unicode/utf8.acceptRanges"], apart := false, laid := [("unicode/utf8.acceptRanges", laid_unicode_utf8_acceptRanges), ("unicode/utf8.first", laid_unicode_utf8_first)], narrowed := true }
def ManifestGoesUptoSaid : Prop := manifestGoesUptoRow.holds Tryz.pinned (OpenSpec.upto manifestGoesSpec)

/-- 'cellarerlaw19.ManifestLists', WHERE WHAT IT READS IS OF BULK AT MOST 1048576: true; the input reads as it did. -/
def manifestListsUptoRow : OpenClaim := { program := "ytlilkfnfcaepiaagreatdoor", sum := "df191d2ccff20758831416229204add7f8acde4ca11acf31fe839651e1041018", func := "cellarer/cellarerlaw19.ManifestLists", spec := "manifestLists", inPlace := ["internal/abi.NoEscape", "internal/bytealg.MakeNoZero", "maps.clone", "internal/bytealg.abigen_runtime_cmpstring"], unfollowed := true, recurses := true, named := ["unicode/utf8.first", "unicode/utf8.acceptRanges"], apart := false, laid := [("unicode/utf8.acceptRanges", laid_unicode_utf8_acceptRanges), ("unicode/utf8.first", laid_unicode_utf8_first)], narrowed := true }
def ManifestListsUptoSaid : Prop := manifestListsUptoRow.holds Tryz.pinned (OpenSpec.upto manifestListsSpec)

end Rows
end Go.Proofs.YtlilkfnfcaepiaaGreatDoor
