/-
  No cell of these rows narrows 'for every input' (looked for: loops, veiled, ifaces, maps, wideKeys, modest, calm, conditions, laid).
  DERIVED. THE GIVEN ROWS OF THIS SEAT. 12 by the template 'for every input the law returns true; each argument reads behind the call as it read before'; 0 by the template 'total and deterministic' (their statements: YtmicdinibeddmaaTotals.lean).
  GIVEN WITH THE SEED: the statements are not yours to turn. If you find one false, say at which input.
  Laid BY PROGRAM, IN A SANDBOX (cutbox-rows.mjs): the forced cells as the released guide's own fill.sh prints them over the translation 0847ce3ce83168cf… (all of the seat's roots in one cut). By AI agents, Wed Nov 11 2026. No macro, syntax, notation, axiom, sorry.
-/
import Derived.Test.YtmicdinibeddmaaChecked
import GoSem.Claim
import GoSem.ClaimJoined
import GoSem.ClaimMapViews
import Derived.JoinedTies
import Derived.KernelRfl
namespace Go.Proofs.Ytmicdinibeddmaa
/- THE CELL 'sum', in the pinned program and in every row, IS THE sha256 OF THE DUMP (.gsa) THAT YtmicdinibeddmaaProg.lean LOADS. Nothing in Lean hashes anything: it is a label: what it is worth is what the hold of that sum in a sandbox is worth. -/
noncomputable def Try.pinned : Pinned := { name := "ytmicdinibeddmaa", sum := "0847ce3ce83168cfe560453f81563489801f4fc935a90804457743d00a7feb53", checked := Try.checked }
namespace Rows
def none {H : Type} : Left H := { results := [], args := [] }

/-- 'garrisonlaw08.HandleWords': WHATEVER THE INPUT: true; the input reads as it did. -/
def handleWordsSpec : ChangeSpec := { name := "handleWords", fn := fun _ => fun
  | [d1, d2, d3] => { results := [.lit (.bool true)], args := [d1, d2, d3] }
  | _ => none }
def handleWordsRow : OpenClaim := { program := "ytmicdinibeddmaa", sum := "0847ce3ce83168cfe560453f81563489801f4fc935a90804457743d00a7feb53", func := "garrison/garrisonlaw08.HandleWords", spec := "handleWords", apart := false }
def HandleWordsSaid : Prop := handleWordsRow.holds Try.pinned (OpenSpec.ofChange handleWordsSpec)

/-- ITS FALSE NEIGHBOUR: 'it returns false'. Refute it at one input. -/
def handleWordsWrong : ChangeSpec := { name := "handleWords", fn := fun _ => fun
  | [d1, d2, d3] => { results := [.lit (.bool false)], args := [d1, d2, d3] }
  | _ => none }
def HandleWordsWrongFalsely : Prop := handleWordsRow.holds Try.pinned (OpenSpec.ofChange handleWordsWrong)

/-- 'garrisonlaw08.HandleBack': WHATEVER THE INPUT: true; the input reads as it did. -/
def handleBackSpec : ChangeSpec := { name := "handleBack", fn := fun _ => fun
  | [d1, d2, d3, d4, d5] => { results := [.lit (.bool true)], args := [d1, d2, d3, d4, d5] }
  | _ => none }
def handleBackRow : OpenClaim := { program := "ytmicdinibeddmaa", sum := "0847ce3ce83168cfe560453f81563489801f4fc935a90804457743d00a7feb53", func := "garrison/garrisonlaw08.HandleBack", spec := "handleBack", apart := false }
def HandleBackSaid : Prop := handleBackRow.holds Try.pinned (OpenSpec.ofChange handleBackSpec)

/-- ITS FALSE NEIGHBOUR: 'it returns false'. Refute it at one input. -/
def handleBackWrong : ChangeSpec := { name := "handleBack", fn := fun _ => fun
  | [d1, d2, d3, d4, d5] => { results := [.lit (.bool false)], args := [d1, d2, d3, d4, d5] }
  | _ => none }
def HandleBackWrongFalsely : Prop := handleBackRow.holds Try.pinned (OpenSpec.ofChange handleBackWrong)

/-- 'garrisonlaw02.RightsMany': WHATEVER THE INPUT: true; the input reads as it did. -/
def rightsManySpec : ChangeSpec := { name := "rightsMany", fn := fun _ => fun
  | [d1, d2] => { results := [.lit (.bool true)], args := [d1, d2] }
  | _ => none }
def rightsManyRow : OpenClaim := { program := "ytmicdinibeddmaa", sum := "0847ce3ce83168cfe560453f81563489801f4fc935a90804457743d00a7feb53", func := "garrison/garrisonlaw02.RightsMany", spec := "rightsMany", unfollowed := true, recurses := true, apart := false }
def RightsManySaid : Prop := rightsManyRow.holds Try.pinned (OpenSpec.ofChange rightsManySpec)

/-- ITS FALSE NEIGHBOUR: 'it returns false'. Refute it at one input. -/
def rightsManyWrong : ChangeSpec := { name := "rightsMany", fn := fun _ => fun
  | [d1, d2] => { results := [.lit (.bool false)], args := [d1, d2] }
  | _ => none }
def RightsManyWrongFalsely : Prop := rightsManyRow.holds Try.pinned (OpenSpec.ofChange rightsManyWrong)

/-- 'garrisonlaw02.RightsChain': WHATEVER THE INPUT: true; the input reads as it did. -/
def rightsChainSpec : ChangeSpec := { name := "rightsChain", fn := fun _ => fun
  | [d1, d2, d3] => { results := [.lit (.bool true)], args := [d1, d2, d3] }
  | _ => none }
def rightsChainRow : OpenClaim := { program := "ytmicdinibeddmaa", sum := "0847ce3ce83168cfe560453f81563489801f4fc935a90804457743d00a7feb53", func := "garrison/garrisonlaw02.RightsChain", spec := "rightsChain", unfollowed := true, recurses := true, apart := false }
def RightsChainSaid : Prop := rightsChainRow.holds Try.pinned (OpenSpec.ofChange rightsChainSpec)

/-- ITS FALSE NEIGHBOUR: 'it returns false'. Refute it at one input. -/
def rightsChainWrong : ChangeSpec := { name := "rightsChain", fn := fun _ => fun
  | [d1, d2, d3] => { results := [.lit (.bool false)], args := [d1, d2, d3] }
  | _ => none }
def RightsChainWrongFalsely : Prop := rightsChainRow.holds Try.pinned (OpenSpec.ofChange rightsChainWrong)

/-- 'garrisonlaw08.HandleNever': WHATEVER THE INPUT: true; the input reads as it did. -/
def handleNeverSpec : ChangeSpec := { name := "handleNever", fn := fun _ => fun
  | [d1, d2, d3] => { results := [.lit (.bool true)], args := [d1, d2, d3] }
  | _ => none }
def handleNeverRow : OpenClaim := { program := "ytmicdinibeddmaa", sum := "0847ce3ce83168cfe560453f81563489801f4fc935a90804457743d00a7feb53", func := "garrison/garrisonlaw08.HandleNever", spec := "handleNever", apart := false }
def HandleNeverSaid : Prop := handleNeverRow.holds Try.pinned (OpenSpec.ofChange handleNeverSpec)

/-- ITS FALSE NEIGHBOUR: 'it returns false'. Refute it at one input. -/
def handleNeverWrong : ChangeSpec := { name := "handleNever", fn := fun _ => fun
  | [d1, d2, d3] => { results := [.lit (.bool false)], args := [d1, d2, d3] }
  | _ => none }
def HandleNeverWrongFalsely : Prop := handleNeverRow.holds Try.pinned (OpenSpec.ofChange handleNeverWrong)

/-- 'garrisonlaw08.HandleRetires': WHATEVER THE INPUT: true; the input reads as it did. -/
def handleRetiresSpec : ChangeSpec := { name := "handleRetires", fn := fun _ => fun
  | [d] => { results := [.lit (.bool true)], args := [d] }
  | _ => none }
def handleRetiresRow : OpenClaim := { program := "ytmicdinibeddmaa", sum := "0847ce3ce83168cfe560453f81563489801f4fc935a90804457743d00a7feb53", func := "garrison/garrisonlaw08.HandleRetires", spec := "handleRetires", apart := false }
def HandleRetiresSaid : Prop := handleRetiresRow.holds Try.pinned (OpenSpec.ofChange handleRetiresSpec)

/-- ITS FALSE NEIGHBOUR: 'it returns false'. Refute it at one input. -/
def handleRetiresWrong : ChangeSpec := { name := "handleRetires", fn := fun _ => fun
  | [d] => { results := [.lit (.bool false)], args := [d] }
  | _ => none }
def HandleRetiresWrongFalsely : Prop := handleRetiresRow.holds Try.pinned (OpenSpec.ofChange handleRetiresWrong)

/-- 'garrisonlaw08.HandleOnly': WHATEVER THE INPUT: true; the input reads as it did. -/
def handleOnlySpec : ChangeSpec := { name := "handleOnly", fn := fun _ => fun
  | [d1, d2] => { results := [.lit (.bool true)], args := [d1, d2] }
  | _ => none }
def handleOnlyRow : OpenClaim := { program := "ytmicdinibeddmaa", sum := "0847ce3ce83168cfe560453f81563489801f4fc935a90804457743d00a7feb53", func := "garrison/garrisonlaw08.HandleOnly", spec := "handleOnly", apart := false }
def HandleOnlySaid : Prop := handleOnlyRow.holds Try.pinned (OpenSpec.ofChange handleOnlySpec)

/-- ITS FALSE NEIGHBOUR: 'it returns false'. Refute it at one input. -/
def handleOnlyWrong : ChangeSpec := { name := "handleOnly", fn := fun _ => fun
  | [d1, d2] => { results := [.lit (.bool false)], args := [d1, d2] }
  | _ => none }
def HandleOnlyWrongFalsely : Prop := handleOnlyRow.holds Try.pinned (OpenSpec.ofChange handleOnlyWrong)

/-- 'garrisonlaw02.RightsTells': WHATEVER THE INPUT: true; the input reads as it did. -/
def rightsTellsSpec : ChangeSpec := { name := "rightsTells", fn := fun _ => fun
  | [d1, d2, d3] => { results := [.lit (.bool true)], args := [d1, d2, d3] }
  | _ => none }
def rightsTellsRow : OpenClaim := { program := "ytmicdinibeddmaa", sum := "0847ce3ce83168cfe560453f81563489801f4fc935a90804457743d00a7feb53", func := "garrison/garrisonlaw02.RightsTells", spec := "rightsTells", unfollowed := true, recurses := true, apart := false }
def RightsTellsSaid : Prop := rightsTellsRow.holds Try.pinned (OpenSpec.ofChange rightsTellsSpec)

/-- ITS FALSE NEIGHBOUR: 'it returns false'. Refute it at one input. -/
def rightsTellsWrong : ChangeSpec := { name := "rightsTells", fn := fun _ => fun
  | [d1, d2, d3] => { results := [.lit (.bool false)], args := [d1, d2, d3] }
  | _ => none }
def RightsTellsWrongFalsely : Prop := rightsTellsRow.holds Try.pinned (OpenSpec.ofChange rightsTellsWrong)

/-- 'garrisonlaw02.RightsMeets': WHATEVER THE INPUT: true; the input reads as it did. -/
def rightsMeetsSpec : ChangeSpec := { name := "rightsMeets", fn := fun _ => fun
  | [d1, d2, d3] => { results := [.lit (.bool true)], args := [d1, d2, d3] }
  | _ => none }
def rightsMeetsRow : OpenClaim := { program := "ytmicdinibeddmaa", sum := "0847ce3ce83168cfe560453f81563489801f4fc935a90804457743d00a7feb53", func := "garrison/garrisonlaw02.RightsMeets", spec := "rightsMeets", unfollowed := true, recurses := true, apart := false }
def RightsMeetsSaid : Prop := rightsMeetsRow.holds Try.pinned (OpenSpec.ofChange rightsMeetsSpec)

/-- ITS FALSE NEIGHBOUR: 'it returns false'. Refute it at one input. -/
def rightsMeetsWrong : ChangeSpec := { name := "rightsMeets", fn := fun _ => fun
  | [d1, d2, d3] => { results := [.lit (.bool false)], args := [d1, d2, d3] }
  | _ => none }
def RightsMeetsWrongFalsely : Prop := rightsMeetsRow.holds Try.pinned (OpenSpec.ofChange rightsMeetsWrong)

/-- 'garrisonlaw02.RightsOrder': WHATEVER THE INPUT: true; the input reads as it did. -/
def rightsOrderSpec : ChangeSpec := { name := "rightsOrder", fn := fun _ => fun
  | [d1, d2, d3] => { results := [.lit (.bool true)], args := [d1, d2, d3] }
  | _ => none }
def rightsOrderRow : OpenClaim := { program := "ytmicdinibeddmaa", sum := "0847ce3ce83168cfe560453f81563489801f4fc935a90804457743d00a7feb53", func := "garrison/garrisonlaw02.RightsOrder", spec := "rightsOrder", unfollowed := true, recurses := true, apart := false }
def RightsOrderSaid : Prop := rightsOrderRow.holds Try.pinned (OpenSpec.ofChange rightsOrderSpec)

/-- ITS FALSE NEIGHBOUR: 'it returns false'. Refute it at one input. -/
def rightsOrderWrong : ChangeSpec := { name := "rightsOrder", fn := fun _ => fun
  | [d1, d2, d3] => { results := [.lit (.bool false)], args := [d1, d2, d3] }
  | _ => none }
def RightsOrderWrongFalsely : Prop := rightsOrderRow.holds Try.pinned (OpenSpec.ofChange rightsOrderWrong)

/-- 'garrisonlaw02.RightsLess': WHATEVER THE INPUT: true; the input reads as it did. -/
def rightsLessSpec : ChangeSpec := { name := "rightsLess", fn := fun _ => fun
  | [d1, d2] => { results := [.lit (.bool true)], args := [d1, d2] }
  | _ => none }
def rightsLessRow : OpenClaim := { program := "ytmicdinibeddmaa", sum := "0847ce3ce83168cfe560453f81563489801f4fc935a90804457743d00a7feb53", func := "garrison/garrisonlaw02.RightsLess", spec := "rightsLess", unfollowed := true, recurses := true, apart := false }
def RightsLessSaid : Prop := rightsLessRow.holds Try.pinned (OpenSpec.ofChange rightsLessSpec)

/-- ITS FALSE NEIGHBOUR: 'it returns false'. Refute it at one input. -/
def rightsLessWrong : ChangeSpec := { name := "rightsLess", fn := fun _ => fun
  | [d1, d2] => { results := [.lit (.bool false)], args := [d1, d2] }
  | _ => none }
def RightsLessWrongFalsely : Prop := rightsLessRow.holds Try.pinned (OpenSpec.ofChange rightsLessWrong)

/-- 'garrisonlaw02.RightsBack': WHATEVER THE INPUT: true; the input reads as it did. -/
def rightsBackSpec : ChangeSpec := { name := "rightsBack", fn := fun _ => fun
  | [d1, d2] => { results := [.lit (.bool true)], args := [d1, d2] }
  | _ => none }
def rightsBackRow : OpenClaim := { program := "ytmicdinibeddmaa", sum := "0847ce3ce83168cfe560453f81563489801f4fc935a90804457743d00a7feb53", func := "garrison/garrisonlaw02.RightsBack", spec := "rightsBack", unfollowed := true, recurses := true, apart := false }
def RightsBackSaid : Prop := rightsBackRow.holds Try.pinned (OpenSpec.ofChange rightsBackSpec)

/-- ITS FALSE NEIGHBOUR: 'it returns false'. Refute it at one input. -/
def rightsBackWrong : ChangeSpec := { name := "rightsBack", fn := fun _ => fun
  | [d1, d2] => { results := [.lit (.bool false)], args := [d1, d2] }
  | _ => none }
def RightsBackWrongFalsely : Prop := rightsBackRow.holds Try.pinned (OpenSpec.ofChange rightsBackWrong)

/- THE SECOND FORM. 'bulk': how many values and letters a reading holds, each counted each time it is reached (what is shared counts as often as it is met; a slice's spare places count too). A statement '..UptoSaid' is the law's where the arguments, and the package variables that the reading takes, are together of bulk at most 1048576: NARROWER than '..Said'. Prove '..Said' where nothing that the law and all that it calls make is longer than what came in: it says more and counts as full. Else prove '..UptoSaid'. A law counts once. -/
mutual
def uptoBulk {H : Type} : DataW H → Nat
  | .lit (.string bytes) => bytes.length + 1
  | .lit _ => 1
  | .nil => 1
  | .ptr d => uptoBulk d + 1
  | .slice elems spare => uptoBulkAll elems + uptoBulkAll spare + 1
  | .agg parts => uptoBulkAll parts + 1
  | .iface _ d => uptoBulk d + 1
  | .map entries => uptoBulkEntries entries + 1
  | .held _ => 1
def uptoBulkAll {H : Type} : List (DataW H) → Nat
  | [] => 0
  | d :: r => uptoBulk d + uptoBulkAll r
def uptoBulkEntries {H : Type} : List (Lit × DataW H) → Nat
  | [] => 0
  | x :: r => uptoBulkEntry x + uptoBulkEntries r
def uptoBulkEntry {H : Type} : Lit × DataW H → Nat
  | (.string bytes, d) => bytes.length + uptoBulk d + 1
  | (_, d) => uptoBulk d + 1
 end
def uptoSmall : (H : Type) → List (DataW H) → Bool := fun _ ds => decide (uptoBulkAll ds ≤ 1048576)
def OpenSpec.upto (s : _root_.Go.ChangeSpec) : _root_.Go.OpenSpec := { _root_.Go.OpenSpec.ofChange s with cond := some uptoSmall }

/-- 'garrisonlaw08.HandleWords', WHERE WHAT IT READS IS OF BULK AT MOST 1048576: true; the input reads as it did. -/
def handleWordsUptoRow : OpenClaim := { program := "ytmicdinibeddmaa", sum := "0847ce3ce83168cfe560453f81563489801f4fc935a90804457743d00a7feb53", func := "garrison/garrisonlaw08.HandleWords", spec := "handleWords", apart := false, narrowed := true }
def HandleWordsUptoSaid : Prop := handleWordsUptoRow.holds Try.pinned (OpenSpec.upto handleWordsSpec)

/-- 'garrisonlaw08.HandleBack', WHERE WHAT IT READS IS OF BULK AT MOST 1048576: true; the input reads as it did. -/
def handleBackUptoRow : OpenClaim := { program := "ytmicdinibeddmaa", sum := "0847ce3ce83168cfe560453f81563489801f4fc935a90804457743d00a7feb53", func := "garrison/garrisonlaw08.HandleBack", spec := "handleBack", apart := false, narrowed := true }
def HandleBackUptoSaid : Prop := handleBackUptoRow.holds Try.pinned (OpenSpec.upto handleBackSpec)

/-- 'garrisonlaw02.RightsMany', WHERE WHAT IT READS IS OF BULK AT MOST 1048576: true; the input reads as it did. -/
def rightsManyUptoRow : OpenClaim := { program := "ytmicdinibeddmaa", sum := "0847ce3ce83168cfe560453f81563489801f4fc935a90804457743d00a7feb53", func := "garrison/garrisonlaw02.RightsMany", spec := "rightsMany", unfollowed := true, recurses := true, apart := false, narrowed := true }
def RightsManyUptoSaid : Prop := rightsManyUptoRow.holds Try.pinned (OpenSpec.upto rightsManySpec)

/-- 'garrisonlaw02.RightsChain', WHERE WHAT IT READS IS OF BULK AT MOST 1048576: true; the input reads as it did. -/
def rightsChainUptoRow : OpenClaim := { program := "ytmicdinibeddmaa", sum := "0847ce3ce83168cfe560453f81563489801f4fc935a90804457743d00a7feb53", func := "garrison/garrisonlaw02.RightsChain", spec := "rightsChain", unfollowed := true, recurses := true, apart := false, narrowed := true }
def RightsChainUptoSaid : Prop := rightsChainUptoRow.holds Try.pinned (OpenSpec.upto rightsChainSpec)

/-- 'garrisonlaw08.HandleNever', WHERE WHAT IT READS IS OF BULK AT MOST 1048576: true; the input reads as it did. -/
def handleNeverUptoRow : OpenClaim := { program := "ytmicdinibeddmaa", sum := "0847ce3ce83168cfe560453f81563489801f4fc935a90804457743d00a7feb53", func := "garrison/garrisonlaw08.HandleNever", spec := "handleNever", apart := false, narrowed := true }
def HandleNeverUptoSaid : Prop := handleNeverUptoRow.holds Try.pinned (OpenSpec.upto handleNeverSpec)

/-- 'garrisonlaw08.HandleRetires', WHERE WHAT IT READS IS OF BULK AT MOST 1048576: true; the input reads as it did. -/
def handleRetiresUptoRow : OpenClaim := { program := "ytmicdinibeddmaa", sum := "0847ce3ce83168cfe560453f81563489801f4fc935a90804457743d00a7feb53", func := "garrison/garrisonlaw08.HandleRetires", spec := "handleRetires", apart := false, narrowed := true }
def HandleRetiresUptoSaid : Prop := handleRetiresUptoRow.holds Try.pinned (OpenSpec.upto handleRetiresSpec)

/-- 'garrisonlaw08.HandleOnly', WHERE WHAT IT READS IS OF BULK AT MOST 1048576: true; the input reads as it did. -/
def handleOnlyUptoRow : OpenClaim := { program := "ytmicdinibeddmaa", sum := "0847ce3ce83168cfe560453f81563489801f4fc935a90804457743d00a7feb53", func := "garrison/garrisonlaw08.HandleOnly", spec := "handleOnly", apart := false, narrowed := true }
def HandleOnlyUptoSaid : Prop := handleOnlyUptoRow.holds Try.pinned (OpenSpec.upto handleOnlySpec)

/-- 'garrisonlaw02.RightsTells', WHERE WHAT IT READS IS OF BULK AT MOST 1048576: true; the input reads as it did. -/
def rightsTellsUptoRow : OpenClaim := { program := "ytmicdinibeddmaa", sum := "0847ce3ce83168cfe560453f81563489801f4fc935a90804457743d00a7feb53", func := "garrison/garrisonlaw02.RightsTells", spec := "rightsTells", unfollowed := true, recurses := true, apart := false, narrowed := true }
def RightsTellsUptoSaid : Prop := rightsTellsUptoRow.holds Try.pinned (OpenSpec.upto rightsTellsSpec)

/-- 'garrisonlaw02.RightsMeets', WHERE WHAT IT READS IS OF BULK AT MOST 1048576: true; the input reads as it did. -/
def rightsMeetsUptoRow : OpenClaim := { program := "ytmicdinibeddmaa", sum := "0847ce3ce83168cfe560453f81563489801f4fc935a90804457743d00a7feb53", func := "garrison/garrisonlaw02.RightsMeets", spec := "rightsMeets", unfollowed := true, recurses := true, apart := false, narrowed := true }
def RightsMeetsUptoSaid : Prop := rightsMeetsUptoRow.holds Try.pinned (OpenSpec.upto rightsMeetsSpec)

/-- 'garrisonlaw02.RightsOrder', WHERE WHAT IT READS IS OF BULK AT MOST 1048576: true; the input reads as it did. -/
def rightsOrderUptoRow : OpenClaim := { program := "ytmicdinibeddmaa", sum := "0847ce3ce83168cfe560453f81563489801f4fc935a90804457743d00a7feb53", func := "garrison/garrisonlaw02.RightsOrder", spec := "rightsOrder", unfollowed := true, recurses := true, apart := false, narrowed := true }
def RightsOrderUptoSaid : Prop := rightsOrderUptoRow.holds Try.pinned (OpenSpec.upto rightsOrderSpec)

/-- 'garrisonlaw02.RightsLess', WHERE WHAT IT READS IS OF BULK AT MOST 1048576: true; the input reads as it did. -/
def rightsLessUptoRow : OpenClaim := { program := "ytmicdinibeddmaa", sum := "0847ce3ce83168cfe560453f81563489801f4fc935a90804457743d00a7feb53", func := "garrison/garrisonlaw02.RightsLess", spec := "rightsLess", unfollowed := true, recurses := true, apart := false, narrowed := true }
def RightsLessUptoSaid : Prop := rightsLessUptoRow.holds Try.pinned (OpenSpec.upto rightsLessSpec)

/-- 'garrisonlaw02.RightsBack', WHERE WHAT IT READS IS OF BULK AT MOST 1048576: true; the input reads as it did. -/
def rightsBackUptoRow : OpenClaim := { program := "ytmicdinibeddmaa", sum := "0847ce3ce83168cfe560453f81563489801f4fc935a90804457743d00a7feb53", func := "garrison/garrisonlaw02.RightsBack", spec := "rightsBack", unfollowed := true, recurses := true, apart := false, narrowed := true }
def RightsBackUptoSaid : Prop := rightsBackUptoRow.holds Try.pinned (OpenSpec.upto rightsBackSpec)

end Rows
end Go.Proofs.Ytmicdinibeddmaa
