/-
  No cell of these rows narrows 'for every input' (looked for: loops, veiled, ifaces, maps, wideKeys, modest, calm, conditions, laid).
  DERIVED. THE GIVEN ROWS OF THIS SEAT. 15 by the template 'for every input the law returns true; each argument reads behind the call as it read before'; 0 by the template 'total and deterministic' (their statements: YtljncbbajhoocaaTotals.lean).
  GIVEN WITH THE SEED: the statements are not yours to turn. If you find one false, say at which input.
  Laid BY PROGRAM, IN A SANDBOX (cutbox-rows.mjs): the forced cells as the released guide's own fill.sh prints them over the translation 0a6709347fb6f95c… (all of the seat's roots in one cut). By AI agents, Wed Nov 11 2026. No macro, syntax, notation, axiom, sorry.
-/
import Derived.Test.YtljncbbajhoocaaChecked
import GoSem.Claim
import GoSem.ClaimJoined
import GoSem.ClaimMapViews
import Derived.JoinedTies
import Derived.KernelRfl
namespace Go.Proofs.Ytljncbbajhoocaa
/- THE CELL 'sum', in the pinned program and in every row, IS THE sha256 OF THE DUMP (.gsa) THAT YtljncbbajhoocaaProg.lean LOADS. Nothing in Lean hashes anything: it is a label: what it is worth is what the hold of that sum in a sandbox is worth. -/
noncomputable def Try.pinned : Pinned := { name := "ytljncbbajhoocaa", sum := "0a6709347fb6f95c2cb6ca938cc260b8f07db2c5c2eda9fba34d3814c648e464", checked := Try.checked }
namespace Rows
def none {H : Type} : Left H := { results := [], args := [] }

/-- 'polliwoglaw02.CrcSums': WHATEVER THE INPUT: true; the input reads as it did. -/
def crcSumsSpec : ChangeSpec := { name := "crcSums", fn := fun _ => fun
  | [d1, d2] => { results := [.lit (.bool true)], args := [d1, d2] }
  | _ => none }
def crcSumsRow : OpenClaim := { program := "ytljncbbajhoocaa", sum := "0a6709347fb6f95c2cb6ca938cc260b8f07db2c5c2eda9fba34d3814c648e464", func := "polliwog/polliwoglaw02.CrcSums", spec := "crcSums", apart := false }
def CrcSumsSaid : Prop := crcSumsRow.holds Try.pinned (OpenSpec.ofChange crcSumsSpec)

/-- ITS FALSE NEIGHBOUR: 'it returns false'. Refute it at one input. -/
def crcSumsWrong : ChangeSpec := { name := "crcSums", fn := fun _ => fun
  | [d1, d2] => { results := [.lit (.bool false)], args := [d1, d2] }
  | _ => none }
def CrcSumsWrongFalsely : Prop := crcSumsRow.holds Try.pinned (OpenSpec.ofChange crcSumsWrong)

/-- 'polliwogtop.PolliwogRow': WHATEVER THE INPUT: true; the input reads as it did. -/
def polliwogRowSpec : ChangeSpec := { name := "polliwogRow", fn := fun _ => fun
  | [d1, d2] => { results := [.lit (.bool true)], args := [d1, d2] }
  | _ => none }
def polliwogRowRow : OpenClaim := { program := "ytljncbbajhoocaa", sum := "0a6709347fb6f95c2cb6ca938cc260b8f07db2c5c2eda9fba34d3814c648e464", func := "polliwog/polliwogtop.PolliwogRow", spec := "polliwogRow", apart := false }
def PolliwogRowSaid : Prop := polliwogRowRow.holds Try.pinned (OpenSpec.ofChange polliwogRowSpec)

/-- ITS FALSE NEIGHBOUR: 'it returns false'. Refute it at one input. -/
def polliwogRowWrong : ChangeSpec := { name := "polliwogRow", fn := fun _ => fun
  | [d1, d2] => { results := [.lit (.bool false)], args := [d1, d2] }
  | _ => none }
def PolliwogRowWrongFalsely : Prop := polliwogRowRow.holds Try.pinned (OpenSpec.ofChange polliwogRowWrong)

/-- 'polliwoglaw02.CrcTable': WHATEVER THE INPUT: true; the input reads as it did. -/
def crcTableSpec : ChangeSpec := { name := "crcTable", fn := fun _ => fun
  | [d] => { results := [.lit (.bool true)], args := [d] }
  | _ => none }
def crcTableRow : OpenClaim := { program := "ytljncbbajhoocaa", sum := "0a6709347fb6f95c2cb6ca938cc260b8f07db2c5c2eda9fba34d3814c648e464", func := "polliwog/polliwoglaw02.CrcTable", spec := "crcTable", apart := false }
def CrcTableSaid : Prop := crcTableRow.holds Try.pinned (OpenSpec.ofChange crcTableSpec)

/-- ITS FALSE NEIGHBOUR: 'it returns false'. Refute it at one input. -/
def crcTableWrong : ChangeSpec := { name := "crcTable", fn := fun _ => fun
  | [d] => { results := [.lit (.bool false)], args := [d] }
  | _ => none }
def CrcTableWrongFalsely : Prop := crcTableRow.holds Try.pinned (OpenSpec.ofChange crcTableWrong)

/-- 'polliwoglaw02.CrcFits': WHATEVER THE INPUT: true; the input reads as it did. -/
def crcFitsSpec : ChangeSpec := { name := "crcFits", fn := fun _ => fun
  | [d] => { results := [.lit (.bool true)], args := [d] }
  | _ => none }
def crcFitsRow : OpenClaim := { program := "ytljncbbajhoocaa", sum := "0a6709347fb6f95c2cb6ca938cc260b8f07db2c5c2eda9fba34d3814c648e464", func := "polliwog/polliwoglaw02.CrcFits", spec := "crcFits", apart := false }
def CrcFitsSaid : Prop := crcFitsRow.holds Try.pinned (OpenSpec.ofChange crcFitsSpec)

/-- ITS FALSE NEIGHBOUR: 'it returns false'. Refute it at one input. -/
def crcFitsWrong : ChangeSpec := { name := "crcFits", fn := fun _ => fun
  | [d] => { results := [.lit (.bool false)], args := [d] }
  | _ => none }
def CrcFitsWrongFalsely : Prop := crcFitsRow.holds Try.pinned (OpenSpec.ofChange crcFitsWrong)

/-- 'polliwoglaw02.CrcBursts': WHATEVER THE INPUT: true; the input reads as it did. -/
def crcBurstsSpec : ChangeSpec := { name := "crcBursts", fn := fun _ => fun
  | [d1, d2, d3] => { results := [.lit (.bool true)], args := [d1, d2, d3] }
  | _ => none }
def crcBurstsRow : OpenClaim := { program := "ytljncbbajhoocaa", sum := "0a6709347fb6f95c2cb6ca938cc260b8f07db2c5c2eda9fba34d3814c648e464", func := "polliwog/polliwoglaw02.CrcBursts", spec := "crcBursts", apart := false }
def CrcBurstsSaid : Prop := crcBurstsRow.holds Try.pinned (OpenSpec.ofChange crcBurstsSpec)

/-- ITS FALSE NEIGHBOUR: 'it returns false'. Refute it at one input. -/
def crcBurstsWrong : ChangeSpec := { name := "crcBursts", fn := fun _ => fun
  | [d1, d2, d3] => { results := [.lit (.bool false)], args := [d1, d2, d3] }
  | _ => none }
def CrcBurstsWrongFalsely : Prop := crcBurstsRow.holds Try.pinned (OpenSpec.ofChange crcBurstsWrong)

/-- 'polliwoglaw02.CrcParts': WHATEVER THE INPUT: true; the input reads as it did. -/
def crcPartsSpec : ChangeSpec := { name := "crcParts", fn := fun _ => fun
  | [d] => { results := [.lit (.bool true)], args := [d] }
  | _ => none }
def crcPartsRow : OpenClaim := { program := "ytljncbbajhoocaa", sum := "0a6709347fb6f95c2cb6ca938cc260b8f07db2c5c2eda9fba34d3814c648e464", func := "polliwog/polliwoglaw02.CrcParts", spec := "crcParts", apart := false }
def CrcPartsSaid : Prop := crcPartsRow.holds Try.pinned (OpenSpec.ofChange crcPartsSpec)

/-- ITS FALSE NEIGHBOUR: 'it returns false'. Refute it at one input. -/
def crcPartsWrong : ChangeSpec := { name := "crcParts", fn := fun _ => fun
  | [d] => { results := [.lit (.bool false)], args := [d] }
  | _ => none }
def CrcPartsWrongFalsely : Prop := crcPartsRow.holds Try.pinned (OpenSpec.ofChange crcPartsWrong)

/-- 'polliwoglaw02.CrcXors': WHATEVER THE INPUT: true; the input reads as it did. -/
def crcXorsSpec : ChangeSpec := { name := "crcXors", fn := fun _ => fun
  | [d] => { results := [.lit (.bool true)], args := [d] }
  | _ => none }
def crcXorsRow : OpenClaim := { program := "ytljncbbajhoocaa", sum := "0a6709347fb6f95c2cb6ca938cc260b8f07db2c5c2eda9fba34d3814c648e464", func := "polliwog/polliwoglaw02.CrcXors", spec := "crcXors", apart := false }
def CrcXorsSaid : Prop := crcXorsRow.holds Try.pinned (OpenSpec.ofChange crcXorsSpec)

/-- ITS FALSE NEIGHBOUR: 'it returns false'. Refute it at one input. -/
def crcXorsWrong : ChangeSpec := { name := "crcXors", fn := fun _ => fun
  | [d] => { results := [.lit (.bool false)], args := [d] }
  | _ => none }
def CrcXorsWrongFalsely : Prop := crcXorsRow.holds Try.pinned (OpenSpec.ofChange crcXorsWrong)

/-- 'polliwoglaw04.RingFull': WHATEVER THE INPUT: true; the input reads as it did. -/
def ringFullSpec : ChangeSpec := { name := "ringFull", fn := fun _ => fun
  | [d1, d2] => { results := [.lit (.bool true)], args := [d1, d2] }
  | _ => none }
def ringFullRow : OpenClaim := { program := "ytljncbbajhoocaa", sum := "0a6709347fb6f95c2cb6ca938cc260b8f07db2c5c2eda9fba34d3814c648e464", func := "polliwog/polliwoglaw04.RingFull", spec := "ringFull", apart := false }
def RingFullSaid : Prop := ringFullRow.holds Try.pinned (OpenSpec.ofChange ringFullSpec)

/-- ITS FALSE NEIGHBOUR: 'it returns false'. Refute it at one input. -/
def ringFullWrong : ChangeSpec := { name := "ringFull", fn := fun _ => fun
  | [d1, d2] => { results := [.lit (.bool false)], args := [d1, d2] }
  | _ => none }
def RingFullWrongFalsely : Prop := ringFullRow.holds Try.pinned (OpenSpec.ofChange ringFullWrong)

/-- 'polliwoglaw04.RingOrder': WHATEVER THE INPUT: true; the input reads as it did. -/
def ringOrderSpec : ChangeSpec := { name := "ringOrder", fn := fun _ => fun
  | [d1, d2, d3] => { results := [.lit (.bool true)], args := [d1, d2, d3] }
  | _ => none }
def ringOrderRow : OpenClaim := { program := "ytljncbbajhoocaa", sum := "0a6709347fb6f95c2cb6ca938cc260b8f07db2c5c2eda9fba34d3814c648e464", func := "polliwog/polliwoglaw04.RingOrder", spec := "ringOrder", apart := false }
def RingOrderSaid : Prop := ringOrderRow.holds Try.pinned (OpenSpec.ofChange ringOrderSpec)

/-- ITS FALSE NEIGHBOUR: 'it returns false'. Refute it at one input. -/
def ringOrderWrong : ChangeSpec := { name := "ringOrder", fn := fun _ => fun
  | [d1, d2, d3] => { results := [.lit (.bool false)], args := [d1, d2, d3] }
  | _ => none }
def RingOrderWrongFalsely : Prop := ringOrderRow.holds Try.pinned (OpenSpec.ofChange ringOrderWrong)

/-- 'polliwoglaw04.RingClones': WHATEVER THE INPUT: true; the input reads as it did. -/
def ringClonesSpec : ChangeSpec := { name := "ringClones", fn := fun _ => fun
  | [d] => { results := [.lit (.bool true)], args := [d] }
  | _ => none }
def ringClonesRow : OpenClaim := { program := "ytljncbbajhoocaa", sum := "0a6709347fb6f95c2cb6ca938cc260b8f07db2c5c2eda9fba34d3814c648e464", func := "polliwog/polliwoglaw04.RingClones", spec := "ringClones", unfollowed := true, recurses := true, apart := false }
def RingClonesSaid : Prop := ringClonesRow.holds Try.pinned (OpenSpec.ofChange ringClonesSpec)

/-- ITS FALSE NEIGHBOUR: 'it returns false'. Refute it at one input. -/
def ringClonesWrong : ChangeSpec := { name := "ringClones", fn := fun _ => fun
  | [d] => { results := [.lit (.bool false)], args := [d] }
  | _ => none }
def RingClonesWrongFalsely : Prop := ringClonesRow.holds Try.pinned (OpenSpec.ofChange ringClonesWrong)

/-- 'polliwoglaw04.RingPlays': WHATEVER THE INPUT: true; the input reads as it did. -/
def ringPlaysSpec : ChangeSpec := { name := "ringPlays", fn := fun _ => fun
  | [d1, d2] => { results := [.lit (.bool true)], args := [d1, d2] }
  | _ => none }
def ringPlaysRow : OpenClaim := { program := "ytljncbbajhoocaa", sum := "0a6709347fb6f95c2cb6ca938cc260b8f07db2c5c2eda9fba34d3814c648e464", func := "polliwog/polliwoglaw04.RingPlays", spec := "ringPlays", apart := false }
def RingPlaysSaid : Prop := ringPlaysRow.holds Try.pinned (OpenSpec.ofChange ringPlaysSpec)

/-- ITS FALSE NEIGHBOUR: 'it returns false'. Refute it at one input. -/
def ringPlaysWrong : ChangeSpec := { name := "ringPlays", fn := fun _ => fun
  | [d1, d2] => { results := [.lit (.bool false)], args := [d1, d2] }
  | _ => none }
def RingPlaysWrongFalsely : Prop := ringPlaysRow.holds Try.pinned (OpenSpec.ofChange ringPlaysWrong)

/-- 'polliwoglaw17.PipeSpoils': WHATEVER THE INPUT: true; the input reads as it did. -/
def pipeSpoilsSpec : ChangeSpec := { name := "pipeSpoils", fn := fun _ => fun
  | [d1, d2, d3] => { results := [.lit (.bool true)], args := [d1, d2, d3] }
  | _ => none }
def pipeSpoilsRow : OpenClaim := { program := "ytljncbbajhoocaa", sum := "0a6709347fb6f95c2cb6ca938cc260b8f07db2c5c2eda9fba34d3814c648e464", func := "polliwog/polliwoglaw17.PipeSpoils", spec := "pipeSpoils", apart := false }
def PipeSpoilsSaid : Prop := pipeSpoilsRow.holds Try.pinned (OpenSpec.ofChange pipeSpoilsSpec)

/-- ITS FALSE NEIGHBOUR: 'it returns false'. Refute it at one input. -/
def pipeSpoilsWrong : ChangeSpec := { name := "pipeSpoils", fn := fun _ => fun
  | [d1, d2, d3] => { results := [.lit (.bool false)], args := [d1, d2, d3] }
  | _ => none }
def PipeSpoilsWrongFalsely : Prop := pipeSpoilsRow.holds Try.pinned (OpenSpec.ofChange pipeSpoilsWrong)

/-- 'polliwoglaw17.PipeOrder': WHATEVER THE INPUT: true; the input reads as it did. -/
def pipeOrderSpec : ChangeSpec := { name := "pipeOrder", fn := fun _ => fun
  | [d1, d2] => { results := [.lit (.bool true)], args := [d1, d2] }
  | _ => none }
def pipeOrderRow : OpenClaim := { program := "ytljncbbajhoocaa", sum := "0a6709347fb6f95c2cb6ca938cc260b8f07db2c5c2eda9fba34d3814c648e464", func := "polliwog/polliwoglaw17.PipeOrder", spec := "pipeOrder", apart := false }
def PipeOrderSaid : Prop := pipeOrderRow.holds Try.pinned (OpenSpec.ofChange pipeOrderSpec)

/-- ITS FALSE NEIGHBOUR: 'it returns false'. Refute it at one input. -/
def pipeOrderWrong : ChangeSpec := { name := "pipeOrder", fn := fun _ => fun
  | [d1, d2] => { results := [.lit (.bool false)], args := [d1, d2] }
  | _ => none }
def PipeOrderWrongFalsely : Prop := pipeOrderRow.holds Try.pinned (OpenSpec.ofChange pipeOrderWrong)

/-- 'polliwoglaw17.PipeRoom': WHATEVER THE INPUT: true; the input reads as it did. -/
def pipeRoomSpec : ChangeSpec := { name := "pipeRoom", fn := fun _ => fun
  | [d1, d2] => { results := [.lit (.bool true)], args := [d1, d2] }
  | _ => none }
def pipeRoomRow : OpenClaim := { program := "ytljncbbajhoocaa", sum := "0a6709347fb6f95c2cb6ca938cc260b8f07db2c5c2eda9fba34d3814c648e464", func := "polliwog/polliwoglaw17.PipeRoom", spec := "pipeRoom", apart := false }
def PipeRoomSaid : Prop := pipeRoomRow.holds Try.pinned (OpenSpec.ofChange pipeRoomSpec)

/-- ITS FALSE NEIGHBOUR: 'it returns false'. Refute it at one input. -/
def pipeRoomWrong : ChangeSpec := { name := "pipeRoom", fn := fun _ => fun
  | [d1, d2] => { results := [.lit (.bool false)], args := [d1, d2] }
  | _ => none }
def PipeRoomWrongFalsely : Prop := pipeRoomRow.holds Try.pinned (OpenSpec.ofChange pipeRoomWrong)

/-- 'polliwoglaw17.PipePlays': WHATEVER THE INPUT: true; the input reads as it did. -/
def pipePlaysSpec : ChangeSpec := { name := "pipePlays", fn := fun _ => fun
  | [d1, d2] => { results := [.lit (.bool true)], args := [d1, d2] }
  | _ => none }
def pipePlaysRow : OpenClaim := { program := "ytljncbbajhoocaa", sum := "0a6709347fb6f95c2cb6ca938cc260b8f07db2c5c2eda9fba34d3814c648e464", func := "polliwog/polliwoglaw17.PipePlays", spec := "pipePlays", apart := false }
def PipePlaysSaid : Prop := pipePlaysRow.holds Try.pinned (OpenSpec.ofChange pipePlaysSpec)

/-- ITS FALSE NEIGHBOUR: 'it returns false'. Refute it at one input. -/
def pipePlaysWrong : ChangeSpec := { name := "pipePlays", fn := fun _ => fun
  | [d1, d2] => { results := [.lit (.bool false)], args := [d1, d2] }
  | _ => none }
def PipePlaysWrongFalsely : Prop := pipePlaysRow.holds Try.pinned (OpenSpec.ofChange pipePlaysWrong)

/- THE SECOND FORM. 'bulk': how many values and letters a reading holds, each counted each time it is reached (what is shared counts as often as it is met; a slice's spare places count too). A statement '..UptoSaid' is the law's where the arguments, and the package variables that the reading takes, are together of bulk at most 1048576: NARROWER than '..Said'. Prove '..Said' where nothing that the law and all that it calls make is longer than what came in: it says more and counts as full. Else prove '..UptoSaid'. A law counts once. -/
mutual
def uptoBulk {H : Type} : DataW H → Nat
  | .lit (.string bytes) => bytes.length + 1
  | .lit _ => 1
  | .nil => 1
  | .ptr d => uptoBulk d + 1
  | .slice elems spare => uptoBulkAll elems + uptoBulkAll spare + 1
  | .agg parts => uptoBulkAll parts + 1
  | .iface _ d => uptoBulk d + 1
  | .map entries => uptoBulkEntries entries + 1
  | .held _ => 1
def uptoBulkAll {H : Type} : List (DataW H) → Nat
  | [] => 0
  | d :: r => uptoBulk d + uptoBulkAll r
def uptoBulkEntries {H : Type} : List (Lit × DataW H) → Nat
  | [] => 0
  | x :: r => uptoBulkEntry x + uptoBulkEntries r
def uptoBulkEntry {H : Type} : Lit × DataW H → Nat
  | (.string bytes, d) => bytes.length + uptoBulk d + 1
  | (_, d) => uptoBulk d + 1
 end
def uptoSmall : (H : Type) → List (DataW H) → Bool := fun _ ds => decide (uptoBulkAll ds ≤ 1048576)
def OpenSpec.upto (s : _root_.Go.ChangeSpec) : _root_.Go.OpenSpec := { _root_.Go.OpenSpec.ofChange s with cond := some uptoSmall }

/-- 'polliwoglaw02.CrcSums', WHERE WHAT IT READS IS OF BULK AT MOST 1048576: true; the input reads as it did. -/
def crcSumsUptoRow : OpenClaim := { program := "ytljncbbajhoocaa", sum := "0a6709347fb6f95c2cb6ca938cc260b8f07db2c5c2eda9fba34d3814c648e464", func := "polliwog/polliwoglaw02.CrcSums", spec := "crcSums", apart := false, narrowed := true }
def CrcSumsUptoSaid : Prop := crcSumsUptoRow.holds Try.pinned (OpenSpec.upto crcSumsSpec)

/-- 'polliwogtop.PolliwogRow', WHERE WHAT IT READS IS OF BULK AT MOST 1048576: true; the input reads as it did. -/
def polliwogRowUptoRow : OpenClaim := { program := "ytljncbbajhoocaa", sum := "0a6709347fb6f95c2cb6ca938cc260b8f07db2c5c2eda9fba34d3814c648e464", func := "polliwog/polliwogtop.PolliwogRow", spec := "polliwogRow", apart := false, narrowed := true }
def PolliwogRowUptoSaid : Prop := polliwogRowUptoRow.holds Try.pinned (OpenSpec.upto polliwogRowSpec)

/-- 'polliwoglaw02.CrcTable', WHERE WHAT IT READS IS OF BULK AT MOST 1048576: true; the input reads as it did. -/
def crcTableUptoRow : OpenClaim := { program := "ytljncbbajhoocaa", sum := "0a6709347fb6f95c2cb6ca938cc260b8f07db2c5c2eda9fba34d3814c648e464", func := "polliwog/polliwoglaw02.CrcTable", spec := "crcTable", apart := false, narrowed := true }
def CrcTableUptoSaid : Prop := crcTableUptoRow.holds Try.pinned (OpenSpec.upto crcTableSpec)

/-- 'polliwoglaw02.CrcFits', WHERE WHAT IT READS IS OF BULK AT MOST 1048576: true; the input reads as it did. -/
def crcFitsUptoRow : OpenClaim := { program := "ytljncbbajhoocaa", sum := "0a6709347fb6f95c2cb6ca938cc260b8f07db2c5c2eda9fba34d3814c648e464", func := "polliwog/polliwoglaw02.CrcFits", spec := "crcFits", apart := false, narrowed := true }
def CrcFitsUptoSaid : Prop := crcFitsUptoRow.holds Try.pinned (OpenSpec.upto crcFitsSpec)

/-- 'polliwoglaw02.CrcBursts', WHERE WHAT IT READS IS OF BULK AT MOST 1048576: true; the input reads as it did. -/
def crcBurstsUptoRow : OpenClaim := { program := "ytljncbbajhoocaa", sum := "0a6709347fb6f95c2cb6ca938cc260b8f07db2c5c2eda9fba34d3814c648e464", func := "polliwog/polliwoglaw02.CrcBursts", spec := "crcBursts", apart := false, narrowed := true }
def CrcBurstsUptoSaid : Prop := crcBurstsUptoRow.holds Try.pinned (OpenSpec.upto crcBurstsSpec)

/-- 'polliwoglaw02.CrcParts', WHERE WHAT IT READS IS OF BULK AT MOST 1048576: true; the input reads as it did. -/
def crcPartsUptoRow : OpenClaim := { program := "ytljncbbajhoocaa", sum := "0a6709347fb6f95c2cb6ca938cc260b8f07db2c5c2eda9fba34d3814c648e464", func := "polliwog/polliwoglaw02.CrcParts", spec := "crcParts", apart := false, narrowed := true }
def CrcPartsUptoSaid : Prop := crcPartsUptoRow.holds Try.pinned (OpenSpec.upto crcPartsSpec)

/-- 'polliwoglaw02.CrcXors', WHERE WHAT IT READS IS OF BULK AT MOST 1048576: true; the input reads as it did. -/
def crcXorsUptoRow : OpenClaim := { program := "ytljncbbajhoocaa", sum := "0a6709347fb6f95c2cb6ca938cc260b8f07db2c5c2eda9fba34d3814c648e464", func := "polliwog/polliwoglaw02.CrcXors", spec := "crcXors", apart := false, narrowed := true }
def CrcXorsUptoSaid : Prop := crcXorsUptoRow.holds Try.pinned (OpenSpec.upto crcXorsSpec)

/-- 'polliwoglaw04.RingFull', WHERE WHAT IT READS IS OF BULK AT MOST 1048576: true; the input reads as it did. -/
def ringFullUptoRow : OpenClaim := { program := "ytljncbbajhoocaa", sum := "0a6709347fb6f95c2cb6ca938cc260b8f07db2c5c2eda9fba34d3814c648e464", func := "polliwog/polliwoglaw04.RingFull", spec := "ringFull", apart := false, narrowed := true }
def RingFullUptoSaid : Prop := ringFullUptoRow.holds Try.pinned (OpenSpec.upto ringFullSpec)

/-- 'polliwoglaw04.RingOrder', WHERE WHAT IT READS IS OF BULK AT MOST 1048576: true; the input reads as it did. -/
def ringOrderUptoRow : OpenClaim := { program := "ytljncbbajhoocaa", sum := "0a6709347fb6f95c2cb6ca938cc260b8f07db2c5c2eda9fba34d3814c648e464", func := "polliwog/polliwoglaw04.RingOrder", spec := "ringOrder", apart := false, narrowed := true }
def RingOrderUptoSaid : Prop := ringOrderUptoRow.holds Try.pinned (OpenSpec.upto ringOrderSpec)

/-- 'polliwoglaw04.RingClones', WHERE WHAT IT READS IS OF BULK AT MOST 1048576: true; the input reads as it did. -/
def ringClonesUptoRow : OpenClaim := { program := "ytljncbbajhoocaa", sum := "0a6709347fb6f95c2cb6ca938cc260b8f07db2c5c2eda9fba34d3814c648e464", func := "polliwog/polliwoglaw04.RingClones", spec := "ringClones", unfollowed := true, recurses := true, apart := false, narrowed := true }
def RingClonesUptoSaid : Prop := ringClonesUptoRow.holds Try.pinned (OpenSpec.upto ringClonesSpec)

/-- 'polliwoglaw04.RingPlays', WHERE WHAT IT READS IS OF BULK AT MOST 1048576: true; the input reads as it did. -/
def ringPlaysUptoRow : OpenClaim := { program := "ytljncbbajhoocaa", sum := "0a6709347fb6f95c2cb6ca938cc260b8f07db2c5c2eda9fba34d3814c648e464", func := "polliwog/polliwoglaw04.RingPlays", spec := "ringPlays", apart := false, narrowed := true }
def RingPlaysUptoSaid : Prop := ringPlaysUptoRow.holds Try.pinned (OpenSpec.upto ringPlaysSpec)

/-- 'polliwoglaw17.PipeSpoils', WHERE WHAT IT READS IS OF BULK AT MOST 1048576: true; the input reads as it did. -/
def pipeSpoilsUptoRow : OpenClaim := { program := "ytljncbbajhoocaa", sum := "0a6709347fb6f95c2cb6ca938cc260b8f07db2c5c2eda9fba34d3814c648e464", func := "polliwog/polliwoglaw17.PipeSpoils", spec := "pipeSpoils", apart := false, narrowed := true }
def PipeSpoilsUptoSaid : Prop := pipeSpoilsUptoRow.holds Try.pinned (OpenSpec.upto pipeSpoilsSpec)

/-- 'polliwoglaw17.PipeOrder', WHERE WHAT IT READS IS OF BULK AT MOST 1048576: true; the input reads as it did. -/
def pipeOrderUptoRow : OpenClaim := { program := "ytljncbbajhoocaa", sum := "0a6709347fb6f95c2cb6ca938cc260b8f07db2c5c2eda9fba34d3814c648e464", func := "polliwog/polliwoglaw17.PipeOrder", spec := "pipeOrder", apart := false, narrowed := true }
def PipeOrderUptoSaid : Prop := pipeOrderUptoRow.holds Try.pinned (OpenSpec.upto pipeOrderSpec)

/-- 'polliwoglaw17.PipeRoom', WHERE WHAT IT READS IS OF BULK AT MOST 1048576: true; the input reads as it did. -/
def pipeRoomUptoRow : OpenClaim := { program := "ytljncbbajhoocaa", sum := "0a6709347fb6f95c2cb6ca938cc260b8f07db2c5c2eda9fba34d3814c648e464", func := "polliwog/polliwoglaw17.PipeRoom", spec := "pipeRoom", apart := false, narrowed := true }
def PipeRoomUptoSaid : Prop := pipeRoomUptoRow.holds Try.pinned (OpenSpec.upto pipeRoomSpec)

/-- 'polliwoglaw17.PipePlays', WHERE WHAT IT READS IS OF BULK AT MOST 1048576: true; the input reads as it did. -/
def pipePlaysUptoRow : OpenClaim := { program := "ytljncbbajhoocaa", sum := "0a6709347fb6f95c2cb6ca938cc260b8f07db2c5c2eda9fba34d3814c648e464", func := "polliwog/polliwoglaw17.PipePlays", spec := "pipePlays", apart := false, narrowed := true }
def PipePlaysUptoSaid : Prop := pipePlaysUptoRow.holds Try.pinned (OpenSpec.upto pipePlaysSpec)

end Rows
end Go.Proofs.Ytljncbbajhoocaa
