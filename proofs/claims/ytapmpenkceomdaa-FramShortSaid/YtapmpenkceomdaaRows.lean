/-
  No cell of these rows narrows 'for every input' (looked for: loops, veiled, ifaces, maps, wideKeys, modest, calm, conditions, laid).
  DERIVED. THE GIVEN ROWS OF THIS SEAT. 21 by the template 'for every input the law returns true; each argument reads behind the call as it read before'; 0 by the template 'total and deterministic' (their statements: YtapmpenkceomdaaTotals.lean).
  GIVEN WITH THE SEED: the statements are not yours to turn. If you find one false, say at which input.
  Laid BY PROGRAM, IN A SANDBOX (cutbox-rows.mjs): the forced cells as the released guide's own fill.sh prints them over the translation eec31941c6053076… (all of the seat's roots in one cut). By AI agents, Wed Nov 11 2026. No macro, syntax, notation, axiom, sorry.
-/
import Derived.Test.YtapmpenkceomdaaChecked
import GoSem.Claim
import GoSem.ClaimJoined
import GoSem.ClaimMapViews
import Derived.JoinedTies
import Derived.KernelRfl
namespace Go.Proofs.Ytapmpenkceomdaa
/- THE CELL 'sum', in the pinned program and in every row, IS THE sha256 OF THE DUMP (.gsa) THAT YtapmpenkceomdaaProg.lean LOADS. Nothing in Lean hashes anything: it is a label: what it is worth is what the hold of that sum in a sandbox is worth. -/
noncomputable def Try.pinned : Pinned := { name := "ytapmpenkceomdaa", sum := "eec31941c6053076b02b13a1a01e0a5265c4e218de9319c66274c955e6a25d70", checked := Try.checked }
namespace Rows
def none {H : Type} : Left H := { results := [], args := [] }

/-- 'hocketlaw20.WaitOwn': WHATEVER THE INPUT: true; the input reads as it did. -/
def waitOwnSpec : ChangeSpec := { name := "waitOwn", fn := fun _ => fun
  | [d] => { results := [.lit (.bool true)], args := [d] }
  | _ => none }
def waitOwnRow : OpenClaim := { program := "ytapmpenkceomdaa", sum := "eec31941c6053076b02b13a1a01e0a5265c4e218de9319c66274c955e6a25d70", func := "hocket/hocketlaw20.WaitOwn", spec := "waitOwn", unfollowed := true, recurses := true, apart := false }
def WaitOwnSaid : Prop := waitOwnRow.holds Try.pinned (OpenSpec.ofChange waitOwnSpec)

/-- ITS FALSE NEIGHBOUR: 'it returns false'. Refute it at one input. -/
def waitOwnWrong : ChangeSpec := { name := "waitOwn", fn := fun _ => fun
  | [d] => { results := [.lit (.bool false)], args := [d] }
  | _ => none }
def WaitOwnWrongFalsely : Prop := waitOwnRow.holds Try.pinned (OpenSpec.ofChange waitOwnWrong)

/-- 'hocketlaw18.GathPlays': WHATEVER THE INPUT: true; the input reads as it did. -/
def gathPlaysSpec : ChangeSpec := { name := "gathPlays", fn := fun _ => fun
  | [d1, d2, d3, d4, d5] => { results := [.lit (.bool true)], args := [d1, d2, d3, d4, d5] }
  | _ => none }
def gathPlaysRow : OpenClaim := { program := "ytapmpenkceomdaa", sum := "eec31941c6053076b02b13a1a01e0a5265c4e218de9319c66274c955e6a25d70", func := "hocket/hocketlaw18.GathPlays", spec := "gathPlays", unfollowed := true, recurses := true, apart := false }
def GathPlaysSaid : Prop := gathPlaysRow.holds Try.pinned (OpenSpec.ofChange gathPlaysSpec)

/-- ITS FALSE NEIGHBOUR: 'it returns false'. Refute it at one input. -/
def gathPlaysWrong : ChangeSpec := { name := "gathPlays", fn := fun _ => fun
  | [d1, d2, d3, d4, d5] => { results := [.lit (.bool false)], args := [d1, d2, d3, d4, d5] }
  | _ => none }
def GathPlaysWrongFalsely : Prop := gathPlaysRow.holds Try.pinned (OpenSpec.ofChange gathPlaysWrong)

/-- 'hocketlaw11.MesgBounds': WHATEVER THE INPUT: true; the input reads as it did. -/
def mesgBoundsSpec : ChangeSpec := { name := "mesgBounds", fn := fun _ => fun
  | [d] => { results := [.lit (.bool true)], args := [d] }
  | _ => none }
def mesgBoundsRow : OpenClaim := { program := "ytapmpenkceomdaa", sum := "eec31941c6053076b02b13a1a01e0a5265c4e218de9319c66274c955e6a25d70", func := "hocket/hocketlaw11.MesgBounds", spec := "mesgBounds", unfollowed := true, recurses := true, apart := false }
def MesgBoundsSaid : Prop := mesgBoundsRow.holds Try.pinned (OpenSpec.ofChange mesgBoundsSpec)

/-- ITS FALSE NEIGHBOUR: 'it returns false'. Refute it at one input. -/
def mesgBoundsWrong : ChangeSpec := { name := "mesgBounds", fn := fun _ => fun
  | [d] => { results := [.lit (.bool false)], args := [d] }
  | _ => none }
def MesgBoundsWrongFalsely : Prop := mesgBoundsRow.holds Try.pinned (OpenSpec.ofChange mesgBoundsWrong)

/-- 'hocketlaw11.MesgOwn': WHATEVER THE INPUT: true; the input reads as it did. -/
def mesgOwnSpec : ChangeSpec := { name := "mesgOwn", fn := fun _ => fun
  | [d1, d2] => { results := [.lit (.bool true)], args := [d1, d2] }
  | _ => none }
def mesgOwnRow : OpenClaim := { program := "ytapmpenkceomdaa", sum := "eec31941c6053076b02b13a1a01e0a5265c4e218de9319c66274c955e6a25d70", func := "hocket/hocketlaw11.MesgOwn", spec := "mesgOwn", unfollowed := true, recurses := true, apart := false }
def MesgOwnSaid : Prop := mesgOwnRow.holds Try.pinned (OpenSpec.ofChange mesgOwnSpec)

/-- ITS FALSE NEIGHBOUR: 'it returns false'. Refute it at one input. -/
def mesgOwnWrong : ChangeSpec := { name := "mesgOwn", fn := fun _ => fun
  | [d1, d2] => { results := [.lit (.bool false)], args := [d1, d2] }
  | _ => none }
def MesgOwnWrongFalsely : Prop := mesgOwnRow.holds Try.pinned (OpenSpec.ofChange mesgOwnWrong)

/-- 'hocketlaw11.MesgTells': WHATEVER THE INPUT: true; the input reads as it did. -/
def mesgTellsSpec : ChangeSpec := { name := "mesgTells", fn := fun _ => fun
  | [d1, d2, d3, d4, d5, d6] => { results := [.lit (.bool true)], args := [d1, d2, d3, d4, d5, d6] }
  | _ => none }
def mesgTellsRow : OpenClaim := { program := "ytapmpenkceomdaa", sum := "eec31941c6053076b02b13a1a01e0a5265c4e218de9319c66274c955e6a25d70", func := "hocket/hocketlaw11.MesgTells", spec := "mesgTells", unfollowed := true, recurses := true, apart := false }
def MesgTellsSaid : Prop := mesgTellsRow.holds Try.pinned (OpenSpec.ofChange mesgTellsSpec)

/-- ITS FALSE NEIGHBOUR: 'it returns false'. Refute it at one input. -/
def mesgTellsWrong : ChangeSpec := { name := "mesgTells", fn := fun _ => fun
  | [d1, d2, d3, d4, d5, d6] => { results := [.lit (.bool false)], args := [d1, d2, d3, d4, d5, d6] }
  | _ => none }
def MesgTellsWrongFalsely : Prop := mesgTellsRow.holds Try.pinned (OpenSpec.ofChange mesgTellsWrong)

/-- 'hocketlaw11.MesgBack': WHATEVER THE INPUT: true; the input reads as it did. -/
def mesgBackSpec : ChangeSpec := { name := "mesgBack", fn := fun _ => fun
  | [d1, d2, d3, d4] => { results := [.lit (.bool true)], args := [d1, d2, d3, d4] }
  | _ => none }
def mesgBackRow : OpenClaim := { program := "ytapmpenkceomdaa", sum := "eec31941c6053076b02b13a1a01e0a5265c4e218de9319c66274c955e6a25d70", func := "hocket/hocketlaw11.MesgBack", spec := "mesgBack", unfollowed := true, recurses := true, apart := false }
def MesgBackSaid : Prop := mesgBackRow.holds Try.pinned (OpenSpec.ofChange mesgBackSpec)

/-- ITS FALSE NEIGHBOUR: 'it returns false'. Refute it at one input. -/
def mesgBackWrong : ChangeSpec := { name := "mesgBack", fn := fun _ => fun
  | [d1, d2, d3, d4] => { results := [.lit (.bool false)], args := [d1, d2, d3, d4] }
  | _ => none }
def MesgBackWrongFalsely : Prop := mesgBackRow.holds Try.pinned (OpenSpec.ofChange mesgBackWrong)

/-- 'hocketlaw15.BlobForms': WHATEVER THE INPUT: true; the input reads as it did. -/
def blobFormsSpec : ChangeSpec := { name := "blobForms", fn := fun _ => fun
  | [d] => { results := [.lit (.bool true)], args := [d] }
  | _ => none }
def blobFormsRow : OpenClaim := { program := "ytapmpenkceomdaa", sum := "eec31941c6053076b02b13a1a01e0a5265c4e218de9319c66274c955e6a25d70", func := "hocket/hocketlaw15.BlobForms", spec := "blobForms", inPlace := ["internal/bytealg.Compare"], unfollowed := true, recurses := true, apart := false }
def BlobFormsSaid : Prop := blobFormsRow.holds Try.pinned (OpenSpec.ofChange blobFormsSpec)

/-- ITS FALSE NEIGHBOUR: 'it returns false'. Refute it at one input. -/
def blobFormsWrong : ChangeSpec := { name := "blobForms", fn := fun _ => fun
  | [d] => { results := [.lit (.bool false)], args := [d] }
  | _ => none }
def BlobFormsWrongFalsely : Prop := blobFormsRow.holds Try.pinned (OpenSpec.ofChange blobFormsWrong)

/-- 'hocketlaw15.BlobOwn': WHATEVER THE INPUT: true; the input reads as it did. -/
def blobOwnSpec : ChangeSpec := { name := "blobOwn", fn := fun _ => fun
  | [d1, d2, d3] => { results := [.lit (.bool true)], args := [d1, d2, d3] }
  | _ => none }
def blobOwnRow : OpenClaim := { program := "ytapmpenkceomdaa", sum := "eec31941c6053076b02b13a1a01e0a5265c4e218de9319c66274c955e6a25d70", func := "hocket/hocketlaw15.BlobOwn", spec := "blobOwn", inPlace := ["internal/bytealg.Compare"], unfollowed := true, recurses := true, apart := false }
def BlobOwnSaid : Prop := blobOwnRow.holds Try.pinned (OpenSpec.ofChange blobOwnSpec)

/-- ITS FALSE NEIGHBOUR: 'it returns false'. Refute it at one input. -/
def blobOwnWrong : ChangeSpec := { name := "blobOwn", fn := fun _ => fun
  | [d1, d2, d3] => { results := [.lit (.bool false)], args := [d1, d2, d3] }
  | _ => none }
def BlobOwnWrongFalsely : Prop := blobOwnRow.holds Try.pinned (OpenSpec.ofChange blobOwnWrong)

/-- 'hocketlaw15.BlobTells': WHATEVER THE INPUT: true; the input reads as it did. -/
def blobTellsSpec : ChangeSpec := { name := "blobTells", fn := fun _ => fun
  | [d1, d2, d3, d4, d5, d6] => { results := [.lit (.bool true)], args := [d1, d2, d3, d4, d5, d6] }
  | _ => none }
def blobTellsRow : OpenClaim := { program := "ytapmpenkceomdaa", sum := "eec31941c6053076b02b13a1a01e0a5265c4e218de9319c66274c955e6a25d70", func := "hocket/hocketlaw15.BlobTells", spec := "blobTells", inPlace := ["internal/bytealg.Compare"], unfollowed := true, recurses := true, apart := false }
def BlobTellsSaid : Prop := blobTellsRow.holds Try.pinned (OpenSpec.ofChange blobTellsSpec)

/-- ITS FALSE NEIGHBOUR: 'it returns false'. Refute it at one input. -/
def blobTellsWrong : ChangeSpec := { name := "blobTells", fn := fun _ => fun
  | [d1, d2, d3, d4, d5, d6] => { results := [.lit (.bool false)], args := [d1, d2, d3, d4, d5, d6] }
  | _ => none }
def BlobTellsWrongFalsely : Prop := blobTellsRow.holds Try.pinned (OpenSpec.ofChange blobTellsWrong)

/-- 'hocketlaw15.BlobParts': WHATEVER THE INPUT: true; the input reads as it did. -/
def blobPartsSpec : ChangeSpec := { name := "blobParts", fn := fun _ => fun
  | [d1, d2, d3, d4] => { results := [.lit (.bool true)], args := [d1, d2, d3, d4] }
  | _ => none }
def blobPartsRow : OpenClaim := { program := "ytapmpenkceomdaa", sum := "eec31941c6053076b02b13a1a01e0a5265c4e218de9319c66274c955e6a25d70", func := "hocket/hocketlaw15.BlobParts", spec := "blobParts", inPlace := ["internal/bytealg.Compare"], unfollowed := true, recurses := true, apart := false }
def BlobPartsSaid : Prop := blobPartsRow.holds Try.pinned (OpenSpec.ofChange blobPartsSpec)

/-- ITS FALSE NEIGHBOUR: 'it returns false'. Refute it at one input. -/
def blobPartsWrong : ChangeSpec := { name := "blobParts", fn := fun _ => fun
  | [d1, d2, d3, d4] => { results := [.lit (.bool false)], args := [d1, d2, d3, d4] }
  | _ => none }
def BlobPartsWrongFalsely : Prop := blobPartsRow.holds Try.pinned (OpenSpec.ofChange blobPartsWrong)

/-- 'hocketlaw12.FramShort': WHATEVER THE INPUT: true; the input reads as it did. -/
def framShortSpec : ChangeSpec := { name := "framShort", fn := fun _ => fun
  | [d1, d2, d3, d4, d5, d6] => { results := [.lit (.bool true)], args := [d1, d2, d3, d4, d5, d6] }
  | _ => none }
def framShortRow : OpenClaim := { program := "ytapmpenkceomdaa", sum := "eec31941c6053076b02b13a1a01e0a5265c4e218de9319c66274c955e6a25d70", func := "hocket/hocketlaw12.FramShort", spec := "framShort", unfollowed := true, recurses := true, apart := false }
def FramShortSaid : Prop := framShortRow.holds Try.pinned (OpenSpec.ofChange framShortSpec)

/-- ITS FALSE NEIGHBOUR: 'it returns false'. Refute it at one input. -/
def framShortWrong : ChangeSpec := { name := "framShort", fn := fun _ => fun
  | [d1, d2, d3, d4, d5, d6] => { results := [.lit (.bool false)], args := [d1, d2, d3, d4, d5, d6] }
  | _ => none }
def FramShortWrongFalsely : Prop := framShortRow.holds Try.pinned (OpenSpec.ofChange framShortWrong)

/-- 'hocketlaw12.FramBursts': WHATEVER THE INPUT: true; the input reads as it did. -/
def framBurstsSpec : ChangeSpec := { name := "framBursts", fn := fun _ => fun
  | [d1, d2, d3, d4] => { results := [.lit (.bool true)], args := [d1, d2, d3, d4] }
  | _ => none }
def framBurstsRow : OpenClaim := { program := "ytapmpenkceomdaa", sum := "eec31941c6053076b02b13a1a01e0a5265c4e218de9319c66274c955e6a25d70", func := "hocket/hocketlaw12.FramBursts", spec := "framBursts", unfollowed := true, recurses := true, apart := false }
def FramBurstsSaid : Prop := framBurstsRow.holds Try.pinned (OpenSpec.ofChange framBurstsSpec)

/-- ITS FALSE NEIGHBOUR: 'it returns false'. Refute it at one input. -/
def framBurstsWrong : ChangeSpec := { name := "framBursts", fn := fun _ => fun
  | [d1, d2, d3, d4] => { results := [.lit (.bool false)], args := [d1, d2, d3, d4] }
  | _ => none }
def FramBurstsWrongFalsely : Prop := framBurstsRow.holds Try.pinned (OpenSpec.ofChange framBurstsWrong)

/-- 'hocketlaw12.FramTells': WHATEVER THE INPUT: true; the input reads as it did. -/
def framTellsSpec : ChangeSpec := { name := "framTells", fn := fun _ => fun
  | [d1, d2, d3, d4, d5, d6] => { results := [.lit (.bool true)], args := [d1, d2, d3, d4, d5, d6] }
  | _ => none }
def framTellsRow : OpenClaim := { program := "ytapmpenkceomdaa", sum := "eec31941c6053076b02b13a1a01e0a5265c4e218de9319c66274c955e6a25d70", func := "hocket/hocketlaw12.FramTells", spec := "framTells", unfollowed := true, recurses := true, apart := false }
def FramTellsSaid : Prop := framTellsRow.holds Try.pinned (OpenSpec.ofChange framTellsSpec)

/-- ITS FALSE NEIGHBOUR: 'it returns false'. Refute it at one input. -/
def framTellsWrong : ChangeSpec := { name := "framTells", fn := fun _ => fun
  | [d1, d2, d3, d4, d5, d6] => { results := [.lit (.bool false)], args := [d1, d2, d3, d4, d5, d6] }
  | _ => none }
def FramTellsWrongFalsely : Prop := framTellsRow.holds Try.pinned (OpenSpec.ofChange framTellsWrong)

/-- 'hocketlaw12.FramTurned': WHATEVER THE INPUT: true; the input reads as it did. -/
def framTurnedSpec : ChangeSpec := { name := "framTurned", fn := fun _ => fun
  | [d1, d2] => { results := [.lit (.bool true)], args := [d1, d2] }
  | _ => none }
def framTurnedRow : OpenClaim := { program := "ytapmpenkceomdaa", sum := "eec31941c6053076b02b13a1a01e0a5265c4e218de9319c66274c955e6a25d70", func := "hocket/hocketlaw12.FramTurned", spec := "framTurned", unfollowed := true, recurses := true, apart := false }
def FramTurnedSaid : Prop := framTurnedRow.holds Try.pinned (OpenSpec.ofChange framTurnedSpec)

/-- ITS FALSE NEIGHBOUR: 'it returns false'. Refute it at one input. -/
def framTurnedWrong : ChangeSpec := { name := "framTurned", fn := fun _ => fun
  | [d1, d2] => { results := [.lit (.bool false)], args := [d1, d2] }
  | _ => none }
def FramTurnedWrongFalsely : Prop := framTurnedRow.holds Try.pinned (OpenSpec.ofChange framTurnedWrong)

/-- 'hocketlaw23.NetsOrder': WHATEVER THE INPUT: true; the input reads as it did. -/
def netsOrderSpec : ChangeSpec := { name := "netsOrder", fn := fun _ => fun
  | [d1, d2] => { results := [.lit (.bool true)], args := [d1, d2] }
  | _ => none }
def netsOrderRow : OpenClaim := { program := "ytapmpenkceomdaa", sum := "eec31941c6053076b02b13a1a01e0a5265c4e218de9319c66274c955e6a25d70", func := "hocket/hocketlaw23.NetsOrder", spec := "netsOrder", unfollowed := true, recurses := true, apart := false }
def NetsOrderSaid : Prop := netsOrderRow.holds Try.pinned (OpenSpec.ofChange netsOrderSpec)

/-- ITS FALSE NEIGHBOUR: 'it returns false'. Refute it at one input. -/
def netsOrderWrong : ChangeSpec := { name := "netsOrder", fn := fun _ => fun
  | [d1, d2] => { results := [.lit (.bool false)], args := [d1, d2] }
  | _ => none }
def NetsOrderWrongFalsely : Prop := netsOrderRow.holds Try.pinned (OpenSpec.ofChange netsOrderWrong)

/-- 'hocketlaw23.NetsTurned': WHATEVER THE INPUT: true; the input reads as it did. -/
def netsTurnedSpec : ChangeSpec := { name := "netsTurned", fn := fun _ => fun
  | [d1, d2, d3] => { results := [.lit (.bool true)], args := [d1, d2, d3] }
  | _ => none }
def netsTurnedRow : OpenClaim := { program := "ytapmpenkceomdaa", sum := "eec31941c6053076b02b13a1a01e0a5265c4e218de9319c66274c955e6a25d70", func := "hocket/hocketlaw23.NetsTurned", spec := "netsTurned", unfollowed := true, recurses := true, apart := false }
def NetsTurnedSaid : Prop := netsTurnedRow.holds Try.pinned (OpenSpec.ofChange netsTurnedSpec)

/-- ITS FALSE NEIGHBOUR: 'it returns false'. Refute it at one input. -/
def netsTurnedWrong : ChangeSpec := { name := "netsTurned", fn := fun _ => fun
  | [d1, d2, d3] => { results := [.lit (.bool false)], args := [d1, d2, d3] }
  | _ => none }
def NetsTurnedWrongFalsely : Prop := netsTurnedRow.holds Try.pinned (OpenSpec.ofChange netsTurnedWrong)

/-- 'hocketlaw23.NetsOwn': WHATEVER THE INPUT: true; the input reads as it did. -/
def netsOwnSpec : ChangeSpec := { name := "netsOwn", fn := fun _ => fun
  | [d1, d2] => { results := [.lit (.bool true)], args := [d1, d2] }
  | _ => none }
def netsOwnRow : OpenClaim := { program := "ytapmpenkceomdaa", sum := "eec31941c6053076b02b13a1a01e0a5265c4e218de9319c66274c955e6a25d70", func := "hocket/hocketlaw23.NetsOwn", spec := "netsOwn", unfollowed := true, recurses := true, apart := false }
def NetsOwnSaid : Prop := netsOwnRow.holds Try.pinned (OpenSpec.ofChange netsOwnSpec)

/-- ITS FALSE NEIGHBOUR: 'it returns false'. Refute it at one input. -/
def netsOwnWrong : ChangeSpec := { name := "netsOwn", fn := fun _ => fun
  | [d1, d2] => { results := [.lit (.bool false)], args := [d1, d2] }
  | _ => none }
def NetsOwnWrongFalsely : Prop := netsOwnRow.holds Try.pinned (OpenSpec.ofChange netsOwnWrong)

/-- 'hocketlaw23.NetsApart': WHATEVER THE INPUT: true; the input reads as it did. -/
def netsApartSpec : ChangeSpec := { name := "netsApart", fn := fun _ => fun
  | [d1, d2, d3] => { results := [.lit (.bool true)], args := [d1, d2, d3] }
  | _ => none }
def netsApartRow : OpenClaim := { program := "ytapmpenkceomdaa", sum := "eec31941c6053076b02b13a1a01e0a5265c4e218de9319c66274c955e6a25d70", func := "hocket/hocketlaw23.NetsApart", spec := "netsApart", unfollowed := true, recurses := true, apart := false }
def NetsApartSaid : Prop := netsApartRow.holds Try.pinned (OpenSpec.ofChange netsApartSpec)

/-- ITS FALSE NEIGHBOUR: 'it returns false'. Refute it at one input. -/
def netsApartWrong : ChangeSpec := { name := "netsApart", fn := fun _ => fun
  | [d1, d2, d3] => { results := [.lit (.bool false)], args := [d1, d2, d3] }
  | _ => none }
def NetsApartWrongFalsely : Prop := netsApartRow.holds Try.pinned (OpenSpec.ofChange netsApartWrong)

/-- 'hocketlaw23.NetsPlays': WHATEVER THE INPUT: true; the input reads as it did. -/
def netsPlaysSpec : ChangeSpec := { name := "netsPlays", fn := fun _ => fun
  | [d1, d2, d3] => { results := [.lit (.bool true)], args := [d1, d2, d3] }
  | _ => none }
def netsPlaysRow : OpenClaim := { program := "ytapmpenkceomdaa", sum := "eec31941c6053076b02b13a1a01e0a5265c4e218de9319c66274c955e6a25d70", func := "hocket/hocketlaw23.NetsPlays", spec := "netsPlays", unfollowed := true, recurses := true, apart := false }
def NetsPlaysSaid : Prop := netsPlaysRow.holds Try.pinned (OpenSpec.ofChange netsPlaysSpec)

/-- ITS FALSE NEIGHBOUR: 'it returns false'. Refute it at one input. -/
def netsPlaysWrong : ChangeSpec := { name := "netsPlays", fn := fun _ => fun
  | [d1, d2, d3] => { results := [.lit (.bool false)], args := [d1, d2, d3] }
  | _ => none }
def NetsPlaysWrongFalsely : Prop := netsPlaysRow.holds Try.pinned (OpenSpec.ofChange netsPlaysWrong)

/-- 'hocketlaw23.NetsFull': WHATEVER THE INPUT: true; the input reads as it did. -/
def netsFullSpec : ChangeSpec := { name := "netsFull", fn := fun _ => fun
  | [d1, d2] => { results := [.lit (.bool true)], args := [d1, d2] }
  | _ => none }
def netsFullRow : OpenClaim := { program := "ytapmpenkceomdaa", sum := "eec31941c6053076b02b13a1a01e0a5265c4e218de9319c66274c955e6a25d70", func := "hocket/hocketlaw23.NetsFull", spec := "netsFull", unfollowed := true, recurses := true, apart := false }
def NetsFullSaid : Prop := netsFullRow.holds Try.pinned (OpenSpec.ofChange netsFullSpec)

/-- ITS FALSE NEIGHBOUR: 'it returns false'. Refute it at one input. -/
def netsFullWrong : ChangeSpec := { name := "netsFull", fn := fun _ => fun
  | [d1, d2] => { results := [.lit (.bool false)], args := [d1, d2] }
  | _ => none }
def NetsFullWrongFalsely : Prop := netsFullRow.holds Try.pinned (OpenSpec.ofChange netsFullWrong)

/-- 'hocketlaw19.XferServes': WHATEVER THE INPUT: true; the input reads as it did. -/
def xferServesSpec : ChangeSpec := { name := "xferServes", fn := fun _ => fun
  | [d1, d2, d3, d4, d5] => { results := [.lit (.bool true)], args := [d1, d2, d3, d4, d5] }
  | _ => none }
def xferServesRow : OpenClaim := { program := "ytapmpenkceomdaa", sum := "eec31941c6053076b02b13a1a01e0a5265c4e218de9319c66274c955e6a25d70", func := "hocket/hocketlaw19.XferServes", spec := "xferServes", inPlace := ["internal/bytealg.Compare"], unfollowed := true, recurses := true, apart := false }
def XferServesSaid : Prop := xferServesRow.holds Try.pinned (OpenSpec.ofChange xferServesSpec)

/-- ITS FALSE NEIGHBOUR: 'it returns false'. Refute it at one input. -/
def xferServesWrong : ChangeSpec := { name := "xferServes", fn := fun _ => fun
  | [d1, d2, d3, d4, d5] => { results := [.lit (.bool false)], args := [d1, d2, d3, d4, d5] }
  | _ => none }
def XferServesWrongFalsely : Prop := xferServesRow.holds Try.pinned (OpenSpec.ofChange xferServesWrong)

/- THE SECOND FORM. 'bulk': how many values and letters a reading holds, each counted each time it is reached (what is shared counts as often as it is met; a slice's spare places count too). A statement '..UptoSaid' is the law's where the arguments, and the package variables that the reading takes, are together of bulk at most 1048576: NARROWER than '..Said'. Prove '..Said' where nothing that the law and all that it calls make is longer than what came in: it says more and counts as full. Else prove '..UptoSaid'. A law counts once. -/
mutual
def uptoBulk {H : Type} : DataW H → Nat
  | .lit (.string bytes) => bytes.length + 1
  | .lit _ => 1
  | .nil => 1
  | .ptr d => uptoBulk d + 1
  | .slice elems spare => uptoBulkAll elems + uptoBulkAll spare + 1
  | .agg parts => uptoBulkAll parts + 1
  | .iface _ d => uptoBulk d + 1
  | .map entries => uptoBulkEntries entries + 1
  | .held _ => 1
def uptoBulkAll {H : Type} : List (DataW H) → Nat
  | [] => 0
  | d :: r => uptoBulk d + uptoBulkAll r
def uptoBulkEntries {H : Type} : List (Lit × DataW H) → Nat
  | [] => 0
  | x :: r => uptoBulkEntry x + uptoBulkEntries r
def uptoBulkEntry {H : Type} : Lit × DataW H → Nat
  | (.string bytes, d) => bytes.length + uptoBulk d + 1
  | (_, d) => uptoBulk d + 1
 end
def uptoSmall : (H : Type) → List (DataW H) → Bool := fun _ ds => decide (uptoBulkAll ds ≤ 1048576)
def OpenSpec.upto (s : _root_.Go.ChangeSpec) : _root_.Go.OpenSpec := { _root_.Go.OpenSpec.ofChange s with cond := some uptoSmall }

/-- 'hocketlaw20.WaitOwn', WHERE WHAT IT READS IS OF BULK AT MOST 1048576: true; the input reads as it did. -/
def waitOwnUptoRow : OpenClaim := { program := "ytapmpenkceomdaa", sum := "eec31941c6053076b02b13a1a01e0a5265c4e218de9319c66274c955e6a25d70", func := "hocket/hocketlaw20.WaitOwn", spec := "waitOwn", unfollowed := true, recurses := true, apart := false, narrowed := true }
def WaitOwnUptoSaid : Prop := waitOwnUptoRow.holds Try.pinned (OpenSpec.upto waitOwnSpec)

/-- 'hocketlaw18.GathPlays', WHERE WHAT IT READS IS OF BULK AT MOST 1048576: true; the input reads as it did. -/
def gathPlaysUptoRow : OpenClaim := { program := "ytapmpenkceomdaa", sum := "eec31941c6053076b02b13a1a01e0a5265c4e218de9319c66274c955e6a25d70", func := "hocket/hocketlaw18.GathPlays", spec := "gathPlays", unfollowed := true, recurses := true, apart := false, narrowed := true }
def GathPlaysUptoSaid : Prop := gathPlaysUptoRow.holds Try.pinned (OpenSpec.upto gathPlaysSpec)

/-- 'hocketlaw11.MesgBounds', WHERE WHAT IT READS IS OF BULK AT MOST 1048576: true; the input reads as it did. -/
def mesgBoundsUptoRow : OpenClaim := { program := "ytapmpenkceomdaa", sum := "eec31941c6053076b02b13a1a01e0a5265c4e218de9319c66274c955e6a25d70", func := "hocket/hocketlaw11.MesgBounds", spec := "mesgBounds", unfollowed := true, recurses := true, apart := false, narrowed := true }
def MesgBoundsUptoSaid : Prop := mesgBoundsUptoRow.holds Try.pinned (OpenSpec.upto mesgBoundsSpec)

/-- 'hocketlaw11.MesgOwn', WHERE WHAT IT READS IS OF BULK AT MOST 1048576: true; the input reads as it did. -/
def mesgOwnUptoRow : OpenClaim := { program := "ytapmpenkceomdaa", sum := "eec31941c6053076b02b13a1a01e0a5265c4e218de9319c66274c955e6a25d70", func := "hocket/hocketlaw11.MesgOwn", spec := "mesgOwn", unfollowed := true, recurses := true, apart := false, narrowed := true }
def MesgOwnUptoSaid : Prop := mesgOwnUptoRow.holds Try.pinned (OpenSpec.upto mesgOwnSpec)

/-- 'hocketlaw11.MesgTells', WHERE WHAT IT READS IS OF BULK AT MOST 1048576: true; the input reads as it did. -/
def mesgTellsUptoRow : OpenClaim := { program := "ytapmpenkceomdaa", sum := "eec31941c6053076b02b13a1a01e0a5265c4e218de9319c66274c955e6a25d70", func := "hocket/hocketlaw11.MesgTells", spec := "mesgTells", unfollowed := true, recurses := true, apart := false, narrowed := true }
def MesgTellsUptoSaid : Prop := mesgTellsUptoRow.holds Try.pinned (OpenSpec.upto mesgTellsSpec)

/-- 'hocketlaw11.MesgBack', WHERE WHAT IT READS IS OF BULK AT MOST 1048576: true; the input reads as it did. -/
def mesgBackUptoRow : OpenClaim := { program := "ytapmpenkceomdaa", sum := "eec31941c6053076b02b13a1a01e0a5265c4e218de9319c66274c955e6a25d70", func := "hocket/hocketlaw11.MesgBack", spec := "mesgBack", unfollowed := true, recurses := true, apart := false, narrowed := true }
def MesgBackUptoSaid : Prop := mesgBackUptoRow.holds Try.pinned (OpenSpec.upto mesgBackSpec)

/-- 'hocketlaw15.BlobForms', WHERE WHAT IT READS IS OF BULK AT MOST 1048576: true; the input reads as it did. -/
def blobFormsUptoRow : OpenClaim := { program := "ytapmpenkceomdaa", sum := "eec31941c6053076b02b13a1a01e0a5265c4e218de9319c66274c955e6a25d70", func := "hocket/hocketlaw15.BlobForms", spec := "blobForms", inPlace := ["internal/bytealg.Compare"], unfollowed := true, recurses := true, apart := false, narrowed := true }
def BlobFormsUptoSaid : Prop := blobFormsUptoRow.holds Try.pinned (OpenSpec.upto blobFormsSpec)

/-- 'hocketlaw15.BlobOwn', WHERE WHAT IT READS IS OF BULK AT MOST 1048576: true; the input reads as it did. -/
def blobOwnUptoRow : OpenClaim := { program := "ytapmpenkceomdaa", sum := "eec31941c6053076b02b13a1a01e0a5265c4e218de9319c66274c955e6a25d70", func := "hocket/hocketlaw15.BlobOwn", spec := "blobOwn", inPlace := ["internal/bytealg.Compare"], unfollowed := true, recurses := true, apart := false, narrowed := true }
def BlobOwnUptoSaid : Prop := blobOwnUptoRow.holds Try.pinned (OpenSpec.upto blobOwnSpec)

/-- 'hocketlaw15.BlobTells', WHERE WHAT IT READS IS OF BULK AT MOST 1048576: true; the input reads as it did. -/
def blobTellsUptoRow : OpenClaim := { program := "ytapmpenkceomdaa", sum := "eec31941c6053076b02b13a1a01e0a5265c4e218de9319c66274c955e6a25d70", func := "hocket/hocketlaw15.BlobTells", spec := "blobTells", inPlace := ["internal/bytealg.Compare"], unfollowed := true, recurses := true, apart := false, narrowed := true }
def BlobTellsUptoSaid : Prop := blobTellsUptoRow.holds Try.pinned (OpenSpec.upto blobTellsSpec)

/-- 'hocketlaw15.BlobParts', WHERE WHAT IT READS IS OF BULK AT MOST 1048576: true; the input reads as it did. -/
def blobPartsUptoRow : OpenClaim := { program := "ytapmpenkceomdaa", sum := "eec31941c6053076b02b13a1a01e0a5265c4e218de9319c66274c955e6a25d70", func := "hocket/hocketlaw15.BlobParts", spec := "blobParts", inPlace := ["internal/bytealg.Compare"], unfollowed := true, recurses := true, apart := false, narrowed := true }
def BlobPartsUptoSaid : Prop := blobPartsUptoRow.holds Try.pinned (OpenSpec.upto blobPartsSpec)

/-- 'hocketlaw12.FramShort', WHERE WHAT IT READS IS OF BULK AT MOST 1048576: true; the input reads as it did. -/
def framShortUptoRow : OpenClaim := { program := "ytapmpenkceomdaa", sum := "eec31941c6053076b02b13a1a01e0a5265c4e218de9319c66274c955e6a25d70", func := "hocket/hocketlaw12.FramShort", spec := "framShort", unfollowed := true, recurses := true, apart := false, narrowed := true }
def FramShortUptoSaid : Prop := framShortUptoRow.holds Try.pinned (OpenSpec.upto framShortSpec)

/-- 'hocketlaw12.FramBursts', WHERE WHAT IT READS IS OF BULK AT MOST 1048576: true; the input reads as it did. -/
def framBurstsUptoRow : OpenClaim := { program := "ytapmpenkceomdaa", sum := "eec31941c6053076b02b13a1a01e0a5265c4e218de9319c66274c955e6a25d70", func := "hocket/hocketlaw12.FramBursts", spec := "framBursts", unfollowed := true, recurses := true, apart := false, narrowed := true }
def FramBurstsUptoSaid : Prop := framBurstsUptoRow.holds Try.pinned (OpenSpec.upto framBurstsSpec)

/-- 'hocketlaw12.FramTells', WHERE WHAT IT READS IS OF BULK AT MOST 1048576: true; the input reads as it did. -/
def framTellsUptoRow : OpenClaim := { program := "ytapmpenkceomdaa", sum := "eec31941c6053076b02b13a1a01e0a5265c4e218de9319c66274c955e6a25d70", func := "hocket/hocketlaw12.FramTells", spec := "framTells", unfollowed := true, recurses := true, apart := false, narrowed := true }
def FramTellsUptoSaid : Prop := framTellsUptoRow.holds Try.pinned (OpenSpec.upto framTellsSpec)

/-- 'hocketlaw12.FramTurned', WHERE WHAT IT READS IS OF BULK AT MOST 1048576: true; the input reads as it did. -/
def framTurnedUptoRow : OpenClaim := { program := "ytapmpenkceomdaa", sum := "eec31941c6053076b02b13a1a01e0a5265c4e218de9319c66274c955e6a25d70", func := "hocket/hocketlaw12.FramTurned", spec := "framTurned", unfollowed := true, recurses := true, apart := false, narrowed := true }
def FramTurnedUptoSaid : Prop := framTurnedUptoRow.holds Try.pinned (OpenSpec.upto framTurnedSpec)

/-- 'hocketlaw23.NetsOrder', WHERE WHAT IT READS IS OF BULK AT MOST 1048576: true; the input reads as it did. -/
def netsOrderUptoRow : OpenClaim := { program := "ytapmpenkceomdaa", sum := "eec31941c6053076b02b13a1a01e0a5265c4e218de9319c66274c955e6a25d70", func := "hocket/hocketlaw23.NetsOrder", spec := "netsOrder", unfollowed := true, recurses := true, apart := false, narrowed := true }
def NetsOrderUptoSaid : Prop := netsOrderUptoRow.holds Try.pinned (OpenSpec.upto netsOrderSpec)

/-- 'hocketlaw23.NetsTurned', WHERE WHAT IT READS IS OF BULK AT MOST 1048576: true; the input reads as it did. -/
def netsTurnedUptoRow : OpenClaim := { program := "ytapmpenkceomdaa", sum := "eec31941c6053076b02b13a1a01e0a5265c4e218de9319c66274c955e6a25d70", func := "hocket/hocketlaw23.NetsTurned", spec := "netsTurned", unfollowed := true, recurses := true, apart := false, narrowed := true }
def NetsTurnedUptoSaid : Prop := netsTurnedUptoRow.holds Try.pinned (OpenSpec.upto netsTurnedSpec)

/-- 'hocketlaw23.NetsOwn', WHERE WHAT IT READS IS OF BULK AT MOST 1048576: true; the input reads as it did. -/
def netsOwnUptoRow : OpenClaim := { program := "ytapmpenkceomdaa", sum := "eec31941c6053076b02b13a1a01e0a5265c4e218de9319c66274c955e6a25d70", func := "hocket/hocketlaw23.NetsOwn", spec := "netsOwn", unfollowed := true, recurses := true, apart := false, narrowed := true }
def NetsOwnUptoSaid : Prop := netsOwnUptoRow.holds Try.pinned (OpenSpec.upto netsOwnSpec)

/-- 'hocketlaw23.NetsApart', WHERE WHAT IT READS IS OF BULK AT MOST 1048576: true; the input reads as it did. -/
def netsApartUptoRow : OpenClaim := { program := "ytapmpenkceomdaa", sum := "eec31941c6053076b02b13a1a01e0a5265c4e218de9319c66274c955e6a25d70", func := "hocket/hocketlaw23.NetsApart", spec := "netsApart", unfollowed := true, recurses := true, apart := false, narrowed := true }
def NetsApartUptoSaid : Prop := netsApartUptoRow.holds Try.pinned (OpenSpec.upto netsApartSpec)

/-- 'hocketlaw23.NetsPlays', WHERE WHAT IT READS IS OF BULK AT MOST 1048576: true; the input reads as it did. -/
def netsPlaysUptoRow : OpenClaim := { program := "ytapmpenkceomdaa", sum := "eec31941c6053076b02b13a1a01e0a5265c4e218de9319c66274c955e6a25d70", func := "hocket/hocketlaw23.NetsPlays", spec := "netsPlays", unfollowed := true, recurses := true, apart := false, narrowed := true }
def NetsPlaysUptoSaid : Prop := netsPlaysUptoRow.holds Try.pinned (OpenSpec.upto netsPlaysSpec)

/-- 'hocketlaw23.NetsFull', WHERE WHAT IT READS IS OF BULK AT MOST 1048576: true; the input reads as it did. -/
def netsFullUptoRow : OpenClaim := { program := "ytapmpenkceomdaa", sum := "eec31941c6053076b02b13a1a01e0a5265c4e218de9319c66274c955e6a25d70", func := "hocket/hocketlaw23.NetsFull", spec := "netsFull", unfollowed := true, recurses := true, apart := false, narrowed := true }
def NetsFullUptoSaid : Prop := netsFullUptoRow.holds Try.pinned (OpenSpec.upto netsFullSpec)

/-- 'hocketlaw19.XferServes', WHERE WHAT IT READS IS OF BULK AT MOST 1048576: true; the input reads as it did. -/
def xferServesUptoRow : OpenClaim := { program := "ytapmpenkceomdaa", sum := "eec31941c6053076b02b13a1a01e0a5265c4e218de9319c66274c955e6a25d70", func := "hocket/hocketlaw19.XferServes", spec := "xferServes", inPlace := ["internal/bytealg.Compare"], unfollowed := true, recurses := true, apart := false, narrowed := true }
def XferServesUptoSaid : Prop := xferServesUptoRow.holds Try.pinned (OpenSpec.upto xferServesSpec)

end Rows
end Go.Proofs.Ytapmpenkceomdaa
