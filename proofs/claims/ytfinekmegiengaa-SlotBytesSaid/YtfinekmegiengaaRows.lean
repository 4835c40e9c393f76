/-
  No cell of these rows narrows 'for every input' (looked for: loops, veiled, ifaces, maps, wideKeys, modest, calm, conditions, laid).
  DERIVED. THE GIVEN ROWS OF THIS SEAT. 26 by the template 'for every input the law returns true; each argument reads behind the call as it read before'; 0 by the template 'total and deterministic' (their statements: YtfinekmegiengaaTotals.lean).
  GIVEN WITH THE SEED: the statements are not yours to turn. If you find one false, say at which input.
  Laid BY PROGRAM, IN A SANDBOX (cutbox-rows.mjs): the forced cells as the released guide's own fill.sh prints them over the translation 1c033e09e99196fd… (all of the seat's roots in one cut). By AI agents, Wed Nov 11 2026. No macro, syntax, notation, axiom, sorry.
-/
import Derived.Test.YtfinekmegiengaaChecked
import GoSem.Claim
import GoSem.ClaimJoined
import GoSem.ClaimMapViews
import Derived.JoinedTies
import Derived.KernelRfl
namespace Go.Proofs.Ytfinekmegiengaa
/- THE CELL 'sum', in the pinned program and in every row, IS THE sha256 OF THE DUMP (.gsa) THAT YtfinekmegiengaaProg.lean LOADS. Nothing in Lean hashes anything: it is a label: what it is worth is what the hold of that sum in a sandbox is worth. -/
noncomputable def Try.pinned : Pinned := { name := "ytfinekmegiengaa", sum := "1c033e09e99196fd435b87790c7c23435b2a13c0d344631afef918173666eeb9", checked := Try.checked }
namespace Rows
def none {H : Type} : Left H := { results := [], args := [] }

/-- 'nepenthelaw06.SboxSubs': WHATEVER THE INPUT: true; the input reads as it did. -/
def sboxSubsSpec : ChangeSpec := { name := "sboxSubs", fn := fun _ => fun
  | [d] => { results := [.lit (.bool true)], args := [d] }
  | _ => none }
def sboxSubsRow : OpenClaim := { program := "ytfinekmegiengaa", sum := "1c033e09e99196fd435b87790c7c23435b2a13c0d344631afef918173666eeb9", func := "nepenthe/nepenthelaw06.SboxSubs", spec := "sboxSubs", apart := false }
def SboxSubsSaid : Prop := sboxSubsRow.holds Try.pinned (OpenSpec.ofChange sboxSubsSpec)

/-- ITS FALSE NEIGHBOUR: 'it returns false'. Refute it at one input. -/
def sboxSubsWrong : ChangeSpec := { name := "sboxSubs", fn := fun _ => fun
  | [d] => { results := [.lit (.bool false)], args := [d] }
  | _ => none }
def SboxSubsWrongFalsely : Prop := sboxSubsRow.holds Try.pinned (OpenSpec.ofChange sboxSubsWrong)

/-- 'nepenthelaw06.SboxWords': WHATEVER THE INPUT: true; the input reads as it did. -/
def sboxWordsSpec : ChangeSpec := { name := "sboxWords", fn := fun _ => fun
  | [d] => { results := [.lit (.bool true)], args := [d] }
  | _ => none }
def sboxWordsRow : OpenClaim := { program := "ytfinekmegiengaa", sum := "1c033e09e99196fd435b87790c7c23435b2a13c0d344631afef918173666eeb9", func := "nepenthe/nepenthelaw06.SboxWords", spec := "sboxWords", apart := false }
def SboxWordsSaid : Prop := sboxWordsRow.holds Try.pinned (OpenSpec.ofChange sboxWordsSpec)

/-- ITS FALSE NEIGHBOUR: 'it returns false'. Refute it at one input. -/
def sboxWordsWrong : ChangeSpec := { name := "sboxWords", fn := fun _ => fun
  | [d] => { results := [.lit (.bool false)], args := [d] }
  | _ => none }
def SboxWordsWrongFalsely : Prop := sboxWordsRow.holds Try.pinned (OpenSpec.ofChange sboxWordsWrong)

/-- 'nepenthelaw06.SboxLists': WHATEVER THE INPUT: true; the input reads as it did. -/
def sboxListsSpec : ChangeSpec := { name := "sboxLists", fn := fun _ => fun
  | [d] => { results := [.lit (.bool true)], args := [d] }
  | _ => none }
def sboxListsRow : OpenClaim := { program := "ytfinekmegiengaa", sum := "1c033e09e99196fd435b87790c7c23435b2a13c0d344631afef918173666eeb9", func := "nepenthe/nepenthelaw06.SboxLists", spec := "sboxLists", apart := false }
def SboxListsSaid : Prop := sboxListsRow.holds Try.pinned (OpenSpec.ofChange sboxListsSpec)

/-- ITS FALSE NEIGHBOUR: 'it returns false'. Refute it at one input. -/
def sboxListsWrong : ChangeSpec := { name := "sboxLists", fn := fun _ => fun
  | [d] => { results := [.lit (.bool false)], args := [d] }
  | _ => none }
def SboxListsWrongFalsely : Prop := sboxListsRow.holds Try.pinned (OpenSpec.ofChange sboxListsWrong)

/-- 'nepenthelaw07.AesExpands': WHATEVER THE INPUT: true; the input reads as it did. -/
def aesExpandsSpec : ChangeSpec := { name := "aesExpands", fn := fun _ => fun
  | [d] => { results := [.lit (.bool true)], args := [d] }
  | _ => none }
def aesExpandsRow : OpenClaim := { program := "ytfinekmegiengaa", sum := "1c033e09e99196fd435b87790c7c23435b2a13c0d344631afef918173666eeb9", func := "nepenthe/nepenthelaw07.AesExpands", spec := "aesExpands", unfollowed := true, recurses := true, apart := false }
def AesExpandsSaid : Prop := aesExpandsRow.holds Try.pinned (OpenSpec.ofChange aesExpandsSpec)

/-- ITS FALSE NEIGHBOUR: 'it returns false'. Refute it at one input. -/
def aesExpandsWrong : ChangeSpec := { name := "aesExpands", fn := fun _ => fun
  | [d] => { results := [.lit (.bool false)], args := [d] }
  | _ => none }
def AesExpandsWrongFalsely : Prop := aesExpandsRow.holds Try.pinned (OpenSpec.ofChange aesExpandsWrong)

/-- 'nepenthelaw07.AesEncrypts': WHATEVER THE INPUT: true; the input reads as it did. -/
def aesEncryptsSpec : ChangeSpec := { name := "aesEncrypts", fn := fun _ => fun
  | [d1, d2] => { results := [.lit (.bool true)], args := [d1, d2] }
  | _ => none }
def aesEncryptsRow : OpenClaim := { program := "ytfinekmegiengaa", sum := "1c033e09e99196fd435b87790c7c23435b2a13c0d344631afef918173666eeb9", func := "nepenthe/nepenthelaw07.AesEncrypts", spec := "aesEncrypts", unfollowed := true, recurses := true, apart := false }
def AesEncryptsSaid : Prop := aesEncryptsRow.holds Try.pinned (OpenSpec.ofChange aesEncryptsSpec)

/-- ITS FALSE NEIGHBOUR: 'it returns false'. Refute it at one input. -/
def aesEncryptsWrong : ChangeSpec := { name := "aesEncrypts", fn := fun _ => fun
  | [d1, d2] => { results := [.lit (.bool false)], args := [d1, d2] }
  | _ => none }
def AesEncryptsWrongFalsely : Prop := aesEncryptsRow.holds Try.pinned (OpenSpec.ofChange aesEncryptsWrong)

/-- 'nepenthelaw07.AesShifts': WHATEVER THE INPUT: true; the input reads as it did. -/
def aesShiftsSpec : ChangeSpec := { name := "aesShifts", fn := fun _ => fun
  | [d] => { results := [.lit (.bool true)], args := [d] }
  | _ => none }
def aesShiftsRow : OpenClaim := { program := "ytfinekmegiengaa", sum := "1c033e09e99196fd435b87790c7c23435b2a13c0d344631afef918173666eeb9", func := "nepenthe/nepenthelaw07.AesShifts", spec := "aesShifts", unfollowed := true, recurses := true, apart := false }
def AesShiftsSaid : Prop := aesShiftsRow.holds Try.pinned (OpenSpec.ofChange aesShiftsSpec)

/-- ITS FALSE NEIGHBOUR: 'it returns false'. Refute it at one input. -/
def aesShiftsWrong : ChangeSpec := { name := "aesShifts", fn := fun _ => fun
  | [d] => { results := [.lit (.bool false)], args := [d] }
  | _ => none }
def AesShiftsWrongFalsely : Prop := aesShiftsRow.holds Try.pinned (OpenSpec.ofChange aesShiftsWrong)

/-- 'nepenthelaw07.AesDecrypts': WHATEVER THE INPUT: true; the input reads as it did. -/
def aesDecryptsSpec : ChangeSpec := { name := "aesDecrypts", fn := fun _ => fun
  | [d1, d2] => { results := [.lit (.bool true)], args := [d1, d2] }
  | _ => none }
def aesDecryptsRow : OpenClaim := { program := "ytfinekmegiengaa", sum := "1c033e09e99196fd435b87790c7c23435b2a13c0d344631afef918173666eeb9", func := "nepenthe/nepenthelaw07.AesDecrypts", spec := "aesDecrypts", unfollowed := true, recurses := true, apart := false }
def AesDecryptsSaid : Prop := aesDecryptsRow.holds Try.pinned (OpenSpec.ofChange aesDecryptsSpec)

/-- ITS FALSE NEIGHBOUR: 'it returns false'. Refute it at one input. -/
def aesDecryptsWrong : ChangeSpec := { name := "aesDecrypts", fn := fun _ => fun
  | [d1, d2] => { results := [.lit (.bool false)], args := [d1, d2] }
  | _ => none }
def AesDecryptsWrongFalsely : Prop := aesDecryptsRow.holds Try.pinned (OpenSpec.ofChange aesDecryptsWrong)

/-- 'nepenthelaw07.AesBack': WHATEVER THE INPUT: true; the input reads as it did. -/
def aesBackSpec : ChangeSpec := { name := "aesBack", fn := fun _ => fun
  | [d1, d2] => { results := [.lit (.bool true)], args := [d1, d2] }
  | _ => none }
def aesBackRow : OpenClaim := { program := "ytfinekmegiengaa", sum := "1c033e09e99196fd435b87790c7c23435b2a13c0d344631afef918173666eeb9", func := "nepenthe/nepenthelaw07.AesBack", spec := "aesBack", unfollowed := true, recurses := true, apart := false }
def AesBackSaid : Prop := aesBackRow.holds Try.pinned (OpenSpec.ofChange aesBackSpec)

/-- ITS FALSE NEIGHBOUR: 'it returns false'. Refute it at one input. -/
def aesBackWrong : ChangeSpec := { name := "aesBack", fn := fun _ => fun
  | [d1, d2] => { results := [.lit (.bool false)], args := [d1, d2] }
  | _ => none }
def AesBackWrongFalsely : Prop := aesBackRow.holds Try.pinned (OpenSpec.ofChange aesBackWrong)

/-- 'nepenthelaw07.AesNil': WHATEVER THE INPUT: true; the input reads as it did. -/
def aesNilSpec : ChangeSpec := { name := "aesNil", fn := fun _ => fun
  | [d] => { results := [.lit (.bool true)], args := [d] }
  | _ => none }
def aesNilRow : OpenClaim := { program := "ytfinekmegiengaa", sum := "1c033e09e99196fd435b87790c7c23435b2a13c0d344631afef918173666eeb9", func := "nepenthe/nepenthelaw07.AesNil", spec := "aesNil", unfollowed := true, recurses := true, apart := false }
def AesNilSaid : Prop := aesNilRow.holds Try.pinned (OpenSpec.ofChange aesNilSpec)

/-- ITS FALSE NEIGHBOUR: 'it returns false'. Refute it at one input. -/
def aesNilWrong : ChangeSpec := { name := "aesNil", fn := fun _ => fun
  | [d] => { results := [.lit (.bool false)], args := [d] }
  | _ => none }
def AesNilWrongFalsely : Prop := aesNilRow.holds Try.pinned (OpenSpec.ofChange aesNilWrong)

/-- 'nepenthelaw17.SlotDeads': WHATEVER THE INPUT: true; the input reads as it did. -/
def slotDeadsSpec : ChangeSpec := { name := "slotDeads", fn := fun _ => fun
  | [d1, d2, d3] => { results := [.lit (.bool true)], args := [d1, d2, d3] }
  | _ => none }
def slotDeadsRow : OpenClaim := { program := "ytfinekmegiengaa", sum := "1c033e09e99196fd435b87790c7c23435b2a13c0d344631afef918173666eeb9", func := "nepenthe/nepenthelaw17.SlotDeads", spec := "slotDeads", unfollowed := true, recurses := true, apart := false }
def SlotDeadsSaid : Prop := slotDeadsRow.holds Try.pinned (OpenSpec.ofChange slotDeadsSpec)

/-- ITS FALSE NEIGHBOUR: 'it returns false'. Refute it at one input. -/
def slotDeadsWrong : ChangeSpec := { name := "slotDeads", fn := fun _ => fun
  | [d1, d2, d3] => { results := [.lit (.bool false)], args := [d1, d2, d3] }
  | _ => none }
def SlotDeadsWrongFalsely : Prop := slotDeadsRow.holds Try.pinned (OpenSpec.ofChange slotDeadsWrong)

/-- 'nepenthelaw09.XtsEncrypts': WHATEVER THE INPUT: true; the input reads as it did. -/
def xtsEncryptsSpec : ChangeSpec := { name := "xtsEncrypts", fn := fun _ => fun
  | [d1, d2] => { results := [.lit (.bool true)], args := [d1, d2] }
  | _ => none }
def xtsEncryptsRow : OpenClaim := { program := "ytfinekmegiengaa", sum := "1c033e09e99196fd435b87790c7c23435b2a13c0d344631afef918173666eeb9", func := "nepenthe/nepenthelaw09.XtsEncrypts", spec := "xtsEncrypts", unfollowed := true, recurses := true, apart := false }
def XtsEncryptsSaid : Prop := xtsEncryptsRow.holds Try.pinned (OpenSpec.ofChange xtsEncryptsSpec)

/-- ITS FALSE NEIGHBOUR: 'it returns false'. Refute it at one input. -/
def xtsEncryptsWrong : ChangeSpec := { name := "xtsEncrypts", fn := fun _ => fun
  | [d1, d2] => { results := [.lit (.bool false)], args := [d1, d2] }
  | _ => none }
def XtsEncryptsWrongFalsely : Prop := xtsEncryptsRow.holds Try.pinned (OpenSpec.ofChange xtsEncryptsWrong)

/-- 'nepenthelaw09.XtsBlocks': WHATEVER THE INPUT: true; the input reads as it did. -/
def xtsBlocksSpec : ChangeSpec := { name := "xtsBlocks", fn := fun _ => fun
  | [d1, d2, d3] => { results := [.lit (.bool true)], args := [d1, d2, d3] }
  | _ => none }
def xtsBlocksRow : OpenClaim := { program := "ytfinekmegiengaa", sum := "1c033e09e99196fd435b87790c7c23435b2a13c0d344631afef918173666eeb9", func := "nepenthe/nepenthelaw09.XtsBlocks", spec := "xtsBlocks", unfollowed := true, recurses := true, apart := false }
def XtsBlocksSaid : Prop := xtsBlocksRow.holds Try.pinned (OpenSpec.ofChange xtsBlocksSpec)

/-- ITS FALSE NEIGHBOUR: 'it returns false'. Refute it at one input. -/
def xtsBlocksWrong : ChangeSpec := { name := "xtsBlocks", fn := fun _ => fun
  | [d1, d2, d3] => { results := [.lit (.bool false)], args := [d1, d2, d3] }
  | _ => none }
def XtsBlocksWrongFalsely : Prop := xtsBlocksRow.holds Try.pinned (OpenSpec.ofChange xtsBlocksWrong)

/-- 'nepenthelaw17.SlotReads': WHATEVER THE INPUT: true; the input reads as it did. -/
def slotReadsSpec : ChangeSpec := { name := "slotReads", fn := fun _ => fun
  | [d] => { results := [.lit (.bool true)], args := [d] }
  | _ => none }
def slotReadsRow : OpenClaim := { program := "ytfinekmegiengaa", sum := "1c033e09e99196fd435b87790c7c23435b2a13c0d344631afef918173666eeb9", func := "nepenthe/nepenthelaw17.SlotReads", spec := "slotReads", unfollowed := true, recurses := true, apart := false }
def SlotReadsSaid : Prop := slotReadsRow.holds Try.pinned (OpenSpec.ofChange slotReadsSpec)

/-- ITS FALSE NEIGHBOUR: 'it returns false'. Refute it at one input. -/
def slotReadsWrong : ChangeSpec := { name := "slotReads", fn := fun _ => fun
  | [d] => { results := [.lit (.bool false)], args := [d] }
  | _ => none }
def SlotReadsWrongFalsely : Prop := slotReadsRow.holds Try.pinned (OpenSpec.ofChange slotReadsWrong)

/-- 'nepenthelaw17.SlotBytes': WHATEVER THE INPUT: true; the input reads as it did. -/
def slotBytesSpec : ChangeSpec := { name := "slotBytes", fn := fun _ => fun
  | [d] => { results := [.lit (.bool true)], args := [d] }
  | _ => none }
def slotBytesRow : OpenClaim := { program := "ytfinekmegiengaa", sum := "1c033e09e99196fd435b87790c7c23435b2a13c0d344631afef918173666eeb9", func := "nepenthe/nepenthelaw17.SlotBytes", spec := "slotBytes", unfollowed := true, recurses := true, apart := false }
def SlotBytesSaid : Prop := slotBytesRow.holds Try.pinned (OpenSpec.ofChange slotBytesSpec)

/-- ITS FALSE NEIGHBOUR: 'it returns false'. Refute it at one input. -/
def slotBytesWrong : ChangeSpec := { name := "slotBytes", fn := fun _ => fun
  | [d] => { results := [.lit (.bool false)], args := [d] }
  | _ => none }
def SlotBytesWrongFalsely : Prop := slotBytesRow.holds Try.pinned (OpenSpec.ofChange slotBytesWrong)

/-- 'nepenthelaw10.WrapWraps': WHATEVER THE INPUT: true; the input reads as it did. -/
def wrapWrapsSpec : ChangeSpec := { name := "wrapWraps", fn := fun _ => fun
  | [d1, d2] => { results := [.lit (.bool true)], args := [d1, d2] }
  | _ => none }
def wrapWrapsRow : OpenClaim := { program := "ytfinekmegiengaa", sum := "1c033e09e99196fd435b87790c7c23435b2a13c0d344631afef918173666eeb9", func := "nepenthe/nepenthelaw10.WrapWraps", spec := "wrapWraps", unfollowed := true, recurses := true, apart := false }
def WrapWrapsSaid : Prop := wrapWrapsRow.holds Try.pinned (OpenSpec.ofChange wrapWrapsSpec)

/-- ITS FALSE NEIGHBOUR: 'it returns false'. Refute it at one input. -/
def wrapWrapsWrong : ChangeSpec := { name := "wrapWraps", fn := fun _ => fun
  | [d1, d2] => { results := [.lit (.bool false)], args := [d1, d2] }
  | _ => none }
def WrapWrapsWrongFalsely : Prop := wrapWrapsRow.holds Try.pinned (OpenSpec.ofChange wrapWrapsWrong)

/-- 'nepenthelaw10.WrapUnwraps': WHATEVER THE INPUT: true; the input reads as it did. -/
def wrapUnwrapsSpec : ChangeSpec := { name := "wrapUnwraps", fn := fun _ => fun
  | [d1, d2] => { results := [.lit (.bool true)], args := [d1, d2] }
  | _ => none }
def wrapUnwrapsRow : OpenClaim := { program := "ytfinekmegiengaa", sum := "1c033e09e99196fd435b87790c7c23435b2a13c0d344631afef918173666eeb9", func := "nepenthe/nepenthelaw10.WrapUnwraps", spec := "wrapUnwraps", unfollowed := true, recurses := true, apart := false }
def WrapUnwrapsSaid : Prop := wrapUnwrapsRow.holds Try.pinned (OpenSpec.ofChange wrapUnwrapsSpec)

/-- ITS FALSE NEIGHBOUR: 'it returns false'. Refute it at one input. -/
def wrapUnwrapsWrong : ChangeSpec := { name := "wrapUnwraps", fn := fun _ => fun
  | [d1, d2] => { results := [.lit (.bool false)], args := [d1, d2] }
  | _ => none }
def WrapUnwrapsWrongFalsely : Prop := wrapUnwrapsRow.holds Try.pinned (OpenSpec.ofChange wrapUnwrapsWrong)

/-- 'nepenthelaw10.WrapBack': WHATEVER THE INPUT: true; the input reads as it did. -/
def wrapBackSpec : ChangeSpec := { name := "wrapBack", fn := fun _ => fun
  | [d1, d2] => { results := [.lit (.bool true)], args := [d1, d2] }
  | _ => none }
def wrapBackRow : OpenClaim := { program := "ytfinekmegiengaa", sum := "1c033e09e99196fd435b87790c7c23435b2a13c0d344631afef918173666eeb9", func := "nepenthe/nepenthelaw10.WrapBack", spec := "wrapBack", unfollowed := true, recurses := true, apart := false }
def WrapBackSaid : Prop := wrapBackRow.holds Try.pinned (OpenSpec.ofChange wrapBackSpec)

/-- ITS FALSE NEIGHBOUR: 'it returns false'. Refute it at one input. -/
def wrapBackWrong : ChangeSpec := { name := "wrapBack", fn := fun _ => fun
  | [d1, d2] => { results := [.lit (.bool false)], args := [d1, d2] }
  | _ => none }
def WrapBackWrongFalsely : Prop := wrapBackRow.holds Try.pinned (OpenSpec.ofChange wrapBackWrong)

/-- 'nepenthelaw10.WrapAgain': WHATEVER THE INPUT: true; the input reads as it did. -/
def wrapAgainSpec : ChangeSpec := { name := "wrapAgain", fn := fun _ => fun
  | [d1, d2] => { results := [.lit (.bool true)], args := [d1, d2] }
  | _ => none }
def wrapAgainRow : OpenClaim := { program := "ytfinekmegiengaa", sum := "1c033e09e99196fd435b87790c7c23435b2a13c0d344631afef918173666eeb9", func := "nepenthe/nepenthelaw10.WrapAgain", spec := "wrapAgain", unfollowed := true, recurses := true, apart := false }
def WrapAgainSaid : Prop := wrapAgainRow.holds Try.pinned (OpenSpec.ofChange wrapAgainSpec)

/-- ITS FALSE NEIGHBOUR: 'it returns false'. Refute it at one input. -/
def wrapAgainWrong : ChangeSpec := { name := "wrapAgain", fn := fun _ => fun
  | [d1, d2] => { results := [.lit (.bool false)], args := [d1, d2] }
  | _ => none }
def WrapAgainWrongFalsely : Prop := wrapAgainRow.holds Try.pinned (OpenSpec.ofChange wrapAgainWrong)

/-- 'nepenthelaw09.XtsDecrypts': WHATEVER THE INPUT: true; the input reads as it did. -/
def xtsDecryptsSpec : ChangeSpec := { name := "xtsDecrypts", fn := fun _ => fun
  | [d1, d2] => { results := [.lit (.bool true)], args := [d1, d2] }
  | _ => none }
def xtsDecryptsRow : OpenClaim := { program := "ytfinekmegiengaa", sum := "1c033e09e99196fd435b87790c7c23435b2a13c0d344631afef918173666eeb9", func := "nepenthe/nepenthelaw09.XtsDecrypts", spec := "xtsDecrypts", unfollowed := true, recurses := true, apart := false }
def XtsDecryptsSaid : Prop := xtsDecryptsRow.holds Try.pinned (OpenSpec.ofChange xtsDecryptsSpec)

/-- ITS FALSE NEIGHBOUR: 'it returns false'. Refute it at one input. -/
def xtsDecryptsWrong : ChangeSpec := { name := "xtsDecrypts", fn := fun _ => fun
  | [d1, d2] => { results := [.lit (.bool false)], args := [d1, d2] }
  | _ => none }
def XtsDecryptsWrongFalsely : Prop := xtsDecryptsRow.holds Try.pinned (OpenSpec.ofChange xtsDecryptsWrong)

/-- 'nepenthelaw09.XtsBack': WHATEVER THE INPUT: true; the input reads as it did. -/
def xtsBackSpec : ChangeSpec := { name := "xtsBack", fn := fun _ => fun
  | [d1, d2] => { results := [.lit (.bool true)], args := [d1, d2] }
  | _ => none }
def xtsBackRow : OpenClaim := { program := "ytfinekmegiengaa", sum := "1c033e09e99196fd435b87790c7c23435b2a13c0d344631afef918173666eeb9", func := "nepenthe/nepenthelaw09.XtsBack", spec := "xtsBack", unfollowed := true, recurses := true, apart := false }
def XtsBackSaid : Prop := xtsBackRow.holds Try.pinned (OpenSpec.ofChange xtsBackSpec)

/-- ITS FALSE NEIGHBOUR: 'it returns false'. Refute it at one input. -/
def xtsBackWrong : ChangeSpec := { name := "xtsBack", fn := fun _ => fun
  | [d1, d2] => { results := [.lit (.bool false)], args := [d1, d2] }
  | _ => none }
def XtsBackWrongFalsely : Prop := xtsBackRow.holds Try.pinned (OpenSpec.ofChange xtsBackWrong)

/-- 'nepenthelaw17.SlotMakes': WHATEVER THE INPUT: true; the input reads as it did. -/
def slotMakesSpec : ChangeSpec := { name := "slotMakes", fn := fun _ => fun
  | [d1, d2, d3] => { results := [.lit (.bool true)], args := [d1, d2, d3] }
  | _ => none }
def slotMakesRow : OpenClaim := { program := "ytfinekmegiengaa", sum := "1c033e09e99196fd435b87790c7c23435b2a13c0d344631afef918173666eeb9", func := "nepenthe/nepenthelaw17.SlotMakes", spec := "slotMakes", unfollowed := true, recurses := true, apart := false }
def SlotMakesSaid : Prop := slotMakesRow.holds Try.pinned (OpenSpec.ofChange slotMakesSpec)

/-- ITS FALSE NEIGHBOUR: 'it returns false'. Refute it at one input. -/
def slotMakesWrong : ChangeSpec := { name := "slotMakes", fn := fun _ => fun
  | [d1, d2, d3] => { results := [.lit (.bool false)], args := [d1, d2, d3] }
  | _ => none }
def SlotMakesWrongFalsely : Prop := slotMakesRow.holds Try.pinned (OpenSpec.ofChange slotMakesWrong)

/-- 'nepenthelaw17.SlotKeys': WHATEVER THE INPUT: true; the input reads as it did. -/
def slotKeysSpec : ChangeSpec := { name := "slotKeys", fn := fun _ => fun
  | [d1, d2] => { results := [.lit (.bool true)], args := [d1, d2] }
  | _ => none }
def slotKeysRow : OpenClaim := { program := "ytfinekmegiengaa", sum := "1c033e09e99196fd435b87790c7c23435b2a13c0d344631afef918173666eeb9", func := "nepenthe/nepenthelaw17.SlotKeys", spec := "slotKeys", unfollowed := true, recurses := true, apart := false }
def SlotKeysSaid : Prop := slotKeysRow.holds Try.pinned (OpenSpec.ofChange slotKeysSpec)

/-- ITS FALSE NEIGHBOUR: 'it returns false'. Refute it at one input. -/
def slotKeysWrong : ChangeSpec := { name := "slotKeys", fn := fun _ => fun
  | [d1, d2] => { results := [.lit (.bool false)], args := [d1, d2] }
  | _ => none }
def SlotKeysWrongFalsely : Prop := slotKeysRow.holds Try.pinned (OpenSpec.ofChange slotKeysWrong)

/-- 'nepenthelaw16.SealSeals': WHATEVER THE INPUT: true; the input reads as it did. -/
def sealSealsSpec : ChangeSpec := { name := "sealSeals", fn := fun _ => fun
  | [d1, d2, d3] => { results := [.lit (.bool true)], args := [d1, d2, d3] }
  | _ => none }
def sealSealsRow : OpenClaim := { program := "ytfinekmegiengaa", sum := "1c033e09e99196fd435b87790c7c23435b2a13c0d344631afef918173666eeb9", func := "nepenthe/nepenthelaw16.SealSeals", spec := "sealSeals", unfollowed := true, recurses := true, apart := false }
def SealSealsSaid : Prop := sealSealsRow.holds Try.pinned (OpenSpec.ofChange sealSealsSpec)

/-- ITS FALSE NEIGHBOUR: 'it returns false'. Refute it at one input. -/
def sealSealsWrong : ChangeSpec := { name := "sealSeals", fn := fun _ => fun
  | [d1, d2, d3] => { results := [.lit (.bool false)], args := [d1, d2, d3] }
  | _ => none }
def SealSealsWrongFalsely : Prop := sealSealsRow.holds Try.pinned (OpenSpec.ofChange sealSealsWrong)

/-- 'nepenthelaw16.SealTags': WHATEVER THE INPUT: true; the input reads as it did. -/
def sealTagsSpec : ChangeSpec := { name := "sealTags", fn := fun _ => fun
  | [d1, d2, d3] => { results := [.lit (.bool true)], args := [d1, d2, d3] }
  | _ => none }
def sealTagsRow : OpenClaim := { program := "ytfinekmegiengaa", sum := "1c033e09e99196fd435b87790c7c23435b2a13c0d344631afef918173666eeb9", func := "nepenthe/nepenthelaw16.SealTags", spec := "sealTags", unfollowed := true, recurses := true, apart := false }
def SealTagsSaid : Prop := sealTagsRow.holds Try.pinned (OpenSpec.ofChange sealTagsSpec)

/-- ITS FALSE NEIGHBOUR: 'it returns false'. Refute it at one input. -/
def sealTagsWrong : ChangeSpec := { name := "sealTags", fn := fun _ => fun
  | [d1, d2, d3] => { results := [.lit (.bool false)], args := [d1, d2, d3] }
  | _ => none }
def SealTagsWrongFalsely : Prop := sealTagsRow.holds Try.pinned (OpenSpec.ofChange sealTagsWrong)

/-- 'nepenthelaw16.SealBack': WHATEVER THE INPUT: true; the input reads as it did. -/
def sealBackSpec : ChangeSpec := { name := "sealBack", fn := fun _ => fun
  | [d1, d2, d3] => { results := [.lit (.bool true)], args := [d1, d2, d3] }
  | _ => none }
def sealBackRow : OpenClaim := { program := "ytfinekmegiengaa", sum := "1c033e09e99196fd435b87790c7c23435b2a13c0d344631afef918173666eeb9", func := "nepenthe/nepenthelaw16.SealBack", spec := "sealBack", unfollowed := true, recurses := true, apart := false }
def SealBackSaid : Prop := sealBackRow.holds Try.pinned (OpenSpec.ofChange sealBackSpec)

/-- ITS FALSE NEIGHBOUR: 'it returns false'. Refute it at one input. -/
def sealBackWrong : ChangeSpec := { name := "sealBack", fn := fun _ => fun
  | [d1, d2, d3] => { results := [.lit (.bool false)], args := [d1, d2, d3] }
  | _ => none }
def SealBackWrongFalsely : Prop := sealBackRow.holds Try.pinned (OpenSpec.ofChange sealBackWrong)

/-- 'nepenthelaw34.BackupBack': WHATEVER THE INPUT: true; the input reads as it did. -/
def backupBackSpec : ChangeSpec := { name := "backupBack", fn := fun _ => fun
  | [d1, d2, d3] => { results := [.lit (.bool true)], args := [d1, d2, d3] }
  | _ => none }
def backupBackRow : OpenClaim := { program := "ytfinekmegiengaa", sum := "1c033e09e99196fd435b87790c7c23435b2a13c0d344631afef918173666eeb9", func := "nepenthe/nepenthelaw34.BackupBack", spec := "backupBack", unfollowed := true, recurses := true, apart := false }
def BackupBackSaid : Prop := backupBackRow.holds Try.pinned (OpenSpec.ofChange backupBackSpec)

/-- ITS FALSE NEIGHBOUR: 'it returns false'. Refute it at one input. -/
def backupBackWrong : ChangeSpec := { name := "backupBack", fn := fun _ => fun
  | [d1, d2, d3] => { results := [.lit (.bool false)], args := [d1, d2, d3] }
  | _ => none }
def BackupBackWrongFalsely : Prop := backupBackRow.holds Try.pinned (OpenSpec.ofChange backupBackWrong)

/- THE SECOND FORM. 'bulk': how many values and letters a reading holds, each counted each time it is reached (what is shared counts as often as it is met; a slice's spare places count too). A statement '..UptoSaid' is the law's where the arguments, and the package variables that the reading takes, are together of bulk at most 1048576: NARROWER than '..Said'. Prove '..Said' where nothing that the law and all that it calls make is longer than what came in: it says more and counts as full. Else prove '..UptoSaid'. A law counts once. -/
mutual
def uptoBulk {H : Type} : DataW H → Nat
  | .lit (.string bytes) => bytes.length + 1
  | .lit _ => 1
  | .nil => 1
  | .ptr d => uptoBulk d + 1
  | .slice elems spare => uptoBulkAll elems + uptoBulkAll spare + 1
  | .agg parts => uptoBulkAll parts + 1
  | .iface _ d => uptoBulk d + 1
  | .map entries => uptoBulkEntries entries + 1
  | .held _ => 1
def uptoBulkAll {H : Type} : List (DataW H) → Nat
  | [] => 0
  | d :: r => uptoBulk d + uptoBulkAll r
def uptoBulkEntries {H : Type} : List (Lit × DataW H) → Nat
  | [] => 0
  | x :: r => uptoBulkEntry x + uptoBulkEntries r
def uptoBulkEntry {H : Type} : Lit × DataW H → Nat
  | (.string bytes, d) => bytes.length + uptoBulk d + 1
  | (_, d) => uptoBulk d + 1
 end
def uptoSmall : (H : Type) → List (DataW H) → Bool := fun _ ds => decide (uptoBulkAll ds ≤ 1048576)
def OpenSpec.upto (s : _root_.Go.ChangeSpec) : _root_.Go.OpenSpec := { _root_.Go.OpenSpec.ofChange s with cond := some uptoSmall }

/-- 'nepenthelaw06.SboxSubs', WHERE WHAT IT READS IS OF BULK AT MOST 1048576: true; the input reads as it did. -/
def sboxSubsUptoRow : OpenClaim := { program := "ytfinekmegiengaa", sum := "1c033e09e99196fd435b87790c7c23435b2a13c0d344631afef918173666eeb9", func := "nepenthe/nepenthelaw06.SboxSubs", spec := "sboxSubs", apart := false, narrowed := true }
def SboxSubsUptoSaid : Prop := sboxSubsUptoRow.holds Try.pinned (OpenSpec.upto sboxSubsSpec)

/-- 'nepenthelaw06.SboxWords', WHERE WHAT IT READS IS OF BULK AT MOST 1048576: true; the input reads as it did. -/
def sboxWordsUptoRow : OpenClaim := { program := "ytfinekmegiengaa", sum := "1c033e09e99196fd435b87790c7c23435b2a13c0d344631afef918173666eeb9", func := "nepenthe/nepenthelaw06.SboxWords", spec := "sboxWords", apart := false, narrowed := true }
def SboxWordsUptoSaid : Prop := sboxWordsUptoRow.holds Try.pinned (OpenSpec.upto sboxWordsSpec)

/-- 'nepenthelaw06.SboxLists', WHERE WHAT IT READS IS OF BULK AT MOST 1048576: true; the input reads as it did. -/
def sboxListsUptoRow : OpenClaim := { program := "ytfinekmegiengaa", sum := "1c033e09e99196fd435b87790c7c23435b2a13c0d344631afef918173666eeb9", func := "nepenthe/nepenthelaw06.SboxLists", spec := "sboxLists", apart := false, narrowed := true }
def SboxListsUptoSaid : Prop := sboxListsUptoRow.holds Try.pinned (OpenSpec.upto sboxListsSpec)

/-- 'nepenthelaw07.AesExpands', WHERE WHAT IT READS IS OF BULK AT MOST 1048576: true; the input reads as it did. -/
def aesExpandsUptoRow : OpenClaim := { program := "ytfinekmegiengaa", sum := "1c033e09e99196fd435b87790c7c23435b2a13c0d344631afef918173666eeb9", func := "nepenthe/nepenthelaw07.AesExpands", spec := "aesExpands", unfollowed := true, recurses := true, apart := false, narrowed := true }
def AesExpandsUptoSaid : Prop := aesExpandsUptoRow.holds Try.pinned (OpenSpec.upto aesExpandsSpec)

/-- 'nepenthelaw07.AesEncrypts', WHERE WHAT IT READS IS OF BULK AT MOST 1048576: true; the input reads as it did. -/
def aesEncryptsUptoRow : OpenClaim := { program := "ytfinekmegiengaa", sum := "1c033e09e99196fd435b87790c7c23435b2a13c0d344631afef918173666eeb9", func := "nepenthe/nepenthelaw07.AesEncrypts", spec := "aesEncrypts", unfollowed := true, recurses := true, apart := false, narrowed := true }
def AesEncryptsUptoSaid : Prop := aesEncryptsUptoRow.holds Try.pinned (OpenSpec.upto aesEncryptsSpec)

/-- 'nepenthelaw07.AesShifts', WHERE WHAT IT READS IS OF BULK AT MOST 1048576: true; the input reads as it did. -/
def aesShiftsUptoRow : OpenClaim := { program := "ytfinekmegiengaa", sum := "1c033e09e99196fd435b87790c7c23435b2a13c0d344631afef918173666eeb9", func := "nepenthe/nepenthelaw07.AesShifts", spec := "aesShifts", unfollowed := true, recurses := true, apart := false, narrowed := true }
def AesShiftsUptoSaid : Prop := aesShiftsUptoRow.holds Try.pinned (OpenSpec.upto aesShiftsSpec)

/-- 'nepenthelaw07.AesDecrypts', WHERE WHAT IT READS IS OF BULK AT MOST 1048576: true; the input reads as it did. -/
def aesDecryptsUptoRow : OpenClaim := { program := "ytfinekmegiengaa", sum := "1c033e09e99196fd435b87790c7c23435b2a13c0d344631afef918173666eeb9", func := "nepenthe/nepenthelaw07.AesDecrypts", spec := "aesDecrypts", unfollowed := true, recurses := true, apart := false, narrowed := true }
def AesDecryptsUptoSaid : Prop := aesDecryptsUptoRow.holds Try.pinned (OpenSpec.upto aesDecryptsSpec)

/-- 'nepenthelaw07.AesBack', WHERE WHAT IT READS IS OF BULK AT MOST 1048576: true; the input reads as it did. -/
def aesBackUptoRow : OpenClaim := { program := "ytfinekmegiengaa", sum := "1c033e09e99196fd435b87790c7c23435b2a13c0d344631afef918173666eeb9", func := "nepenthe/nepenthelaw07.AesBack", spec := "aesBack", unfollowed := true, recurses := true, apart := false, narrowed := true }
def AesBackUptoSaid : Prop := aesBackUptoRow.holds Try.pinned (OpenSpec.upto aesBackSpec)

/-- 'nepenthelaw07.AesNil', WHERE WHAT IT READS IS OF BULK AT MOST 1048576: true; the input reads as it did. -/
def aesNilUptoRow : OpenClaim := { program := "ytfinekmegiengaa", sum := "1c033e09e99196fd435b87790c7c23435b2a13c0d344631afef918173666eeb9", func := "nepenthe/nepenthelaw07.AesNil", spec := "aesNil", unfollowed := true, recurses := true, apart := false, narrowed := true }
def AesNilUptoSaid : Prop := aesNilUptoRow.holds Try.pinned (OpenSpec.upto aesNilSpec)

/-- 'nepenthelaw17.SlotDeads', WHERE WHAT IT READS IS OF BULK AT MOST 1048576: true; the input reads as it did. -/
def slotDeadsUptoRow : OpenClaim := { program := "ytfinekmegiengaa", sum := "1c033e09e99196fd435b87790c7c23435b2a13c0d344631afef918173666eeb9", func := "nepenthe/nepenthelaw17.SlotDeads", spec := "slotDeads", unfollowed := true, recurses := true, apart := false, narrowed := true }
def SlotDeadsUptoSaid : Prop := slotDeadsUptoRow.holds Try.pinned (OpenSpec.upto slotDeadsSpec)

/-- 'nepenthelaw09.XtsEncrypts', WHERE WHAT IT READS IS OF BULK AT MOST 1048576: true; the input reads as it did. -/
def xtsEncryptsUptoRow : OpenClaim := { program := "ytfinekmegiengaa", sum := "1c033e09e99196fd435b87790c7c23435b2a13c0d344631afef918173666eeb9", func := "nepenthe/nepenthelaw09.XtsEncrypts", spec := "xtsEncrypts", unfollowed := true, recurses := true, apart := false, narrowed := true }
def XtsEncryptsUptoSaid : Prop := xtsEncryptsUptoRow.holds Try.pinned (OpenSpec.upto xtsEncryptsSpec)

/-- 'nepenthelaw09.XtsBlocks', WHERE WHAT IT READS IS OF BULK AT MOST 1048576: true; the input reads as it did. -/
def xtsBlocksUptoRow : OpenClaim := { program := "ytfinekmegiengaa", sum := "1c033e09e99196fd435b87790c7c23435b2a13c0d344631afef918173666eeb9", func := "nepenthe/nepenthelaw09.XtsBlocks", spec := "xtsBlocks", unfollowed := true, recurses := true, apart := false, narrowed := true }
def XtsBlocksUptoSaid : Prop := xtsBlocksUptoRow.holds Try.pinned (OpenSpec.upto xtsBlocksSpec)

/-- 'nepenthelaw17.SlotReads', WHERE WHAT IT READS IS OF BULK AT MOST 1048576: true; the input reads as it did. -/
def slotReadsUptoRow : OpenClaim := { program := "ytfinekmegiengaa", sum := "1c033e09e99196fd435b87790c7c23435b2a13c0d344631afef918173666eeb9", func := "nepenthe/nepenthelaw17.SlotReads", spec := "slotReads", unfollowed := true, recurses := true, apart := false, narrowed := true }
def SlotReadsUptoSaid : Prop := slotReadsUptoRow.holds Try.pinned (OpenSpec.upto slotReadsSpec)

/-- 'nepenthelaw17.SlotBytes', WHERE WHAT IT READS IS OF BULK AT MOST 1048576: true; the input reads as it did. -/
def slotBytesUptoRow : OpenClaim := { program := "ytfinekmegiengaa", sum := "1c033e09e99196fd435b87790c7c23435b2a13c0d344631afef918173666eeb9", func := "nepenthe/nepenthelaw17.SlotBytes", spec := "slotBytes", unfollowed := true, recurses := true, apart := false, narrowed := true }
def SlotBytesUptoSaid : Prop := slotBytesUptoRow.holds Try.pinned (OpenSpec.upto slotBytesSpec)

/-- 'nepenthelaw10.WrapWraps', WHERE WHAT IT READS IS OF BULK AT MOST 1048576: true; the input reads as it did. -/
def wrapWrapsUptoRow : OpenClaim := { program := "ytfinekmegiengaa", sum := "1c033e09e99196fd435b87790c7c23435b2a13c0d344631afef918173666eeb9", func := "nepenthe/nepenthelaw10.WrapWraps", spec := "wrapWraps", unfollowed := true, recurses := true, apart := false, narrowed := true }
def WrapWrapsUptoSaid : Prop := wrapWrapsUptoRow.holds Try.pinned (OpenSpec.upto wrapWrapsSpec)

/-- 'nepenthelaw10.WrapUnwraps', WHERE WHAT IT READS IS OF BULK AT MOST 1048576: true; the input reads as it did. -/
def wrapUnwrapsUptoRow : OpenClaim := { program := "ytfinekmegiengaa", sum := "1c033e09e99196fd435b87790c7c23435b2a13c0d344631afef918173666eeb9", func := "nepenthe/nepenthelaw10.WrapUnwraps", spec := "wrapUnwraps", unfollowed := true, recurses := true, apart := false, narrowed := true }
def WrapUnwrapsUptoSaid : Prop := wrapUnwrapsUptoRow.holds Try.pinned (OpenSpec.upto wrapUnwrapsSpec)

/-- 'nepenthelaw10.WrapBack', WHERE WHAT IT READS IS OF BULK AT MOST 1048576: true; the input reads as it did. -/
def wrapBackUptoRow : OpenClaim := { program := "ytfinekmegiengaa", sum := "1c033e09e99196fd435b87790c7c23435b2a13c0d344631afef918173666eeb9", func := "nepenthe/nepenthelaw10.WrapBack", spec := "wrapBack", unfollowed := true, recurses := true, apart := false, narrowed := true }
def WrapBackUptoSaid : Prop := wrapBackUptoRow.holds Try.pinned (OpenSpec.upto wrapBackSpec)

/-- 'nepenthelaw10.WrapAgain', WHERE WHAT IT READS IS OF BULK AT MOST 1048576: true; the input reads as it did. -/
def wrapAgainUptoRow : OpenClaim := { program := "ytfinekmegiengaa", sum := "1c033e09e99196fd435b87790c7c23435b2a13c0d344631afef918173666eeb9", func := "nepenthe/nepenthelaw10.WrapAgain", spec := "wrapAgain", unfollowed := true, recurses := true, apart := false, narrowed := true }
def WrapAgainUptoSaid : Prop := wrapAgainUptoRow.holds Try.pinned (OpenSpec.upto wrapAgainSpec)

/-- 'nepenthelaw09.XtsDecrypts', WHERE WHAT IT READS IS OF BULK AT MOST 1048576: true; the input reads as it did. -/
def xtsDecryptsUptoRow : OpenClaim := { program := "ytfinekmegiengaa", sum := "1c033e09e99196fd435b87790c7c23435b2a13c0d344631afef918173666eeb9", func := "nepenthe/nepenthelaw09.XtsDecrypts", spec := "xtsDecrypts", unfollowed := true, recurses := true, apart := false, narrowed := true }
def XtsDecryptsUptoSaid : Prop := xtsDecryptsUptoRow.holds Try.pinned (OpenSpec.upto xtsDecryptsSpec)

/-- 'nepenthelaw09.XtsBack', WHERE WHAT IT READS IS OF BULK AT MOST 1048576: true; the input reads as it did. -/
def xtsBackUptoRow : OpenClaim := { program := "ytfinekmegiengaa", sum := "1c033e09e99196fd435b87790c7c23435b2a13c0d344631afef918173666eeb9", func := "nepenthe/nepenthelaw09.XtsBack", spec := "xtsBack", unfollowed := true, recurses := true, apart := false, narrowed := true }
def XtsBackUptoSaid : Prop := xtsBackUptoRow.holds Try.pinned (OpenSpec.upto xtsBackSpec)

/-- 'nepenthelaw17.SlotMakes', WHERE WHAT IT READS IS OF BULK AT MOST 1048576: true; the input reads as it did. -/
def slotMakesUptoRow : OpenClaim := { program := "ytfinekmegiengaa", sum := "1c033e09e99196fd435b87790c7c23435b2a13c0d344631afef918173666eeb9", func := "nepenthe/nepenthelaw17.SlotMakes", spec := "slotMakes", unfollowed := true, recurses := true, apart := false, narrowed := true }
def SlotMakesUptoSaid : Prop := slotMakesUptoRow.holds Try.pinned (OpenSpec.upto slotMakesSpec)

/-- 'nepenthelaw17.SlotKeys', WHERE WHAT IT READS IS OF BULK AT MOST 1048576: true; the input reads as it did. -/
def slotKeysUptoRow : OpenClaim := { program := "ytfinekmegiengaa", sum := "1c033e09e99196fd435b87790c7c23435b2a13c0d344631afef918173666eeb9", func := "nepenthe/nepenthelaw17.SlotKeys", spec := "slotKeys", unfollowed := true, recurses := true, apart := false, narrowed := true }
def SlotKeysUptoSaid : Prop := slotKeysUptoRow.holds Try.pinned (OpenSpec.upto slotKeysSpec)

/-- 'nepenthelaw16.SealSeals', WHERE WHAT IT READS IS OF BULK AT MOST 1048576: true; the input reads as it did. -/
def sealSealsUptoRow : OpenClaim := { program := "ytfinekmegiengaa", sum := "1c033e09e99196fd435b87790c7c23435b2a13c0d344631afef918173666eeb9", func := "nepenthe/nepenthelaw16.SealSeals", spec := "sealSeals", unfollowed := true, recurses := true, apart := false, narrowed := true }
def SealSealsUptoSaid : Prop := sealSealsUptoRow.holds Try.pinned (OpenSpec.upto sealSealsSpec)

/-- 'nepenthelaw16.SealTags', WHERE WHAT IT READS IS OF BULK AT MOST 1048576: true; the input reads as it did. -/
def sealTagsUptoRow : OpenClaim := { program := "ytfinekmegiengaa", sum := "1c033e09e99196fd435b87790c7c23435b2a13c0d344631afef918173666eeb9", func := "nepenthe/nepenthelaw16.SealTags", spec := "sealTags", unfollowed := true, recurses := true, apart := false, narrowed := true }
def SealTagsUptoSaid : Prop := sealTagsUptoRow.holds Try.pinned (OpenSpec.upto sealTagsSpec)

/-- 'nepenthelaw16.SealBack', WHERE WHAT IT READS IS OF BULK AT MOST 1048576: true; the input reads as it did. -/
def sealBackUptoRow : OpenClaim := { program := "ytfinekmegiengaa", sum := "1c033e09e99196fd435b87790c7c23435b2a13c0d344631afef918173666eeb9", func := "nepenthe/nepenthelaw16.SealBack", spec := "sealBack", unfollowed := true, recurses := true, apart := false, narrowed := true }
def SealBackUptoSaid : Prop := sealBackUptoRow.holds Try.pinned (OpenSpec.upto sealBackSpec)

/-- 'nepenthelaw34.BackupBack', WHERE WHAT IT READS IS OF BULK AT MOST 1048576: true; the input reads as it did. -/
def backupBackUptoRow : OpenClaim := { program := "ytfinekmegiengaa", sum := "1c033e09e99196fd435b87790c7c23435b2a13c0d344631afef918173666eeb9", func := "nepenthe/nepenthelaw34.BackupBack", spec := "backupBack", unfollowed := true, recurses := true, apart := false, narrowed := true }
def BackupBackUptoSaid : Prop := backupBackUptoRow.holds Try.pinned (OpenSpec.upto backupBackSpec)

end Rows
end Go.Proofs.Ytfinekmegiengaa
