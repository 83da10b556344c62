/-
  No cell of these rows narrows 'for every input' (looked for: loops, veiled, ifaces, maps, wideKeys, modest, calm, conditions, laid).
  DERIVED. THE GIVEN ROWS OF THIS SEAT. 10 by the template 'for every input the law returns true; each argument reads behind the call as it read before'; 0 by the template 'total and deterministic' (their statements: YtflhogapjmdkaaaTotals.lean).
  GIVEN WITH THE SEED: the statements are not yours to turn. If you find one false, say at which input.
  Laid BY PROGRAM, IN A SANDBOX (cutbox-rows.mjs): the forced cells as the released guide's own fill.sh prints them over the translation d0d0ddf8aab683af… (all of the seat's roots in one cut). By AI agents, Wed Nov 11 2026. No macro, syntax, notation, axiom, sorry.
-/
import Derived.Test.YtflhogapjmdkaaaChecked
import GoSem.Claim
import GoSem.ClaimJoined
import GoSem.ClaimMapViews
import Derived.JoinedTies
import Derived.KernelRfl
namespace Go.Proofs.Ytflhogapjmdkaaa
/- THE CELL 'sum', in the pinned program and in every row, IS THE sha256 OF THE DUMP (.gsa) THAT YtflhogapjmdkaaaProg.lean LOADS. Nothing in Lean hashes anything: it is a label: what it is worth is what the hold of that sum in a sandbox is worth. -/
noncomputable def Try.pinned : Pinned := { name := "ytflhogapjmdkaaa", sum := "d0d0ddf8aab683af361630ed372c1085258b2f659de35167d215db6d6ec697fc", checked := Try.checked }
namespace Rows
def none {H : Type} : Left H := { results := [], args := [] }

/-- 'hamperlaw16.BlockPacks': WHATEVER THE INPUT: true; the input reads as it did. -/
def blockPacksSpec : ChangeSpec := { name := "blockPacks", fn := fun _ => fun
  | [d] => { results := [.lit (.bool true)], args := [d] }
  | _ => none }
def blockPacksRow : OpenClaim := { program := "ytflhogapjmdkaaa", sum := "d0d0ddf8aab683af361630ed372c1085258b2f659de35167d215db6d6ec697fc", func := "hamper/hamperlaw16.BlockPacks", spec := "blockPacks", unfollowed := true, recurses := true, apart := false }
def BlockPacksSaid : Prop := blockPacksRow.holds Try.pinned (OpenSpec.ofChange blockPacksSpec)

/-- ITS FALSE NEIGHBOUR: 'it returns false'. Refute it at one input. -/
def blockPacksWrong : ChangeSpec := { name := "blockPacks", fn := fun _ => fun
  | [d] => { results := [.lit (.bool false)], args := [d] }
  | _ => none }
def BlockPacksWrongFalsely : Prop := blockPacksRow.holds Try.pinned (OpenSpec.ofChange blockPacksWrong)

/-- 'hamperlaw16.BlockUnpacks': WHATEVER THE INPUT: true; the input reads as it did. -/
def blockUnpacksSpec : ChangeSpec := { name := "blockUnpacks", fn := fun _ => fun
  | [d] => { results := [.lit (.bool true)], args := [d] }
  | _ => none }
def blockUnpacksRow : OpenClaim := { program := "ytflhogapjmdkaaa", sum := "d0d0ddf8aab683af361630ed372c1085258b2f659de35167d215db6d6ec697fc", func := "hamper/hamperlaw16.BlockUnpacks", spec := "blockUnpacks", unfollowed := true, recurses := true, apart := false }
def BlockUnpacksSaid : Prop := blockUnpacksRow.holds Try.pinned (OpenSpec.ofChange blockUnpacksSpec)

/-- ITS FALSE NEIGHBOUR: 'it returns false'. Refute it at one input. -/
def blockUnpacksWrong : ChangeSpec := { name := "blockUnpacks", fn := fun _ => fun
  | [d] => { results := [.lit (.bool false)], args := [d] }
  | _ => none }
def BlockUnpacksWrongFalsely : Prop := blockUnpacksRow.holds Try.pinned (OpenSpec.ofChange blockUnpacksWrong)

/-- 'hamperlaw16.BlockNames': WHATEVER THE INPUT: true; the input reads as it did. -/
def blockNamesSpec : ChangeSpec := { name := "blockNames", fn := fun _ => fun
  | [] => { results := [.lit (.bool true)], args := [] }
  | _ => none }
def blockNamesRow : OpenClaim := { program := "ytflhogapjmdkaaa", sum := "d0d0ddf8aab683af361630ed372c1085258b2f659de35167d215db6d6ec697fc", func := "hamper/hamperlaw16.BlockNames", spec := "blockNames", unfollowed := true, recurses := true, apart := false }
def BlockNamesSaid : Prop := blockNamesRow.holds Try.pinned (OpenSpec.ofChange blockNamesSpec)

/-- ITS FALSE NEIGHBOUR: 'it returns false'. Refute it at one input. -/
def blockNamesWrong : ChangeSpec := { name := "blockNames", fn := fun _ => fun
  | [] => { results := [.lit (.bool false)], args := [] }
  | _ => none }
def BlockNamesWrongFalsely : Prop := blockNamesRow.holds Try.pinned (OpenSpec.ofChange blockNamesWrong)

/-- 'hamperlaw16.BlockBack': WHATEVER THE INPUT: true; the input reads as it did. -/
def blockBackSpec : ChangeSpec := { name := "blockBack", fn := fun _ => fun
  | [d1, d2] => { results := [.lit (.bool true)], args := [d1, d2] }
  | _ => none }
def blockBackRow : OpenClaim := { program := "ytflhogapjmdkaaa", sum := "d0d0ddf8aab683af361630ed372c1085258b2f659de35167d215db6d6ec697fc", func := "hamper/hamperlaw16.BlockBack", spec := "blockBack", unfollowed := true, recurses := true, apart := false }
def BlockBackSaid : Prop := blockBackRow.holds Try.pinned (OpenSpec.ofChange blockBackSpec)

/-- ITS FALSE NEIGHBOUR: 'it returns false'. Refute it at one input. -/
def blockBackWrong : ChangeSpec := { name := "blockBack", fn := fun _ => fun
  | [d1, d2] => { results := [.lit (.bool false)], args := [d1, d2] }
  | _ => none }
def BlockBackWrongFalsely : Prop := blockBackRow.holds Try.pinned (OpenSpec.ofChange blockBackWrong)

/-- 'hamperlaw16.BlockOnly': WHATEVER THE INPUT: true; the input reads as it did. -/
def blockOnlySpec : ChangeSpec := { name := "blockOnly", fn := fun _ => fun
  | [d] => { results := [.lit (.bool true)], args := [d] }
  | _ => none }
def blockOnlyRow : OpenClaim := { program := "ytflhogapjmdkaaa", sum := "d0d0ddf8aab683af361630ed372c1085258b2f659de35167d215db6d6ec697fc", func := "hamper/hamperlaw16.BlockOnly", spec := "blockOnly", unfollowed := true, recurses := true, apart := false }
def BlockOnlySaid : Prop := blockOnlyRow.holds Try.pinned (OpenSpec.ofChange blockOnlySpec)

/-- ITS FALSE NEIGHBOUR: 'it returns false'. Refute it at one input. -/
def blockOnlyWrong : ChangeSpec := { name := "blockOnly", fn := fun _ => fun
  | [d] => { results := [.lit (.bool false)], args := [d] }
  | _ => none }
def BlockOnlyWrongFalsely : Prop := blockOnlyRow.holds Try.pinned (OpenSpec.ofChange blockOnlyWrong)

/-- 'hamperlaw16.BlockShort': WHATEVER THE INPUT: true; the input reads as it did. -/
def blockShortSpec : ChangeSpec := { name := "blockShort", fn := fun _ => fun
  | [d] => { results := [.lit (.bool true)], args := [d] }
  | _ => none }
def blockShortRow : OpenClaim := { program := "ytflhogapjmdkaaa", sum := "d0d0ddf8aab683af361630ed372c1085258b2f659de35167d215db6d6ec697fc", func := "hamper/hamperlaw16.BlockShort", spec := "blockShort", unfollowed := true, recurses := true, apart := false }
def BlockShortSaid : Prop := blockShortRow.holds Try.pinned (OpenSpec.ofChange blockShortSpec)

/-- ITS FALSE NEIGHBOUR: 'it returns false'. Refute it at one input. -/
def blockShortWrong : ChangeSpec := { name := "blockShort", fn := fun _ => fun
  | [d] => { results := [.lit (.bool false)], args := [d] }
  | _ => none }
def BlockShortWrongFalsely : Prop := blockShortRow.holds Try.pinned (OpenSpec.ofChange blockShortWrong)

/-- 'hamperlaw16.BlockApart': WHATEVER THE INPUT: true; the input reads as it did. -/
def blockApartSpec : ChangeSpec := { name := "blockApart", fn := fun _ => fun
  | [d1, d2] => { results := [.lit (.bool true)], args := [d1, d2] }
  | _ => none }
def blockApartRow : OpenClaim := { program := "ytflhogapjmdkaaa", sum := "d0d0ddf8aab683af361630ed372c1085258b2f659de35167d215db6d6ec697fc", func := "hamper/hamperlaw16.BlockApart", spec := "blockApart", unfollowed := true, recurses := true, apart := false }
def BlockApartSaid : Prop := blockApartRow.holds Try.pinned (OpenSpec.ofChange blockApartSpec)

/-- ITS FALSE NEIGHBOUR: 'it returns false'. Refute it at one input. -/
def blockApartWrong : ChangeSpec := { name := "blockApart", fn := fun _ => fun
  | [d1, d2] => { results := [.lit (.bool false)], args := [d1, d2] }
  | _ => none }
def BlockApartWrongFalsely : Prop := blockApartRow.holds Try.pinned (OpenSpec.ofChange blockApartWrong)

/-- 'hamperlaw17.PressNames': WHATEVER THE INPUT: true; the input reads as it did. -/
def pressNamesSpec : ChangeSpec := { name := "pressNames", fn := fun _ => fun
  | [] => { results := [.lit (.bool true)], args := [] }
  | _ => none }
def pressNamesRow : OpenClaim := { program := "ytflhogapjmdkaaa", sum := "d0d0ddf8aab683af361630ed372c1085258b2f659de35167d215db6d6ec697fc", func := "hamper/hamperlaw17.PressNames", spec := "pressNames", unfollowed := true, recurses := true, apart := false }
def PressNamesSaid : Prop := pressNamesRow.holds Try.pinned (OpenSpec.ofChange pressNamesSpec)

/-- ITS FALSE NEIGHBOUR: 'it returns false'. Refute it at one input. -/
def pressNamesWrong : ChangeSpec := { name := "pressNames", fn := fun _ => fun
  | [] => { results := [.lit (.bool false)], args := [] }
  | _ => none }
def PressNamesWrongFalsely : Prop := pressNamesRow.holds Try.pinned (OpenSpec.ofChange pressNamesWrong)

/-- 'hamperlaw17.PressRepeats': WHATEVER THE INPUT: true; the input reads as it did. -/
def pressRepeatsSpec : ChangeSpec := { name := "pressRepeats", fn := fun _ => fun
  | [d1, d2] => { results := [.lit (.bool true)], args := [d1, d2] }
  | _ => none }
def pressRepeatsRow : OpenClaim := { program := "ytflhogapjmdkaaa", sum := "d0d0ddf8aab683af361630ed372c1085258b2f659de35167d215db6d6ec697fc", func := "hamper/hamperlaw17.PressRepeats", spec := "pressRepeats", unfollowed := true, recurses := true, apart := false }
def PressRepeatsSaid : Prop := pressRepeatsRow.holds Try.pinned (OpenSpec.ofChange pressRepeatsSpec)

/-- ITS FALSE NEIGHBOUR: 'it returns false'. Refute it at one input. -/
def pressRepeatsWrong : ChangeSpec := { name := "pressRepeats", fn := fun _ => fun
  | [d1, d2] => { results := [.lit (.bool false)], args := [d1, d2] }
  | _ => none }
def PressRepeatsWrongFalsely : Prop := pressRepeatsRow.holds Try.pinned (OpenSpec.ofChange pressRepeatsWrong)

/-- 'hamperlaw17.PressPlain': WHATEVER THE INPUT: true; the input reads as it did. -/
def pressPlainSpec : ChangeSpec := { name := "pressPlain", fn := fun _ => fun
  | [d1, d2, d3] => { results := [.lit (.bool true)], args := [d1, d2, d3] }
  | _ => none }
def pressPlainRow : OpenClaim := { program := "ytflhogapjmdkaaa", sum := "d0d0ddf8aab683af361630ed372c1085258b2f659de35167d215db6d6ec697fc", func := "hamper/hamperlaw17.PressPlain", spec := "pressPlain", unfollowed := true, recurses := true, apart := false }
def PressPlainSaid : Prop := pressPlainRow.holds Try.pinned (OpenSpec.ofChange pressPlainSpec)

/-- ITS FALSE NEIGHBOUR: 'it returns false'. Refute it at one input. -/
def pressPlainWrong : ChangeSpec := { name := "pressPlain", fn := fun _ => fun
  | [d1, d2, d3] => { results := [.lit (.bool false)], args := [d1, d2, d3] }
  | _ => none }
def PressPlainWrongFalsely : Prop := pressPlainRow.holds Try.pinned (OpenSpec.ofChange pressPlainWrong)

/- THE SECOND FORM. 'bulk': how many values and letters a reading holds, each counted each time it is reached (what is shared counts as often as it is met; a slice's spare places count too). A statement '..UptoSaid' is the law's where the arguments, and the package variables that the reading takes, are together of bulk at most 1048576: NARROWER than '..Said'. Prove '..Said' where nothing that the law and all that it calls make is longer than what came in: it says more and counts as full. Else prove '..UptoSaid'. A law counts once. -/
mutual
def uptoBulk {H : Type} : DataW H → Nat
  | .lit (.string bytes) => bytes.length + 1
  | .lit _ => 1
  | .nil => 1
  | .ptr d => uptoBulk d + 1
  | .slice elems spare => uptoBulkAll elems + uptoBulkAll spare + 1
  | .agg parts => uptoBulkAll parts + 1
  | .iface _ d => uptoBulk d + 1
  | .map entries => uptoBulkEntries entries + 1
  | .held _ => 1
def uptoBulkAll {H : Type} : List (DataW H) → Nat
  | [] => 0
  | d :: r => uptoBulk d + uptoBulkAll r
def uptoBulkEntries {H : Type} : List (Lit × DataW H) → Nat
  | [] => 0
  | x :: r => uptoBulkEntry x + uptoBulkEntries r
def uptoBulkEntry {H : Type} : Lit × DataW H → Nat
  | (.string bytes, d) => bytes.length + uptoBulk d + 1
  | (_, d) => uptoBulk d + 1
 end
def uptoSmall : (H : Type) → List (DataW H) → Bool := fun _ ds => decide (uptoBulkAll ds ≤ 1048576)
def OpenSpec.upto (s : _root_.Go.ChangeSpec) : _root_.Go.OpenSpec := { _root_.Go.OpenSpec.ofChange s with cond := some uptoSmall }

/-- 'hamperlaw16.BlockPacks', WHERE WHAT IT READS IS OF BULK AT MOST 1048576: true; the input reads as it did. -/
def blockPacksUptoRow : OpenClaim := { program := "ytflhogapjmdkaaa", sum := "d0d0ddf8aab683af361630ed372c1085258b2f659de35167d215db6d6ec697fc", func := "hamper/hamperlaw16.BlockPacks", spec := "blockPacks", unfollowed := true, recurses := true, apart := false, narrowed := true }
def BlockPacksUptoSaid : Prop := blockPacksUptoRow.holds Try.pinned (OpenSpec.upto blockPacksSpec)

/-- 'hamperlaw16.BlockUnpacks', WHERE WHAT IT READS IS OF BULK AT MOST 1048576: true; the input reads as it did. -/
def blockUnpacksUptoRow : OpenClaim := { program := "ytflhogapjmdkaaa", sum := "d0d0ddf8aab683af361630ed372c1085258b2f659de35167d215db6d6ec697fc", func := "hamper/hamperlaw16.BlockUnpacks", spec := "blockUnpacks", unfollowed := true, recurses := true, apart := false, narrowed := true }
def BlockUnpacksUptoSaid : Prop := blockUnpacksUptoRow.holds Try.pinned (OpenSpec.upto blockUnpacksSpec)

/-- 'hamperlaw16.BlockNames', WHERE WHAT IT READS IS OF BULK AT MOST 1048576: true; the input reads as it did. -/
def blockNamesUptoRow : OpenClaim := { program := "ytflhogapjmdkaaa", sum := "d0d0ddf8aab683af361630ed372c1085258b2f659de35167d215db6d6ec697fc", func := "hamper/hamperlaw16.BlockNames", spec := "blockNames", unfollowed := true, recurses := true, apart := false, narrowed := true }
def BlockNamesUptoSaid : Prop := blockNamesUptoRow.holds Try.pinned (OpenSpec.upto blockNamesSpec)

/-- 'hamperlaw16.BlockBack', WHERE WHAT IT READS IS OF BULK AT MOST 1048576: true; the input reads as it did. -/
def blockBackUptoRow : OpenClaim := { program := "ytflhogapjmdkaaa", sum := "d0d0ddf8aab683af361630ed372c1085258b2f659de35167d215db6d6ec697fc", func := "hamper/hamperlaw16.BlockBack", spec := "blockBack", unfollowed := true, recurses := true, apart := false, narrowed := true }
def BlockBackUptoSaid : Prop := blockBackUptoRow.holds Try.pinned (OpenSpec.upto blockBackSpec)

/-- 'hamperlaw16.BlockOnly', WHERE WHAT IT READS IS OF BULK AT MOST 1048576: true; the input reads as it did. -/
def blockOnlyUptoRow : OpenClaim := { program := "ytflhogapjmdkaaa", sum := "d0d0ddf8aab683af361630ed372c1085258b2f659de35167d215db6d6ec697fc", func := "hamper/hamperlaw16.BlockOnly", spec := "blockOnly", unfollowed := true, recurses := true, apart := false, narrowed := true }
def BlockOnlyUptoSaid : Prop := blockOnlyUptoRow.holds Try.pinned (OpenSpec.upto blockOnlySpec)

/-- 'hamperlaw16.BlockShort', WHERE WHAT IT READS IS OF BULK AT MOST 1048576: true; the input reads as it did. -/
def blockShortUptoRow : OpenClaim := { program := "ytflhogapjmdkaaa", sum := "d0d0ddf8aab683af361630ed372c1085258b2f659de35167d215db6d6ec697fc", func := "hamper/hamperlaw16.BlockShort", spec := "blockShort", unfollowed := true, recurses := true, apart := false, narrowed := true }
def BlockShortUptoSaid : Prop := blockShortUptoRow.holds Try.pinned (OpenSpec.upto blockShortSpec)

/-- 'hamperlaw16.BlockApart', WHERE WHAT IT READS IS OF BULK AT MOST 1048576: true; the input reads as it did. -/
def blockApartUptoRow : OpenClaim := { program := "ytflhogapjmdkaaa", sum := "d0d0ddf8aab683af361630ed372c1085258b2f659de35167d215db6d6ec697fc", func := "hamper/hamperlaw16.BlockApart", spec := "blockApart", unfollowed := true, recurses := true, apart := false, narrowed := true }
def BlockApartUptoSaid : Prop := blockApartUptoRow.holds Try.pinned (OpenSpec.upto blockApartSpec)

/-- 'hamperlaw17.PressNames', WHERE WHAT IT READS IS OF BULK AT MOST 1048576: true; the input reads as it did. -/
def pressNamesUptoRow : OpenClaim := { program := "ytflhogapjmdkaaa", sum := "d0d0ddf8aab683af361630ed372c1085258b2f659de35167d215db6d6ec697fc", func := "hamper/hamperlaw17.PressNames", spec := "pressNames", unfollowed := true, recurses := true, apart := false, narrowed := true }
def PressNamesUptoSaid : Prop := pressNamesUptoRow.holds Try.pinned (OpenSpec.upto pressNamesSpec)

/-- 'hamperlaw17.PressRepeats', WHERE WHAT IT READS IS OF BULK AT MOST 1048576: true; the input reads as it did. -/
def pressRepeatsUptoRow : OpenClaim := { program := "ytflhogapjmdkaaa", sum := "d0d0ddf8aab683af361630ed372c1085258b2f659de35167d215db6d6ec697fc", func := "hamper/hamperlaw17.PressRepeats", spec := "pressRepeats", unfollowed := true, recurses := true, apart := false, narrowed := true }
def PressRepeatsUptoSaid : Prop := pressRepeatsUptoRow.holds Try.pinned (OpenSpec.upto pressRepeatsSpec)

/-- 'hamperlaw17.PressPlain', WHERE WHAT IT READS IS OF BULK AT MOST 1048576: true; the input reads as it did. -/
def pressPlainUptoRow : OpenClaim := { program := "ytflhogapjmdkaaa", sum := "d0d0ddf8aab683af361630ed372c1085258b2f659de35167d215db6d6ec697fc", func := "hamper/hamperlaw17.PressPlain", spec := "pressPlain", unfollowed := true, recurses := true, apart := false, narrowed := true }
def PressPlainUptoSaid : Prop := pressPlainUptoRow.holds Try.pinned (OpenSpec.upto pressPlainSpec)

end Rows
end Go.Proofs.Ytflhogapjmdkaaa
