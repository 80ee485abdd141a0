/-
  No cell of these rows narrows 'for every input' (looked for: loops, veiled, ifaces, maps, wideKeys, modest, calm, conditions, laid).
  DERIVED. THE GIVEN ROWS OF THIS SEAT. 7 by the template 'for every input the law returns true; each argument reads behind the call as it read before'; 0 by the template 'total and deterministic' (their statements: YtjninokocidaaaaTotals.lean).
  GIVEN WITH THE SEED: the statements are not yours to turn. If you find one false, say at which input.
  Laid BY PROGRAM, IN A SANDBOX (cutbox-rows.mjs): the forced cells as the released guide's own fill.sh prints them over the translation 1ca0a99ec39cb849… (all of the seat's roots in one cut). By AI agents, Wed Nov 11 2026. No macro, syntax, notation, axiom, sorry.
-/
import Derived.Test.YtjninokocidaaaaChecked
import GoSem.Claim
import GoSem.ClaimJoined
import GoSem.ClaimMapViews
import Derived.JoinedTies
import Derived.KernelRfl
namespace Go.Proofs.Ytjninokocidaaaa
/- THE CELL 'sum', in the pinned program and in every row, IS THE sha256 OF THE DUMP (.gsa) THAT YtjninokocidaaaaProg.lean LOADS. Nothing in Lean hashes anything: it is a label: what it is worth is what the hold of that sum in a sandbox is worth. -/
noncomputable def Try.pinned : Pinned := { name := "ytjninokocidaaaa", sum := "1ca0a99ec39cb8495fc4dd687d11f22ba3da2079e0f87cdf1779a351d3a7c69d", checked := Try.checked }
namespace Rows
def none {H : Type} : Left H := { results := [], args := [] }

/-- 'granarylaw10.AllocSizes': WHATEVER THE INPUT: true; the input reads as it did. -/
def allocSizesSpec : ChangeSpec := { name := "allocSizes", fn := fun _ => fun
  | [d] => { results := [.lit (.bool true)], args := [d] }
  | _ => none }
def allocSizesRow : OpenClaim := { program := "ytjninokocidaaaa", sum := "1ca0a99ec39cb8495fc4dd687d11f22ba3da2079e0f87cdf1779a351d3a7c69d", func := "granary/granarylaw10.AllocSizes", spec := "allocSizes", recurses := true, apart := false }
def AllocSizesSaid : Prop := allocSizesRow.holds Try.pinned (OpenSpec.ofChange allocSizesSpec)

/-- ITS FALSE NEIGHBOUR: 'it returns false'. Refute it at one input. -/
def allocSizesWrong : ChangeSpec := { name := "allocSizes", fn := fun _ => fun
  | [d] => { results := [.lit (.bool false)], args := [d] }
  | _ => none }
def AllocSizesWrongFalsely : Prop := allocSizesRow.holds Try.pinned (OpenSpec.ofChange allocSizesWrong)

/-- 'granarylaw10.AllocOld': WHATEVER THE INPUT: true; the input reads as it did. -/
def allocOldSpec : ChangeSpec := { name := "allocOld", fn := fun _ => fun
  | [d1, d2, d3] => { results := [.lit (.bool true)], args := [d1, d2, d3] }
  | _ => none }
def allocOldRow : OpenClaim := { program := "ytjninokocidaaaa", sum := "1ca0a99ec39cb8495fc4dd687d11f22ba3da2079e0f87cdf1779a351d3a7c69d", func := "granary/granarylaw10.AllocOld", spec := "allocOld", recurses := true, apart := false }
def AllocOldSaid : Prop := allocOldRow.holds Try.pinned (OpenSpec.ofChange allocOldSpec)

/-- ITS FALSE NEIGHBOUR: 'it returns false'. Refute it at one input. -/
def allocOldWrong : ChangeSpec := { name := "allocOld", fn := fun _ => fun
  | [d1, d2, d3] => { results := [.lit (.bool false)], args := [d1, d2, d3] }
  | _ => none }
def AllocOldWrongFalsely : Prop := allocOldRow.holds Try.pinned (OpenSpec.ofChange allocOldWrong)

/-- 'granarylaw10.AllocReserved': WHATEVER THE INPUT: true; the input reads as it did. -/
def allocReservedSpec : ChangeSpec := { name := "allocReserved", fn := fun _ => fun
  | [d] => { results := [.lit (.bool true)], args := [d] }
  | _ => none }
def allocReservedRow : OpenClaim := { program := "ytjninokocidaaaa", sum := "1ca0a99ec39cb8495fc4dd687d11f22ba3da2079e0f87cdf1779a351d3a7c69d", func := "granary/granarylaw10.AllocReserved", spec := "allocReserved", recurses := true, apart := false }
def AllocReservedSaid : Prop := allocReservedRow.holds Try.pinned (OpenSpec.ofChange allocReservedSpec)

/-- ITS FALSE NEIGHBOUR: 'it returns false'. Refute it at one input. -/
def allocReservedWrong : ChangeSpec := { name := "allocReserved", fn := fun _ => fun
  | [d] => { results := [.lit (.bool false)], args := [d] }
  | _ => none }
def AllocReservedWrongFalsely : Prop := allocReservedRow.holds Try.pinned (OpenSpec.ofChange allocReservedWrong)

/-- 'granarylaw10.AllocBack': WHATEVER THE INPUT: true; the input reads as it did. -/
def allocBackSpec : ChangeSpec := { name := "allocBack", fn := fun _ => fun
  | [d1, d2] => { results := [.lit (.bool true)], args := [d1, d2] }
  | _ => none }
def allocBackRow : OpenClaim := { program := "ytjninokocidaaaa", sum := "1ca0a99ec39cb8495fc4dd687d11f22ba3da2079e0f87cdf1779a351d3a7c69d", func := "granary/granarylaw10.AllocBack", spec := "allocBack", recurses := true, apart := false }
def AllocBackSaid : Prop := allocBackRow.holds Try.pinned (OpenSpec.ofChange allocBackSpec)

/-- ITS FALSE NEIGHBOUR: 'it returns false'. Refute it at one input. -/
def allocBackWrong : ChangeSpec := { name := "allocBack", fn := fun _ => fun
  | [d1, d2] => { results := [.lit (.bool false)], args := [d1, d2] }
  | _ => none }
def AllocBackWrongFalsely : Prop := allocBackRow.holds Try.pinned (OpenSpec.ofChange allocBackWrong)

/-- 'granarylaw10.AllocCounts': WHATEVER THE INPUT: true; the input reads as it did. -/
def allocCountsSpec : ChangeSpec := { name := "allocCounts", fn := fun _ => fun
  | [d1, d2] => { results := [.lit (.bool true)], args := [d1, d2] }
  | _ => none }
def allocCountsRow : OpenClaim := { program := "ytjninokocidaaaa", sum := "1ca0a99ec39cb8495fc4dd687d11f22ba3da2079e0f87cdf1779a351d3a7c69d", func := "granary/granarylaw10.AllocCounts", spec := "allocCounts", recurses := true, apart := false }
def AllocCountsSaid : Prop := allocCountsRow.holds Try.pinned (OpenSpec.ofChange allocCountsSpec)

/-- ITS FALSE NEIGHBOUR: 'it returns false'. Refute it at one input. -/
def allocCountsWrong : ChangeSpec := { name := "allocCounts", fn := fun _ => fun
  | [d1, d2] => { results := [.lit (.bool false)], args := [d1, d2] }
  | _ => none }
def AllocCountsWrongFalsely : Prop := allocCountsRow.holds Try.pinned (OpenSpec.ofChange allocCountsWrong)

/-- 'granarylaw10.AllocPlays': WHATEVER THE INPUT: true; the input reads as it did. -/
def allocPlaysSpec : ChangeSpec := { name := "allocPlays", fn := fun _ => fun
  | [d1, d2, d3] => { results := [.lit (.bool true)], args := [d1, d2, d3] }
  | _ => none }
def allocPlaysRow : OpenClaim := { program := "ytjninokocidaaaa", sum := "1ca0a99ec39cb8495fc4dd687d11f22ba3da2079e0f87cdf1779a351d3a7c69d", func := "granary/granarylaw10.AllocPlays", spec := "allocPlays", recurses := true, apart := false }
def AllocPlaysSaid : Prop := allocPlaysRow.holds Try.pinned (OpenSpec.ofChange allocPlaysSpec)

/-- ITS FALSE NEIGHBOUR: 'it returns false'. Refute it at one input. -/
def allocPlaysWrong : ChangeSpec := { name := "allocPlays", fn := fun _ => fun
  | [d1, d2, d3] => { results := [.lit (.bool false)], args := [d1, d2, d3] }
  | _ => none }
def AllocPlaysWrongFalsely : Prop := allocPlaysRow.holds Try.pinned (OpenSpec.ofChange allocPlaysWrong)

/-- 'granarylaw10.AllocNil': WHATEVER THE INPUT: true; the input reads as it did. -/
def allocNilSpec : ChangeSpec := { name := "allocNil", fn := fun _ => fun
  | [] => { results := [.lit (.bool true)], args := [] }
  | _ => none }
def allocNilRow : OpenClaim := { program := "ytjninokocidaaaa", sum := "1ca0a99ec39cb8495fc4dd687d11f22ba3da2079e0f87cdf1779a351d3a7c69d", func := "granary/granarylaw10.AllocNil", spec := "allocNil", recurses := true, apart := false }
def AllocNilSaid : Prop := allocNilRow.holds Try.pinned (OpenSpec.ofChange allocNilSpec)

/-- ITS FALSE NEIGHBOUR: 'it returns false'. Refute it at one input. -/
def allocNilWrong : ChangeSpec := { name := "allocNil", fn := fun _ => fun
  | [] => { results := [.lit (.bool false)], args := [] }
  | _ => none }
def AllocNilWrongFalsely : Prop := allocNilRow.holds Try.pinned (OpenSpec.ofChange allocNilWrong)

/- THE SECOND FORM. 'bulk': how many values and letters a reading holds, each counted each time it is reached (what is shared counts as often as it is met; a slice's spare places count too). A statement '..UptoSaid' is the law's where the arguments, and the package variables that the reading takes, are together of bulk at most 1048576: NARROWER than '..Said'. Prove '..Said' where nothing that the law and all that it calls make is longer than what came in: it says more and counts as full. Else prove '..UptoSaid'. A law counts once. -/
mutual
def uptoBulk {H : Type} : DataW H → Nat
  | .lit (.string bytes) => bytes.length + 1
  | .lit _ => 1
  | .nil => 1
  | .ptr d => uptoBulk d + 1
  | .slice elems spare => uptoBulkAll elems + uptoBulkAll spare + 1
  | .agg parts => uptoBulkAll parts + 1
  | .iface _ d => uptoBulk d + 1
  | .map entries => uptoBulkEntries entries + 1
  | .held _ => 1
def uptoBulkAll {H : Type} : List (DataW H) → Nat
  | [] => 0
  | d :: r => uptoBulk d + uptoBulkAll r
def uptoBulkEntries {H : Type} : List (Lit × DataW H) → Nat
  | [] => 0
  | x :: r => uptoBulkEntry x + uptoBulkEntries r
def uptoBulkEntry {H : Type} : Lit × DataW H → Nat
  | (.string bytes, d) => bytes.length + uptoBulk d + 1
  | (_, d) => uptoBulk d + 1
 end
def uptoSmall : (H : Type) → List (DataW H) → Bool := fun _ ds => decide (uptoBulkAll ds ≤ 1048576)
def OpenSpec.upto (s : _root_.Go.ChangeSpec) : _root_.Go.OpenSpec := { _root_.Go.OpenSpec.ofChange s with cond := some uptoSmall }

/-- 'granarylaw10.AllocSizes', WHERE WHAT IT READS IS OF BULK AT MOST 1048576: true; the input reads as it did. -/
def allocSizesUptoRow : OpenClaim := { program := "ytjninokocidaaaa", sum := "1ca0a99ec39cb8495fc4dd687d11f22ba3da2079e0f87cdf1779a351d3a7c69d", func := "granary/granarylaw10.AllocSizes", spec := "allocSizes", recurses := true, apart := false, narrowed := true }
def AllocSizesUptoSaid : Prop := allocSizesUptoRow.holds Try.pinned (OpenSpec.upto allocSizesSpec)

/-- 'granarylaw10.AllocOld', WHERE WHAT IT READS IS OF BULK AT MOST 1048576: true; the input reads as it did. -/
def allocOldUptoRow : OpenClaim := { program := "ytjninokocidaaaa", sum := "1ca0a99ec39cb8495fc4dd687d11f22ba3da2079e0f87cdf1779a351d3a7c69d", func := "granary/granarylaw10.AllocOld", spec := "allocOld", recurses := true, apart := false, narrowed := true }
def AllocOldUptoSaid : Prop := allocOldUptoRow.holds Try.pinned (OpenSpec.upto allocOldSpec)

/-- 'granarylaw10.AllocReserved', WHERE WHAT IT READS IS OF BULK AT MOST 1048576: true; the input reads as it did. -/
def allocReservedUptoRow : OpenClaim := { program := "ytjninokocidaaaa", sum := "1ca0a99ec39cb8495fc4dd687d11f22ba3da2079e0f87cdf1779a351d3a7c69d", func := "granary/granarylaw10.AllocReserved", spec := "allocReserved", recurses := true, apart := false, narrowed := true }
def AllocReservedUptoSaid : Prop := allocReservedUptoRow.holds Try.pinned (OpenSpec.upto allocReservedSpec)

/-- 'granarylaw10.AllocBack', WHERE WHAT IT READS IS OF BULK AT MOST 1048576: true; the input reads as it did. -/
def allocBackUptoRow : OpenClaim := { program := "ytjninokocidaaaa", sum := "1ca0a99ec39cb8495fc4dd687d11f22ba3da2079e0f87cdf1779a351d3a7c69d", func := "granary/granarylaw10.AllocBack", spec := "allocBack", recurses := true, apart := false, narrowed := true }
def AllocBackUptoSaid : Prop := allocBackUptoRow.holds Try.pinned (OpenSpec.upto allocBackSpec)

/-- 'granarylaw10.AllocCounts', WHERE WHAT IT READS IS OF BULK AT MOST 1048576: true; the input reads as it did. -/
def allocCountsUptoRow : OpenClaim := { program := "ytjninokocidaaaa", sum := "1ca0a99ec39cb8495fc4dd687d11f22ba3da2079e0f87cdf1779a351d3a7c69d", func := "granary/granarylaw10.AllocCounts", spec := "allocCounts", recurses := true, apart := false, narrowed := true }
def AllocCountsUptoSaid : Prop := allocCountsUptoRow.holds Try.pinned (OpenSpec.upto allocCountsSpec)

/-- 'granarylaw10.AllocPlays', WHERE WHAT IT READS IS OF BULK AT MOST 1048576: true; the input reads as it did. -/
def allocPlaysUptoRow : OpenClaim := { program := "ytjninokocidaaaa", sum := "1ca0a99ec39cb8495fc4dd687d11f22ba3da2079e0f87cdf1779a351d3a7c69d", func := "granary/granarylaw10.AllocPlays", spec := "allocPlays", recurses := true, apart := false, narrowed := true }
def AllocPlaysUptoSaid : Prop := allocPlaysUptoRow.holds Try.pinned (OpenSpec.upto allocPlaysSpec)

/-- 'granarylaw10.AllocNil', WHERE WHAT IT READS IS OF BULK AT MOST 1048576: true; the input reads as it did. -/
def allocNilUptoRow : OpenClaim := { program := "ytjninokocidaaaa", sum := "1ca0a99ec39cb8495fc4dd687d11f22ba3da2079e0f87cdf1779a351d3a7c69d", func := "granary/granarylaw10.AllocNil", spec := "allocNil", recurses := true, apart := false, narrowed := true }
def AllocNilUptoSaid : Prop := allocNilUptoRow.holds Try.pinned (OpenSpec.upto allocNilSpec)

end Rows
end Go.Proofs.Ytjninokocidaaaa
