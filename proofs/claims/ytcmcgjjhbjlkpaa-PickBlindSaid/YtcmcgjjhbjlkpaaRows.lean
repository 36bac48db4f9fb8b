/-
  No cell of these rows narrows 'for every input' (looked for: loops, veiled, ifaces, maps, wideKeys, modest, calm, conditions, laid).
  DERIVED. THE GIVEN ROWS OF THIS SEAT. 8 by the template 'for every input the law returns true; each argument reads behind the call as it read before'; 0 by the template 'total and deterministic' (their statements: YtcmcgjjhbjlkpaaTotals.lean).
  GIVEN WITH THE SEED: the statements are not yours to turn. If you find one false, say at which input.
  Laid BY PROGRAM, IN A SANDBOX (cutbox-rows.mjs): the forced cells as the released guide's own fill.sh prints them over the translation 92cdd32823c8ccce… (all of the seat's roots in one cut). By AI agents, Wed Nov 11 2026. No macro, syntax, notation, axiom, sorry.
-/
import Derived.Test.YtcmcgjjhbjlkpaaChecked
import GoSem.Claim
import GoSem.ClaimJoined
import GoSem.ClaimMapViews
import Derived.JoinedTies
import Derived.KernelRfl
namespace Go.Proofs.Ytcmcgjjhbjlkpaa
/- THE CELL 'sum', in the pinned program and in every row, IS THE sha256 OF THE DUMP (.gsa) THAT YtcmcgjjhbjlkpaaProg.lean LOADS. Nothing in Lean hashes anything: it is a label: what it is worth is what the hold of that sum in a sandbox is worth. -/
noncomputable def Try.pinned : Pinned := { name := "ytcmcgjjhbjlkpaa", sum := "92cdd32823c8ccce9ddc6f5b9d2560d0e6cee53b9c4d448148c409a9e7f193b7", checked := Try.checked }
namespace Rows
def none {H : Type} : Left H := { results := [], args := [] }

/-- 'aeriallaw30.SpecOrder': WHATEVER THE INPUT: true; the input reads as it did. -/
def specOrderSpec : ChangeSpec := { name := "specOrder", fn := fun _ => fun
  | [d1, d2] => { results := [.lit (.bool true)], args := [d1, d2] }
  | _ => none }
def specOrderRow : OpenClaim := { program := "ytcmcgjjhbjlkpaa", sum := "92cdd32823c8ccce9ddc6f5b9d2560d0e6cee53b9c4d448148c409a9e7f193b7", func := "aerial/aeriallaw30.SpecOrder", spec := "specOrder", unfollowed := true, recurses := true, plainKeys := false, apart := false }
def SpecOrderSaid : Prop := specOrderRow.holds Try.pinned (OpenSpec.ofChange specOrderSpec)

/-- ITS FALSE NEIGHBOUR: 'it returns false'. Refute it at one input. -/
def specOrderWrong : ChangeSpec := { name := "specOrder", fn := fun _ => fun
  | [d1, d2] => { results := [.lit (.bool false)], args := [d1, d2] }
  | _ => none }
def SpecOrderWrongFalsely : Prop := specOrderRow.holds Try.pinned (OpenSpec.ofChange specOrderWrong)

/-- 'aeriallaw30.SpecWindows': WHATEVER THE INPUT: true; the input reads as it did. -/
def specWindowsSpec : ChangeSpec := { name := "specWindows", fn := fun _ => fun
  | [d1, d2, d3] => { results := [.lit (.bool true)], args := [d1, d2, d3] }
  | _ => none }
def specWindowsRow : OpenClaim := { program := "ytcmcgjjhbjlkpaa", sum := "92cdd32823c8ccce9ddc6f5b9d2560d0e6cee53b9c4d448148c409a9e7f193b7", func := "aerial/aeriallaw30.SpecWindows", spec := "specWindows", unfollowed := true, recurses := true, plainKeys := false, apart := false }
def SpecWindowsSaid : Prop := specWindowsRow.holds Try.pinned (OpenSpec.ofChange specWindowsSpec)

/-- ITS FALSE NEIGHBOUR: 'it returns false'. Refute it at one input. -/
def specWindowsWrong : ChangeSpec := { name := "specWindows", fn := fun _ => fun
  | [d1, d2, d3] => { results := [.lit (.bool false)], args := [d1, d2, d3] }
  | _ => none }
def SpecWindowsWrongFalsely : Prop := specWindowsRow.holds Try.pinned (OpenSpec.ofChange specWindowsWrong)

/-- 'aeriallaw30.SpecWithin': WHATEVER THE INPUT: true; the input reads as it did. -/
def specWithinSpec : ChangeSpec := { name := "specWithin", fn := fun _ => fun
  | [d1, d2] => { results := [.lit (.bool true)], args := [d1, d2] }
  | _ => none }
def specWithinRow : OpenClaim := { program := "ytcmcgjjhbjlkpaa", sum := "92cdd32823c8ccce9ddc6f5b9d2560d0e6cee53b9c4d448148c409a9e7f193b7", func := "aerial/aeriallaw30.SpecWithin", spec := "specWithin", unfollowed := true, recurses := true, plainKeys := false, apart := false }
def SpecWithinSaid : Prop := specWithinRow.holds Try.pinned (OpenSpec.ofChange specWithinSpec)

/-- ITS FALSE NEIGHBOUR: 'it returns false'. Refute it at one input. -/
def specWithinWrong : ChangeSpec := { name := "specWithin", fn := fun _ => fun
  | [d1, d2] => { results := [.lit (.bool false)], args := [d1, d2] }
  | _ => none }
def SpecWithinWrongFalsely : Prop := specWithinRow.holds Try.pinned (OpenSpec.ofChange specWithinWrong)

/-- 'aeriallaw28.AirPlays': WHATEVER THE INPUT: true; the input reads as it did. -/
def airPlaysSpec : ChangeSpec := { name := "airPlays", fn := fun _ => fun
  | [d1, d2] => { results := [.lit (.bool true)], args := [d1, d2] }
  | _ => none }
def airPlaysRow : OpenClaim := { program := "ytcmcgjjhbjlkpaa", sum := "92cdd32823c8ccce9ddc6f5b9d2560d0e6cee53b9c4d448148c409a9e7f193b7", func := "aerial/aeriallaw28.AirPlays", spec := "airPlays", unfollowed := true, recurses := true, plainKeys := false, apart := false }
def AirPlaysSaid : Prop := airPlaysRow.holds Try.pinned (OpenSpec.ofChange airPlaysSpec)

/-- ITS FALSE NEIGHBOUR: 'it returns false'. Refute it at one input. -/
def airPlaysWrong : ChangeSpec := { name := "airPlays", fn := fun _ => fun
  | [d1, d2] => { results := [.lit (.bool false)], args := [d1, d2] }
  | _ => none }
def AirPlaysWrongFalsely : Prop := airPlaysRow.holds Try.pinned (OpenSpec.ofChange airPlaysWrong)

/-- 'aeriallaw23.PickPlays': WHATEVER THE INPUT: true; the input reads as it did. -/
def pickPlaysSpec : ChangeSpec := { name := "pickPlays", fn := fun _ => fun
  | [d1, d2, d3] => { results := [.lit (.bool true)], args := [d1, d2, d3] }
  | _ => none }
def pickPlaysRow : OpenClaim := { program := "ytcmcgjjhbjlkpaa", sum := "92cdd32823c8ccce9ddc6f5b9d2560d0e6cee53b9c4d448148c409a9e7f193b7", func := "aerial/aeriallaw23.PickPlays", spec := "pickPlays", unfollowed := true, recurses := true, plainKeys := false, apart := false }
def PickPlaysSaid : Prop := pickPlaysRow.holds Try.pinned (OpenSpec.ofChange pickPlaysSpec)

/-- ITS FALSE NEIGHBOUR: 'it returns false'. Refute it at one input. -/
def pickPlaysWrong : ChangeSpec := { name := "pickPlays", fn := fun _ => fun
  | [d1, d2, d3] => { results := [.lit (.bool false)], args := [d1, d2, d3] }
  | _ => none }
def PickPlaysWrongFalsely : Prop := pickPlaysRow.holds Try.pinned (OpenSpec.ofChange pickPlaysWrong)

/-- 'aeriallaw23.PickFair': WHATEVER THE INPUT: true; the input reads as it did. -/
def pickFairSpec : ChangeSpec := { name := "pickFair", fn := fun _ => fun
  | [d] => { results := [.lit (.bool true)], args := [d] }
  | _ => none }
def pickFairRow : OpenClaim := { program := "ytcmcgjjhbjlkpaa", sum := "92cdd32823c8ccce9ddc6f5b9d2560d0e6cee53b9c4d448148c409a9e7f193b7", func := "aerial/aeriallaw23.PickFair", spec := "pickFair", unfollowed := true, recurses := true, plainKeys := false, apart := false }
def PickFairSaid : Prop := pickFairRow.holds Try.pinned (OpenSpec.ofChange pickFairSpec)

/-- ITS FALSE NEIGHBOUR: 'it returns false'. Refute it at one input. -/
def pickFairWrong : ChangeSpec := { name := "pickFair", fn := fun _ => fun
  | [d] => { results := [.lit (.bool false)], args := [d] }
  | _ => none }
def PickFairWrongFalsely : Prop := pickFairRow.holds Try.pinned (OpenSpec.ofChange pickFairWrong)

/-- 'aeriallaw23.PickKnown': WHATEVER THE INPUT: true; the input reads as it did. -/
def pickKnownSpec : ChangeSpec := { name := "pickKnown", fn := fun _ => fun
  | [] => { results := [.lit (.bool true)], args := [] }
  | _ => none }
def pickKnownRow : OpenClaim := { program := "ytcmcgjjhbjlkpaa", sum := "92cdd32823c8ccce9ddc6f5b9d2560d0e6cee53b9c4d448148c409a9e7f193b7", func := "aerial/aeriallaw23.PickKnown", spec := "pickKnown", unfollowed := true, recurses := true, plainKeys := false, apart := false }
def PickKnownSaid : Prop := pickKnownRow.holds Try.pinned (OpenSpec.ofChange pickKnownSpec)

/-- ITS FALSE NEIGHBOUR: 'it returns false'. Refute it at one input. -/
def pickKnownWrong : ChangeSpec := { name := "pickKnown", fn := fun _ => fun
  | [] => { results := [.lit (.bool false)], args := [] }
  | _ => none }
def PickKnownWrongFalsely : Prop := pickKnownRow.holds Try.pinned (OpenSpec.ofChange pickKnownWrong)

/-- 'aeriallaw23.PickBlind': WHATEVER THE INPUT: true; the input reads as it did. -/
def pickBlindSpec : ChangeSpec := { name := "pickBlind", fn := fun _ => fun
  | [d1, d2, d3] => { results := [.lit (.bool true)], args := [d1, d2, d3] }
  | _ => none }
def pickBlindRow : OpenClaim := { program := "ytcmcgjjhbjlkpaa", sum := "92cdd32823c8ccce9ddc6f5b9d2560d0e6cee53b9c4d448148c409a9e7f193b7", func := "aerial/aeriallaw23.PickBlind", spec := "pickBlind", unfollowed := true, recurses := true, plainKeys := false, apart := false }
def PickBlindSaid : Prop := pickBlindRow.holds Try.pinned (OpenSpec.ofChange pickBlindSpec)

/-- ITS FALSE NEIGHBOUR: 'it returns false'. Refute it at one input. -/
def pickBlindWrong : ChangeSpec := { name := "pickBlind", fn := fun _ => fun
  | [d1, d2, d3] => { results := [.lit (.bool false)], args := [d1, d2, d3] }
  | _ => none }
def PickBlindWrongFalsely : Prop := pickBlindRow.holds Try.pinned (OpenSpec.ofChange pickBlindWrong)

/- THE SECOND FORM. 'bulk': how many values and letters a reading holds, each counted each time it is reached (what is shared counts as often as it is met; a slice's spare places count too). A statement '..UptoSaid' is the law's where the arguments, and the package variables that the reading takes, are together of bulk at most 1048576: NARROWER than '..Said'. Prove '..Said' where nothing that the law and all that it calls make is longer than what came in: it says more and counts as full. Else prove '..UptoSaid'. A law counts once. -/
mutual
def uptoBulk {H : Type} : DataW H → Nat
  | .lit (.string bytes) => bytes.length + 1
  | .lit _ => 1
  | .nil => 1
  | .ptr d => uptoBulk d + 1
  | .slice elems spare => uptoBulkAll elems + uptoBulkAll spare + 1
  | .agg parts => uptoBulkAll parts + 1
  | .iface _ d => uptoBulk d + 1
  | .map entries => uptoBulkEntries entries + 1
  | .held _ => 1
def uptoBulkAll {H : Type} : List (DataW H) → Nat
  | [] => 0
  | d :: r => uptoBulk d + uptoBulkAll r
def uptoBulkEntries {H : Type} : List (Lit × DataW H) → Nat
  | [] => 0
  | x :: r => uptoBulkEntry x + uptoBulkEntries r
def uptoBulkEntry {H : Type} : Lit × DataW H → Nat
  | (.string bytes, d) => bytes.length + uptoBulk d + 1
  | (_, d) => uptoBulk d + 1
 end
def uptoSmall : (H : Type) → List (DataW H) → Bool := fun _ ds => decide (uptoBulkAll ds ≤ 1048576)
def OpenSpec.upto (s : _root_.Go.ChangeSpec) : _root_.Go.OpenSpec := { _root_.Go.OpenSpec.ofChange s with cond := some uptoSmall }

/-- 'aeriallaw30.SpecOrder', WHERE WHAT IT READS IS OF BULK AT MOST 1048576: true; the input reads as it did. -/
def specOrderUptoRow : OpenClaim := { program := "ytcmcgjjhbjlkpaa", sum := "92cdd32823c8ccce9ddc6f5b9d2560d0e6cee53b9c4d448148c409a9e7f193b7", func := "aerial/aeriallaw30.SpecOrder", spec := "specOrder", unfollowed := true, recurses := true, plainKeys := false, apart := false, narrowed := true }
def SpecOrderUptoSaid : Prop := specOrderUptoRow.holds Try.pinned (OpenSpec.upto specOrderSpec)

/-- 'aeriallaw30.SpecWindows', WHERE WHAT IT READS IS OF BULK AT MOST 1048576: true; the input reads as it did. -/
def specWindowsUptoRow : OpenClaim := { program := "ytcmcgjjhbjlkpaa", sum := "92cdd32823c8ccce9ddc6f5b9d2560d0e6cee53b9c4d448148c409a9e7f193b7", func := "aerial/aeriallaw30.SpecWindows", spec := "specWindows", unfollowed := true, recurses := true, plainKeys := false, apart := false, narrowed := true }
def SpecWindowsUptoSaid : Prop := specWindowsUptoRow.holds Try.pinned (OpenSpec.upto specWindowsSpec)

/-- 'aeriallaw30.SpecWithin', WHERE WHAT IT READS IS OF BULK AT MOST 1048576: true; the input reads as it did. -/
def specWithinUptoRow : OpenClaim := { program := "ytcmcgjjhbjlkpaa", sum := "92cdd32823c8ccce9ddc6f5b9d2560d0e6cee53b9c4d448148c409a9e7f193b7", func := "aerial/aeriallaw30.SpecWithin", spec := "specWithin", unfollowed := true, recurses := true, plainKeys := false, apart := false, narrowed := true }
def SpecWithinUptoSaid : Prop := specWithinUptoRow.holds Try.pinned (OpenSpec.upto specWithinSpec)

/-- 'aeriallaw28.AirPlays', WHERE WHAT IT READS IS OF BULK AT MOST 1048576: true; the input reads as it did. -/
def airPlaysUptoRow : OpenClaim := { program := "ytcmcgjjhbjlkpaa", sum := "92cdd32823c8ccce9ddc6f5b9d2560d0e6cee53b9c4d448148c409a9e7f193b7", func := "aerial/aeriallaw28.AirPlays", spec := "airPlays", unfollowed := true, recurses := true, plainKeys := false, apart := false, narrowed := true }
def AirPlaysUptoSaid : Prop := airPlaysUptoRow.holds Try.pinned (OpenSpec.upto airPlaysSpec)

/-- 'aeriallaw23.PickPlays', WHERE WHAT IT READS IS OF BULK AT MOST 1048576: true; the input reads as it did. -/
def pickPlaysUptoRow : OpenClaim := { program := "ytcmcgjjhbjlkpaa", sum := "92cdd32823c8ccce9ddc6f5b9d2560d0e6cee53b9c4d448148c409a9e7f193b7", func := "aerial/aeriallaw23.PickPlays", spec := "pickPlays", unfollowed := true, recurses := true, plainKeys := false, apart := false, narrowed := true }
def PickPlaysUptoSaid : Prop := pickPlaysUptoRow.holds Try.pinned (OpenSpec.upto pickPlaysSpec)

/-- 'aeriallaw23.PickFair', WHERE WHAT IT READS IS OF BULK AT MOST 1048576: true; the input reads as it did. -/
def pickFairUptoRow : OpenClaim := { program := "ytcmcgjjhbjlkpaa", sum := "92cdd32823c8ccce9ddc6f5b9d2560d0e6cee53b9c4d448148c409a9e7f193b7", func := "aerial/aeriallaw23.PickFair", spec := "pickFair", unfollowed := true, recurses := true, plainKeys := false, apart := false, narrowed := true }
def PickFairUptoSaid : Prop := pickFairUptoRow.holds Try.pinned (OpenSpec.upto pickFairSpec)

/-- 'aeriallaw23.PickKnown', WHERE WHAT IT READS IS OF BULK AT MOST 1048576: true; the input reads as it did. -/
def pickKnownUptoRow : OpenClaim := { program := "ytcmcgjjhbjlkpaa", sum := "92cdd32823c8ccce9ddc6f5b9d2560d0e6cee53b9c4d448148c409a9e7f193b7", func := "aerial/aeriallaw23.PickKnown", spec := "pickKnown", unfollowed := true, recurses := true, plainKeys := false, apart := false, narrowed := true }
def PickKnownUptoSaid : Prop := pickKnownUptoRow.holds Try.pinned (OpenSpec.upto pickKnownSpec)

/-- 'aeriallaw23.PickBlind', WHERE WHAT IT READS IS OF BULK AT MOST 1048576: true; the input reads as it did. -/
def pickBlindUptoRow : OpenClaim := { program := "ytcmcgjjhbjlkpaa", sum := "92cdd32823c8ccce9ddc6f5b9d2560d0e6cee53b9c4d448148c409a9e7f193b7", func := "aerial/aeriallaw23.PickBlind", spec := "pickBlind", unfollowed := true, recurses := true, plainKeys := false, apart := false, narrowed := true }
def PickBlindUptoSaid : Prop := pickBlindUptoRow.holds Try.pinned (OpenSpec.upto pickBlindSpec)

end Rows
end Go.Proofs.Ytcmcgjjhbjlkpaa
