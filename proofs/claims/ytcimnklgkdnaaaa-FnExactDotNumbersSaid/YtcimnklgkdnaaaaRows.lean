/-
  No cell of these rows narrows 'for every input' (looked for: loops, veiled, ifaces, maps, wideKeys, modest, calm, conditions, laid).
  DERIVED. THE GIVEN ROWS OF THIS SEAT. 10 by the template 'for every input the law returns true; each argument reads behind the call as it read before'; 0 by the template 'total and deterministic' (their statements: YtcimnklgkdnaaaaTotals.lean).
  GIVEN WITH THE SEED: the statements are not yours to turn. If you find one false, say at which input.
  Laid BY PROGRAM, IN A SANDBOX (cutbox-rows.mjs): the forced cells as the released guide's own fill.sh prints them over the translation d0e68caf0f31f5f9… (all of the seat's roots in one cut). By AI agents, Wed Nov 11 2026. No macro, syntax, notation, axiom, sorry.
-/
import Derived.Test.YtcimnklgkdnaaaaChecked
import GoSem.Claim
import GoSem.ClaimJoined
import GoSem.ClaimMapViews
import Derived.JoinedTies
import Derived.KernelRfl
namespace Go.Proofs.Ytcimnklgkdnaaaa
/- THE CELL 'sum', in the pinned program and in every row, IS THE sha256 OF THE DUMP (.gsa) THAT YtcimnklgkdnaaaaProg.lean LOADS. Nothing in Lean hashes anything: it is a label: what it is worth is what the hold of that sum in a sandbox is worth. -/
noncomputable def Try.pinned : Pinned := { name := "ytcimnklgkdnaaaa", sum := "d0e68caf0f31f5f929ee9b31df3f3111ceca466d3a69c03bb7d31e6fc928c737", checked := Try.checked }
namespace Rows
def none {H : Type} : Left H := { results := [], args := [] }

/-- 'laws.FnExactAreKeys': WHATEVER THE INPUT: true; the input reads as it did. -/
def fnExactAreKeysSpec : ChangeSpec := { name := "fnExactAreKeys", fn := fun _ => fun
  | [d] => { results := [.lit (.bool true)], args := [d] }
  | _ => none }
def fnExactAreKeysRow : OpenClaim := { program := "ytcimnklgkdnaaaa", sum := "d0e68caf0f31f5f929ee9b31df3f3111ceca466d3a69c03bb7d31e6fc928c737", func := "loop.example/g01347/laws.FnExactAreKeys", spec := "fnExactAreKeys", unfollowed := true, recurses := true, apart := false }
def FnExactAreKeysSaid : Prop := fnExactAreKeysRow.holds Try.pinned (OpenSpec.ofChange fnExactAreKeysSpec)

/-- ITS FALSE NEIGHBOUR: 'it returns false'. Refute it at one input. -/
def fnExactAreKeysWrong : ChangeSpec := { name := "fnExactAreKeys", fn := fun _ => fun
  | [d] => { results := [.lit (.bool false)], args := [d] }
  | _ => none }
def FnExactAreKeysWrongFalsely : Prop := fnExactAreKeysRow.holds Try.pinned (OpenSpec.ofChange fnExactAreKeysWrong)

/-- 'laws.FnExactHomeOf': WHATEVER THE INPUT: true; the input reads as it did. -/
def fnExactHomeOfSpec : ChangeSpec := { name := "fnExactHomeOf", fn := fun _ => fun
  | [d1, d2] => { results := [.lit (.bool true)], args := [d1, d2] }
  | _ => none }
def fnExactHomeOfRow : OpenClaim := { program := "ytcimnklgkdnaaaa", sum := "d0e68caf0f31f5f929ee9b31df3f3111ceca466d3a69c03bb7d31e6fc928c737", func := "loop.example/g01347/laws.FnExactHomeOf", spec := "fnExactHomeOf", unfollowed := true, recurses := true, apart := false }
def FnExactHomeOfSaid : Prop := fnExactHomeOfRow.holds Try.pinned (OpenSpec.ofChange fnExactHomeOfSpec)

/-- ITS FALSE NEIGHBOUR: 'it returns false'. Refute it at one input. -/
def fnExactHomeOfWrong : ChangeSpec := { name := "fnExactHomeOf", fn := fun _ => fun
  | [d1, d2] => { results := [.lit (.bool false)], args := [d1, d2] }
  | _ => none }
def FnExactHomeOfWrongFalsely : Prop := fnExactHomeOfRow.holds Try.pinned (OpenSpec.ofChange fnExactHomeOfWrong)

/-- 'laws.FnExactMeetingsOf': WHATEVER THE INPUT: true; the input reads as it did. -/
def fnExactMeetingsOfSpec : ChangeSpec := { name := "fnExactMeetingsOf", fn := fun _ => fun
  | [d1, d2, d3] => { results := [.lit (.bool true)], args := [d1, d2, d3] }
  | _ => none }
def fnExactMeetingsOfRow : OpenClaim := { program := "ytcimnklgkdnaaaa", sum := "d0e68caf0f31f5f929ee9b31df3f3111ceca466d3a69c03bb7d31e6fc928c737", func := "loop.example/g01347/laws.FnExactMeetingsOf", spec := "fnExactMeetingsOf", unfollowed := true, recurses := true, apart := false }
def FnExactMeetingsOfSaid : Prop := fnExactMeetingsOfRow.holds Try.pinned (OpenSpec.ofChange fnExactMeetingsOfSpec)

/-- ITS FALSE NEIGHBOUR: 'it returns false'. Refute it at one input. -/
def fnExactMeetingsOfWrong : ChangeSpec := { name := "fnExactMeetingsOf", fn := fun _ => fun
  | [d1, d2, d3] => { results := [.lit (.bool false)], args := [d1, d2, d3] }
  | _ => none }
def FnExactMeetingsOfWrongFalsely : Prop := fnExactMeetingsOfRow.holds Try.pinned (OpenSpec.ofChange fnExactMeetingsOfWrong)

/-- 'laws.FnExactRingHome': WHATEVER THE INPUT: true; the input reads as it did. -/
def fnExactRingHomeSpec : ChangeSpec := { name := "fnExactRingHome", fn := fun _ => fun
  | [d1, d2, d3] => { results := [.lit (.bool true)], args := [d1, d2, d3] }
  | _ => none }
def fnExactRingHomeRow : OpenClaim := { program := "ytcimnklgkdnaaaa", sum := "d0e68caf0f31f5f929ee9b31df3f3111ceca466d3a69c03bb7d31e6fc928c737", func := "loop.example/g01347/laws.FnExactRingHome", spec := "fnExactRingHome", unfollowed := true, recurses := true, apart := false }
def FnExactRingHomeSaid : Prop := fnExactRingHomeRow.holds Try.pinned (OpenSpec.ofChange fnExactRingHomeSpec)

/-- ITS FALSE NEIGHBOUR: 'it returns false'. Refute it at one input. -/
def fnExactRingHomeWrong : ChangeSpec := { name := "fnExactRingHome", fn := fun _ => fun
  | [d1, d2, d3] => { results := [.lit (.bool false)], args := [d1, d2, d3] }
  | _ => none }
def FnExactRingHomeWrongFalsely : Prop := fnExactRingHomeRow.holds Try.pinned (OpenSpec.ofChange fnExactRingHomeWrong)

/-- 'laws.FnExactSpreadOfKeys': WHATEVER THE INPUT: true; the input reads as it did. -/
def fnExactSpreadOfKeysSpec : ChangeSpec := { name := "fnExactSpreadOfKeys", fn := fun _ => fun
  | [d1, d2, d3] => { results := [.lit (.bool true)], args := [d1, d2, d3] }
  | _ => none }
def fnExactSpreadOfKeysRow : OpenClaim := { program := "ytcimnklgkdnaaaa", sum := "d0e68caf0f31f5f929ee9b31df3f3111ceca466d3a69c03bb7d31e6fc928c737", func := "loop.example/g01347/laws.FnExactSpreadOfKeys", spec := "fnExactSpreadOfKeys", unfollowed := true, recurses := true, apart := false }
def FnExactSpreadOfKeysSaid : Prop := fnExactSpreadOfKeysRow.holds Try.pinned (OpenSpec.ofChange fnExactSpreadOfKeysSpec)

/-- ITS FALSE NEIGHBOUR: 'it returns false'. Refute it at one input. -/
def fnExactSpreadOfKeysWrong : ChangeSpec := { name := "fnExactSpreadOfKeys", fn := fun _ => fun
  | [d1, d2, d3] => { results := [.lit (.bool false)], args := [d1, d2, d3] }
  | _ => none }
def FnExactSpreadOfKeysWrongFalsely : Prop := fnExactSpreadOfKeysRow.holds Try.pinned (OpenSpec.ofChange fnExactSpreadOfKeysWrong)

/-- 'laws.FnExactHashRow': WHATEVER THE INPUT: true; the input reads as it did. -/
def fnExactHashRowSpec : ChangeSpec := { name := "fnExactHashRow", fn := fun _ => fun
  | [d1, d2] => { results := [.lit (.bool true)], args := [d1, d2] }
  | _ => none }
def fnExactHashRowRow : OpenClaim := { program := "ytcimnklgkdnaaaa", sum := "d0e68caf0f31f5f929ee9b31df3f3111ceca466d3a69c03bb7d31e6fc928c737", func := "loop.example/g01347/laws.FnExactHashRow", spec := "fnExactHashRow", unfollowed := true, recurses := true, apart := false }
def FnExactHashRowSaid : Prop := fnExactHashRowRow.holds Try.pinned (OpenSpec.ofChange fnExactHashRowSpec)

/-- ITS FALSE NEIGHBOUR: 'it returns false'. Refute it at one input. -/
def fnExactHashRowWrong : ChangeSpec := { name := "fnExactHashRow", fn := fun _ => fun
  | [d1, d2] => { results := [.lit (.bool false)], args := [d1, d2] }
  | _ => none }
def FnExactHashRowWrongFalsely : Prop := fnExactHashRowRow.holds Try.pinned (OpenSpec.ofChange fnExactHashRowWrong)

/-- 'laws.FnExactLeastHash': WHATEVER THE INPUT: true; the input reads as it did. -/
def fnExactLeastHashSpec : ChangeSpec := { name := "fnExactLeastHash", fn := fun _ => fun
  | [d1, d2] => { results := [.lit (.bool true)], args := [d1, d2] }
  | _ => none }
def fnExactLeastHashRow : OpenClaim := { program := "ytcimnklgkdnaaaa", sum := "d0e68caf0f31f5f929ee9b31df3f3111ceca466d3a69c03bb7d31e6fc928c737", func := "loop.example/g01347/laws.FnExactLeastHash", spec := "fnExactLeastHash", unfollowed := true, recurses := true, apart := false }
def FnExactLeastHashSaid : Prop := fnExactLeastHashRow.holds Try.pinned (OpenSpec.ofChange fnExactLeastHashSpec)

/-- ITS FALSE NEIGHBOUR: 'it returns false'. Refute it at one input. -/
def fnExactLeastHashWrong : ChangeSpec := { name := "fnExactLeastHash", fn := fun _ => fun
  | [d1, d2] => { results := [.lit (.bool false)], args := [d1, d2] }
  | _ => none }
def FnExactLeastHashWrongFalsely : Prop := fnExactLeastHashRow.holds Try.pinned (OpenSpec.ofChange fnExactLeastHashWrong)

/-- 'laws.FnExactBitsOfHash': WHATEVER THE INPUT: true; the input reads as it did. -/
def fnExactBitsOfHashSpec : ChangeSpec := { name := "fnExactBitsOfHash", fn := fun _ => fun
  | [d1, d2, d3] => { results := [.lit (.bool true)], args := [d1, d2, d3] }
  | _ => none }
def fnExactBitsOfHashRow : OpenClaim := { program := "ytcimnklgkdnaaaa", sum := "d0e68caf0f31f5f929ee9b31df3f3111ceca466d3a69c03bb7d31e6fc928c737", func := "loop.example/g01347/laws.FnExactBitsOfHash", spec := "fnExactBitsOfHash", apart := false }
def FnExactBitsOfHashSaid : Prop := fnExactBitsOfHashRow.holds Try.pinned (OpenSpec.ofChange fnExactBitsOfHashSpec)

/-- ITS FALSE NEIGHBOUR: 'it returns false'. Refute it at one input. -/
def fnExactBitsOfHashWrong : ChangeSpec := { name := "fnExactBitsOfHash", fn := fun _ => fun
  | [d1, d2, d3] => { results := [.lit (.bool false)], args := [d1, d2, d3] }
  | _ => none }
def FnExactBitsOfHashWrongFalsely : Prop := fnExactBitsOfHashRow.holds Try.pinned (OpenSpec.ofChange fnExactBitsOfHashWrong)

/-- 'laws.FnExactDotNumbers': WHATEVER THE INPUT: true; the input reads as it did. -/
def fnExactDotNumbersSpec : ChangeSpec := { name := "fnExactDotNumbers", fn := fun _ => fun
  | [d1, d2] => { results := [.lit (.bool true)], args := [d1, d2] }
  | _ => none }
def fnExactDotNumbersRow : OpenClaim := { program := "ytcimnklgkdnaaaa", sum := "d0e68caf0f31f5f929ee9b31df3f3111ceca466d3a69c03bb7d31e6fc928c737", func := "loop.example/g01347/laws.FnExactDotNumbers", spec := "fnExactDotNumbers", apart := false }
def FnExactDotNumbersSaid : Prop := fnExactDotNumbersRow.holds Try.pinned (OpenSpec.ofChange fnExactDotNumbersSpec)

/-- ITS FALSE NEIGHBOUR: 'it returns false'. Refute it at one input. -/
def fnExactDotNumbersWrong : ChangeSpec := { name := "fnExactDotNumbers", fn := fun _ => fun
  | [d1, d2] => { results := [.lit (.bool false)], args := [d1, d2] }
  | _ => none }
def FnExactDotNumbersWrongFalsely : Prop := fnExactDotNumbersRow.holds Try.pinned (OpenSpec.ofChange fnExactDotNumbersWrong)

/-- 'laws.FnExactSumNumbers': WHATEVER THE INPUT: true; the input reads as it did. -/
def fnExactSumNumbersSpec : ChangeSpec := { name := "fnExactSumNumbers", fn := fun _ => fun
  | [d] => { results := [.lit (.bool true)], args := [d] }
  | _ => none }
def fnExactSumNumbersRow : OpenClaim := { program := "ytcimnklgkdnaaaa", sum := "d0e68caf0f31f5f929ee9b31df3f3111ceca466d3a69c03bb7d31e6fc928c737", func := "loop.example/g01347/laws.FnExactSumNumbers", spec := "fnExactSumNumbers", apart := false }
def FnExactSumNumbersSaid : Prop := fnExactSumNumbersRow.holds Try.pinned (OpenSpec.ofChange fnExactSumNumbersSpec)

/-- ITS FALSE NEIGHBOUR: 'it returns false'. Refute it at one input. -/
def fnExactSumNumbersWrong : ChangeSpec := { name := "fnExactSumNumbers", fn := fun _ => fun
  | [d] => { results := [.lit (.bool false)], args := [d] }
  | _ => none }
def FnExactSumNumbersWrongFalsely : Prop := fnExactSumNumbersRow.holds Try.pinned (OpenSpec.ofChange fnExactSumNumbersWrong)

/- THE SECOND FORM. 'bulk': how many values and letters a reading holds, each counted each time it is reached (what is shared counts as often as it is met; a slice's spare places count too). A statement '..UptoSaid' is the law's where the arguments, and the package variables that the reading takes, are together of bulk at most 1048576: NARROWER than '..Said'. Prove '..Said' where nothing that the law and all that it calls make is longer than what came in: it says more and counts as full. Else prove '..UptoSaid'. A law counts once. -/
mutual
def uptoBulk {H : Type} : DataW H → Nat
  | .lit (.string bytes) => bytes.length + 1
  | .lit _ => 1
  | .nil => 1
  | .ptr d => uptoBulk d + 1
  | .slice elems spare => uptoBulkAll elems + uptoBulkAll spare + 1
  | .agg parts => uptoBulkAll parts + 1
  | .iface _ d => uptoBulk d + 1
  | .map entries => uptoBulkEntries entries + 1
  | .held _ => 1
def uptoBulkAll {H : Type} : List (DataW H) → Nat
  | [] => 0
  | d :: r => uptoBulk d + uptoBulkAll r
def uptoBulkEntries {H : Type} : List (Lit × DataW H) → Nat
  | [] => 0
  | x :: r => uptoBulkEntry x + uptoBulkEntries r
def uptoBulkEntry {H : Type} : Lit × DataW H → Nat
  | (.string bytes, d) => bytes.length + uptoBulk d + 1
  | (_, d) => uptoBulk d + 1
 end
def uptoSmall : (H : Type) → List (DataW H) → Bool := fun _ ds => decide (uptoBulkAll ds ≤ 1048576)
def OpenSpec.upto (s : _root_.Go.ChangeSpec) : _root_.Go.OpenSpec := { _root_.Go.OpenSpec.ofChange s with cond := some uptoSmall }

/-- 'laws.FnExactAreKeys', WHERE WHAT IT READS IS OF BULK AT MOST 1048576: true; the input reads as it did. -/
def fnExactAreKeysUptoRow : OpenClaim := { program := "ytcimnklgkdnaaaa", sum := "d0e68caf0f31f5f929ee9b31df3f3111ceca466d3a69c03bb7d31e6fc928c737", func := "loop.example/g01347/laws.FnExactAreKeys", spec := "fnExactAreKeys", unfollowed := true, recurses := true, apart := false, narrowed := true }
def FnExactAreKeysUptoSaid : Prop := fnExactAreKeysUptoRow.holds Try.pinned (OpenSpec.upto fnExactAreKeysSpec)

/-- 'laws.FnExactHomeOf', WHERE WHAT IT READS IS OF BULK AT MOST 1048576: true; the input reads as it did. -/
def fnExactHomeOfUptoRow : OpenClaim := { program := "ytcimnklgkdnaaaa", sum := "d0e68caf0f31f5f929ee9b31df3f3111ceca466d3a69c03bb7d31e6fc928c737", func := "loop.example/g01347/laws.FnExactHomeOf", spec := "fnExactHomeOf", unfollowed := true, recurses := true, apart := false, narrowed := true }
def FnExactHomeOfUptoSaid : Prop := fnExactHomeOfUptoRow.holds Try.pinned (OpenSpec.upto fnExactHomeOfSpec)

/-- 'laws.FnExactMeetingsOf', WHERE WHAT IT READS IS OF BULK AT MOST 1048576: true; the input reads as it did. -/
def fnExactMeetingsOfUptoRow : OpenClaim := { program := "ytcimnklgkdnaaaa", sum := "d0e68caf0f31f5f929ee9b31df3f3111ceca466d3a69c03bb7d31e6fc928c737", func := "loop.example/g01347/laws.FnExactMeetingsOf", spec := "fnExactMeetingsOf", unfollowed := true, recurses := true, apart := false, narrowed := true }
def FnExactMeetingsOfUptoSaid : Prop := fnExactMeetingsOfUptoRow.holds Try.pinned (OpenSpec.upto fnExactMeetingsOfSpec)

/-- 'laws.FnExactRingHome', WHERE WHAT IT READS IS OF BULK AT MOST 1048576: true; the input reads as it did. -/
def fnExactRingHomeUptoRow : OpenClaim := { program := "ytcimnklgkdnaaaa", sum := "d0e68caf0f31f5f929ee9b31df3f3111ceca466d3a69c03bb7d31e6fc928c737", func := "loop.example/g01347/laws.FnExactRingHome", spec := "fnExactRingHome", unfollowed := true, recurses := true, apart := false, narrowed := true }
def FnExactRingHomeUptoSaid : Prop := fnExactRingHomeUptoRow.holds Try.pinned (OpenSpec.upto fnExactRingHomeSpec)

/-- 'laws.FnExactSpreadOfKeys', WHERE WHAT IT READS IS OF BULK AT MOST 1048576: true; the input reads as it did. -/
def fnExactSpreadOfKeysUptoRow : OpenClaim := { program := "ytcimnklgkdnaaaa", sum := "d0e68caf0f31f5f929ee9b31df3f3111ceca466d3a69c03bb7d31e6fc928c737", func := "loop.example/g01347/laws.FnExactSpreadOfKeys", spec := "fnExactSpreadOfKeys", unfollowed := true, recurses := true, apart := false, narrowed := true }
def FnExactSpreadOfKeysUptoSaid : Prop := fnExactSpreadOfKeysUptoRow.holds Try.pinned (OpenSpec.upto fnExactSpreadOfKeysSpec)

/-- 'laws.FnExactHashRow', WHERE WHAT IT READS IS OF BULK AT MOST 1048576: true; the input reads as it did. -/
def fnExactHashRowUptoRow : OpenClaim := { program := "ytcimnklgkdnaaaa", sum := "d0e68caf0f31f5f929ee9b31df3f3111ceca466d3a69c03bb7d31e6fc928c737", func := "loop.example/g01347/laws.FnExactHashRow", spec := "fnExactHashRow", unfollowed := true, recurses := true, apart := false, narrowed := true }
def FnExactHashRowUptoSaid : Prop := fnExactHashRowUptoRow.holds Try.pinned (OpenSpec.upto fnExactHashRowSpec)

/-- 'laws.FnExactLeastHash', WHERE WHAT IT READS IS OF BULK AT MOST 1048576: true; the input reads as it did. -/
def fnExactLeastHashUptoRow : OpenClaim := { program := "ytcimnklgkdnaaaa", sum := "d0e68caf0f31f5f929ee9b31df3f3111ceca466d3a69c03bb7d31e6fc928c737", func := "loop.example/g01347/laws.FnExactLeastHash", spec := "fnExactLeastHash", unfollowed := true, recurses := true, apart := false, narrowed := true }
def FnExactLeastHashUptoSaid : Prop := fnExactLeastHashUptoRow.holds Try.pinned (OpenSpec.upto fnExactLeastHashSpec)

/-- 'laws.FnExactBitsOfHash', WHERE WHAT IT READS IS OF BULK AT MOST 1048576: true; the input reads as it did. -/
def fnExactBitsOfHashUptoRow : OpenClaim := { program := "ytcimnklgkdnaaaa", sum := "d0e68caf0f31f5f929ee9b31df3f3111ceca466d3a69c03bb7d31e6fc928c737", func := "loop.example/g01347/laws.FnExactBitsOfHash", spec := "fnExactBitsOfHash", apart := false, narrowed := true }
def FnExactBitsOfHashUptoSaid : Prop := fnExactBitsOfHashUptoRow.holds Try.pinned (OpenSpec.upto fnExactBitsOfHashSpec)

/-- 'laws.FnExactDotNumbers', WHERE WHAT IT READS IS OF BULK AT MOST 1048576: true; the input reads as it did. -/
def fnExactDotNumbersUptoRow : OpenClaim := { program := "ytcimnklgkdnaaaa", sum := "d0e68caf0f31f5f929ee9b31df3f3111ceca466d3a69c03bb7d31e6fc928c737", func := "loop.example/g01347/laws.FnExactDotNumbers", spec := "fnExactDotNumbers", apart := false, narrowed := true }
def FnExactDotNumbersUptoSaid : Prop := fnExactDotNumbersUptoRow.holds Try.pinned (OpenSpec.upto fnExactDotNumbersSpec)

/-- 'laws.FnExactSumNumbers', WHERE WHAT IT READS IS OF BULK AT MOST 1048576: true; the input reads as it did. -/
def fnExactSumNumbersUptoRow : OpenClaim := { program := "ytcimnklgkdnaaaa", sum := "d0e68caf0f31f5f929ee9b31df3f3111ceca466d3a69c03bb7d31e6fc928c737", func := "loop.example/g01347/laws.FnExactSumNumbers", spec := "fnExactSumNumbers", apart := false, narrowed := true }
def FnExactSumNumbersUptoSaid : Prop := fnExactSumNumbersUptoRow.holds Try.pinned (OpenSpec.upto fnExactSumNumbersSpec)

end Rows
end Go.Proofs.Ytcimnklgkdnaaaa
