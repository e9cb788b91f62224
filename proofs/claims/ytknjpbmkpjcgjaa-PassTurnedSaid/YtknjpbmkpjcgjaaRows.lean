/-
  No cell of these rows narrows 'for every input' (looked for: loops, veiled, ifaces, maps, wideKeys, modest, calm, conditions, laid).
  DERIVED. THE GIVEN ROWS OF THIS SEAT. 10 by the template 'for every input the law returns true; each argument reads behind the call as it read before'; 0 by the template 'total and deterministic' (their statements: YtknjpbmkpjcgjaaTotals.lean).
  GIVEN WITH THE SEED: the statements are not yours to turn. If you find one false, say at which input.
  Laid BY PROGRAM, IN A SANDBOX (cutbox-rows.mjs): the forced cells as the released guide's own fill.sh prints them over the translation 9ef17939fe7eccc7… (all of the seat's roots in one cut). By AI agents, Wed Nov 11 2026. No macro, syntax, notation, axiom, sorry.
-/
import Derived.Test.YtknjpbmkpjcgjaaChecked
import GoSem.Claim
import GoSem.ClaimJoined
import GoSem.ClaimMapViews
import Derived.JoinedTies
import Derived.KernelRfl
namespace Go.Proofs.Ytknjpbmkpjcgjaa
/- THE CELL 'sum', in the pinned program and in every row, IS THE sha256 OF THE DUMP (.gsa) THAT YtknjpbmkpjcgjaaProg.lean LOADS. Nothing in Lean hashes anything: it is a label: what it is worth is what the hold of that sum in a sandbox is worth. -/
noncomputable def Try.pinned : Pinned := { name := "ytknjpbmkpjcgjaa", sum := "9ef17939fe7eccc7f49096c353dbb91a571c82775d610144460d5f22201c0b21", checked := Try.checked }
namespace Rows
def none {H : Type} : Left H := { results := [], args := [] }

/-- 'blockworkslaw10.PassReads': WHATEVER THE INPUT: true; the input reads as it did. -/
def passReadsSpec : ChangeSpec := { name := "passReads", fn := fun _ => fun
  | [d1, d2, d3] => { results := [.lit (.bool true)], args := [d1, d2, d3] }
  | _ => none }
def passReadsRow : OpenClaim := { program := "ytknjpbmkpjcgjaa", sum := "9ef17939fe7eccc7f49096c353dbb91a571c82775d610144460d5f22201c0b21", func := "blockworks/blockworkslaw10.PassReads", spec := "passReads", unfollowed := true, recurses := true, plainKeys := false, apart := false }
def PassReadsSaid : Prop := passReadsRow.holds Try.pinned (OpenSpec.ofChange passReadsSpec)

/-- ITS FALSE NEIGHBOUR: 'it returns false'. Refute it at one input. -/
def passReadsWrong : ChangeSpec := { name := "passReads", fn := fun _ => fun
  | [d1, d2, d3] => { results := [.lit (.bool false)], args := [d1, d2, d3] }
  | _ => none }
def PassReadsWrongFalsely : Prop := passReadsRow.holds Try.pinned (OpenSpec.ofChange passReadsWrong)

/-- 'blockworkslaw10.PassLooks': WHATEVER THE INPUT: true; the input reads as it did. -/
def passLooksSpec : ChangeSpec := { name := "passLooks", fn := fun _ => fun
  | [d1, d2, d3, d4, d5, d6] => { results := [.lit (.bool true)], args := [d1, d2, d3, d4, d5, d6] }
  | _ => none }
def passLooksRow : OpenClaim := { program := "ytknjpbmkpjcgjaa", sum := "9ef17939fe7eccc7f49096c353dbb91a571c82775d610144460d5f22201c0b21", func := "blockworks/blockworkslaw10.PassLooks", spec := "passLooks", unfollowed := true, recurses := true, plainKeys := false, apart := false }
def PassLooksSaid : Prop := passLooksRow.holds Try.pinned (OpenSpec.ofChange passLooksSpec)

/-- ITS FALSE NEIGHBOUR: 'it returns false'. Refute it at one input. -/
def passLooksWrong : ChangeSpec := { name := "passLooks", fn := fun _ => fun
  | [d1, d2, d3, d4, d5, d6] => { results := [.lit (.bool false)], args := [d1, d2, d3, d4, d5, d6] }
  | _ => none }
def PassLooksWrongFalsely : Prop := passLooksRow.holds Try.pinned (OpenSpec.ofChange passLooksWrong)

/-- 'blockworkslaw10.PassRenews': WHATEVER THE INPUT: true; the input reads as it did. -/
def passRenewsSpec : ChangeSpec := { name := "passRenews", fn := fun _ => fun
  | [d1, d2, d3] => { results := [.lit (.bool true)], args := [d1, d2, d3] }
  | _ => none }
def passRenewsRow : OpenClaim := { program := "ytknjpbmkpjcgjaa", sum := "9ef17939fe7eccc7f49096c353dbb91a571c82775d610144460d5f22201c0b21", func := "blockworks/blockworkslaw10.PassRenews", spec := "passRenews", unfollowed := true, recurses := true, plainKeys := false, apart := false }
def PassRenewsSaid : Prop := passRenewsRow.holds Try.pinned (OpenSpec.ofChange passRenewsSpec)

/-- ITS FALSE NEIGHBOUR: 'it returns false'. Refute it at one input. -/
def passRenewsWrong : ChangeSpec := { name := "passRenews", fn := fun _ => fun
  | [d1, d2, d3] => { results := [.lit (.bool false)], args := [d1, d2, d3] }
  | _ => none }
def PassRenewsWrongFalsely : Prop := passRenewsRow.holds Try.pinned (OpenSpec.ofChange passRenewsWrong)

/-- 'blockworkslaw10.PassChain': WHATEVER THE INPUT: true; the input reads as it did. -/
def passChainSpec : ChangeSpec := { name := "passChain", fn := fun _ => fun
  | [d1, d2, d3, d4] => { results := [.lit (.bool true)], args := [d1, d2, d3, d4] }
  | _ => none }
def passChainRow : OpenClaim := { program := "ytknjpbmkpjcgjaa", sum := "9ef17939fe7eccc7f49096c353dbb91a571c82775d610144460d5f22201c0b21", func := "blockworks/blockworkslaw10.PassChain", spec := "passChain", unfollowed := true, recurses := true, plainKeys := false, apart := false }
def PassChainSaid : Prop := passChainRow.holds Try.pinned (OpenSpec.ofChange passChainSpec)

/-- ITS FALSE NEIGHBOUR: 'it returns false'. Refute it at one input. -/
def passChainWrong : ChangeSpec := { name := "passChain", fn := fun _ => fun
  | [d1, d2, d3, d4] => { results := [.lit (.bool false)], args := [d1, d2, d3, d4] }
  | _ => none }
def PassChainWrongFalsely : Prop := passChainRow.holds Try.pinned (OpenSpec.ofChange passChainWrong)

/-- 'blockworkslaw10.PassUntil': WHATEVER THE INPUT: true; the input reads as it did. -/
def passUntilSpec : ChangeSpec := { name := "passUntil", fn := fun _ => fun
  | [d1, d2, d3, d4, d5] => { results := [.lit (.bool true)], args := [d1, d2, d3, d4, d5] }
  | _ => none }
def passUntilRow : OpenClaim := { program := "ytknjpbmkpjcgjaa", sum := "9ef17939fe7eccc7f49096c353dbb91a571c82775d610144460d5f22201c0b21", func := "blockworks/blockworkslaw10.PassUntil", spec := "passUntil", unfollowed := true, recurses := true, plainKeys := false, apart := false }
def PassUntilSaid : Prop := passUntilRow.holds Try.pinned (OpenSpec.ofChange passUntilSpec)

/-- ITS FALSE NEIGHBOUR: 'it returns false'. Refute it at one input. -/
def passUntilWrong : ChangeSpec := { name := "passUntil", fn := fun _ => fun
  | [d1, d2, d3, d4, d5] => { results := [.lit (.bool false)], args := [d1, d2, d3, d4, d5] }
  | _ => none }
def PassUntilWrongFalsely : Prop := passUntilRow.holds Try.pinned (OpenSpec.ofChange passUntilWrong)

/-- 'blockworkslaw10.PassTogether': WHATEVER THE INPUT: true; the input reads as it did. -/
def passTogetherSpec : ChangeSpec := { name := "passTogether", fn := fun _ => fun
  | [d1, d2, d3, d4] => { results := [.lit (.bool true)], args := [d1, d2, d3, d4] }
  | _ => none }
def passTogetherRow : OpenClaim := { program := "ytknjpbmkpjcgjaa", sum := "9ef17939fe7eccc7f49096c353dbb91a571c82775d610144460d5f22201c0b21", func := "blockworks/blockworkslaw10.PassTogether", spec := "passTogether", unfollowed := true, recurses := true, plainKeys := false, apart := false }
def PassTogetherSaid : Prop := passTogetherRow.holds Try.pinned (OpenSpec.ofChange passTogetherSpec)

/-- ITS FALSE NEIGHBOUR: 'it returns false'. Refute it at one input. -/
def passTogetherWrong : ChangeSpec := { name := "passTogether", fn := fun _ => fun
  | [d1, d2, d3, d4] => { results := [.lit (.bool false)], args := [d1, d2, d3, d4] }
  | _ => none }
def PassTogetherWrongFalsely : Prop := passTogetherRow.holds Try.pinned (OpenSpec.ofChange passTogetherWrong)

/-- 'blockworkslaw10.PassRecall': WHATEVER THE INPUT: true; the input reads as it did. -/
def passRecallSpec : ChangeSpec := { name := "passRecall", fn := fun _ => fun
  | [d1, d2, d3] => { results := [.lit (.bool true)], args := [d1, d2, d3] }
  | _ => none }
def passRecallRow : OpenClaim := { program := "ytknjpbmkpjcgjaa", sum := "9ef17939fe7eccc7f49096c353dbb91a571c82775d610144460d5f22201c0b21", func := "blockworks/blockworkslaw10.PassRecall", spec := "passRecall", unfollowed := true, recurses := true, plainKeys := false, apart := false }
def PassRecallSaid : Prop := passRecallRow.holds Try.pinned (OpenSpec.ofChange passRecallSpec)

/-- ITS FALSE NEIGHBOUR: 'it returns false'. Refute it at one input. -/
def passRecallWrong : ChangeSpec := { name := "passRecall", fn := fun _ => fun
  | [d1, d2, d3] => { results := [.lit (.bool false)], args := [d1, d2, d3] }
  | _ => none }
def PassRecallWrongFalsely : Prop := passRecallRow.holds Try.pinned (OpenSpec.ofChange passRecallWrong)

/-- 'blockworkslaw10.PassRenew': WHATEVER THE INPUT: true; the input reads as it did. -/
def passRenewSpec : ChangeSpec := { name := "passRenew", fn := fun _ => fun
  | [d1, d2, d3, d4, d5] => { results := [.lit (.bool true)], args := [d1, d2, d3, d4, d5] }
  | _ => none }
def passRenewRow : OpenClaim := { program := "ytknjpbmkpjcgjaa", sum := "9ef17939fe7eccc7f49096c353dbb91a571c82775d610144460d5f22201c0b21", func := "blockworks/blockworkslaw10.PassRenew", spec := "passRenew", unfollowed := true, recurses := true, plainKeys := false, apart := false }
def PassRenewSaid : Prop := passRenewRow.holds Try.pinned (OpenSpec.ofChange passRenewSpec)

/-- ITS FALSE NEIGHBOUR: 'it returns false'. Refute it at one input. -/
def passRenewWrong : ChangeSpec := { name := "passRenew", fn := fun _ => fun
  | [d1, d2, d3, d4, d5] => { results := [.lit (.bool false)], args := [d1, d2, d3, d4, d5] }
  | _ => none }
def PassRenewWrongFalsely : Prop := passRenewRow.holds Try.pinned (OpenSpec.ofChange passRenewWrong)

/-- 'blockworkslaw10.PassMore': WHATEVER THE INPUT: true; the input reads as it did. -/
def passMoreSpec : ChangeSpec := { name := "passMore", fn := fun _ => fun
  | [d1, d2, d3, d4, d5] => { results := [.lit (.bool true)], args := [d1, d2, d3, d4, d5] }
  | _ => none }
def passMoreRow : OpenClaim := { program := "ytknjpbmkpjcgjaa", sum := "9ef17939fe7eccc7f49096c353dbb91a571c82775d610144460d5f22201c0b21", func := "blockworks/blockworkslaw10.PassMore", spec := "passMore", unfollowed := true, recurses := true, plainKeys := false, apart := false }
def PassMoreSaid : Prop := passMoreRow.holds Try.pinned (OpenSpec.ofChange passMoreSpec)

/-- ITS FALSE NEIGHBOUR: 'it returns false'. Refute it at one input. -/
def passMoreWrong : ChangeSpec := { name := "passMore", fn := fun _ => fun
  | [d1, d2, d3, d4, d5] => { results := [.lit (.bool false)], args := [d1, d2, d3, d4, d5] }
  | _ => none }
def PassMoreWrongFalsely : Prop := passMoreRow.holds Try.pinned (OpenSpec.ofChange passMoreWrong)

/-- 'blockworkslaw10.PassTurned': WHATEVER THE INPUT: true; the input reads as it did. -/
def passTurnedSpec : ChangeSpec := { name := "passTurned", fn := fun _ => fun
  | [d1, d2, d3, d4] => { results := [.lit (.bool true)], args := [d1, d2, d3, d4] }
  | _ => none }
def passTurnedRow : OpenClaim := { program := "ytknjpbmkpjcgjaa", sum := "9ef17939fe7eccc7f49096c353dbb91a571c82775d610144460d5f22201c0b21", func := "blockworks/blockworkslaw10.PassTurned", spec := "passTurned", unfollowed := true, recurses := true, plainKeys := false, apart := false }
def PassTurnedSaid : Prop := passTurnedRow.holds Try.pinned (OpenSpec.ofChange passTurnedSpec)

/-- ITS FALSE NEIGHBOUR: 'it returns false'. Refute it at one input. -/
def passTurnedWrong : ChangeSpec := { name := "passTurned", fn := fun _ => fun
  | [d1, d2, d3, d4] => { results := [.lit (.bool false)], args := [d1, d2, d3, d4] }
  | _ => none }
def PassTurnedWrongFalsely : Prop := passTurnedRow.holds Try.pinned (OpenSpec.ofChange passTurnedWrong)

/- THE SECOND FORM. 'bulk': how many values and letters a reading holds, each counted each time it is reached (what is shared counts as often as it is met; a slice's spare places count too). A statement '..UptoSaid' is the law's where the arguments, and the package variables that the reading takes, are together of bulk at most 1048576: NARROWER than '..Said'. Prove '..Said' where nothing that the law and all that it calls make is longer than what came in: it says more and counts as full. Else prove '..UptoSaid'. A law counts once. -/
mutual
def uptoBulk {H : Type} : DataW H → Nat
  | .lit (.string bytes) => bytes.length + 1
  | .lit _ => 1
  | .nil => 1
  | .ptr d => uptoBulk d + 1
  | .slice elems spare => uptoBulkAll elems + uptoBulkAll spare + 1
  | .agg parts => uptoBulkAll parts + 1
  | .iface _ d => uptoBulk d + 1
  | .map entries => uptoBulkEntries entries + 1
  | .held _ => 1
def uptoBulkAll {H : Type} : List (DataW H) → Nat
  | [] => 0
  | d :: r => uptoBulk d + uptoBulkAll r
def uptoBulkEntries {H : Type} : List (Lit × DataW H) → Nat
  | [] => 0
  | x :: r => uptoBulkEntry x + uptoBulkEntries r
def uptoBulkEntry {H : Type} : Lit × DataW H → Nat
  | (.string bytes, d) => bytes.length + uptoBulk d + 1
  | (_, d) => uptoBulk d + 1
 end
def uptoSmall : (H : Type) → List (DataW H) → Bool := fun _ ds => decide (uptoBulkAll ds ≤ 1048576)
def OpenSpec.upto (s : _root_.Go.ChangeSpec) : _root_.Go.OpenSpec := { _root_.Go.OpenSpec.ofChange s with cond := some uptoSmall }

/-- 'blockworkslaw10.PassReads', WHERE WHAT IT READS IS OF BULK AT MOST 1048576: true; the input reads as it did. -/
def passReadsUptoRow : OpenClaim := { program := "ytknjpbmkpjcgjaa", sum := "9ef17939fe7eccc7f49096c353dbb91a571c82775d610144460d5f22201c0b21", func := "blockworks/blockworkslaw10.PassReads", spec := "passReads", unfollowed := true, recurses := true, plainKeys := false, apart := false, narrowed := true }
def PassReadsUptoSaid : Prop := passReadsUptoRow.holds Try.pinned (OpenSpec.upto passReadsSpec)

/-- 'blockworkslaw10.PassLooks', WHERE WHAT IT READS IS OF BULK AT MOST 1048576: true; the input reads as it did. -/
def passLooksUptoRow : OpenClaim := { program := "ytknjpbmkpjcgjaa", sum := "9ef17939fe7eccc7f49096c353dbb91a571c82775d610144460d5f22201c0b21", func := "blockworks/blockworkslaw10.PassLooks", spec := "passLooks", unfollowed := true, recurses := true, plainKeys := false, apart := false, narrowed := true }
def PassLooksUptoSaid : Prop := passLooksUptoRow.holds Try.pinned (OpenSpec.upto passLooksSpec)

/-- 'blockworkslaw10.PassRenews', WHERE WHAT IT READS IS OF BULK AT MOST 1048576: true; the input reads as it did. -/
def passRenewsUptoRow : OpenClaim := { program := "ytknjpbmkpjcgjaa", sum := "9ef17939fe7eccc7f49096c353dbb91a571c82775d610144460d5f22201c0b21", func := "blockworks/blockworkslaw10.PassRenews", spec := "passRenews", unfollowed := true, recurses := true, plainKeys := false, apart := false, narrowed := true }
def PassRenewsUptoSaid : Prop := passRenewsUptoRow.holds Try.pinned (OpenSpec.upto passRenewsSpec)

/-- 'blockworkslaw10.PassChain', WHERE WHAT IT READS IS OF BULK AT MOST 1048576: true; the input reads as it did. -/
def passChainUptoRow : OpenClaim := { program := "ytknjpbmkpjcgjaa", sum := "9ef17939fe7eccc7f49096c353dbb91a571c82775d610144460d5f22201c0b21", func := "blockworks/blockworkslaw10.PassChain", spec := "passChain", unfollowed := true, recurses := true, plainKeys := false, apart := false, narrowed := true }
def PassChainUptoSaid : Prop := passChainUptoRow.holds Try.pinned (OpenSpec.upto passChainSpec)

/-- 'blockworkslaw10.PassUntil', WHERE WHAT IT READS IS OF BULK AT MOST 1048576: true; the input reads as it did. -/
def passUntilUptoRow : OpenClaim := { program := "ytknjpbmkpjcgjaa", sum := "9ef17939fe7eccc7f49096c353dbb91a571c82775d610144460d5f22201c0b21", func := "blockworks/blockworkslaw10.PassUntil", spec := "passUntil", unfollowed := true, recurses := true, plainKeys := false, apart := false, narrowed := true }
def PassUntilUptoSaid : Prop := passUntilUptoRow.holds Try.pinned (OpenSpec.upto passUntilSpec)

/-- 'blockworkslaw10.PassTogether', WHERE WHAT IT READS IS OF BULK AT MOST 1048576: true; the input reads as it did. -/
def passTogetherUptoRow : OpenClaim := { program := "ytknjpbmkpjcgjaa", sum := "9ef17939fe7eccc7f49096c353dbb91a571c82775d610144460d5f22201c0b21", func := "blockworks/blockworkslaw10.PassTogether", spec := "passTogether", unfollowed := true, recurses := true, plainKeys := false, apart := false, narrowed := true }
def PassTogetherUptoSaid : Prop := passTogetherUptoRow.holds Try.pinned (OpenSpec.upto passTogetherSpec)

/-- 'blockworkslaw10.PassRecall', WHERE WHAT IT READS IS OF BULK AT MOST 1048576: true; the input reads as it did. -/
def passRecallUptoRow : OpenClaim := { program := "ytknjpbmkpjcgjaa", sum := "9ef17939fe7eccc7f49096c353dbb91a571c82775d610144460d5f22201c0b21", func := "blockworks/blockworkslaw10.PassRecall", spec := "passRecall", unfollowed := true, recurses := true, plainKeys := false, apart := false, narrowed := true }
def PassRecallUptoSaid : Prop := passRecallUptoRow.holds Try.pinned (OpenSpec.upto passRecallSpec)

/-- 'blockworkslaw10.PassRenew', WHERE WHAT IT READS IS OF BULK AT MOST 1048576: true; the input reads as it did. -/
def passRenewUptoRow : OpenClaim := { program := "ytknjpbmkpjcgjaa", sum := "9ef17939fe7eccc7f49096c353dbb91a571c82775d610144460d5f22201c0b21", func := "blockworks/blockworkslaw10.PassRenew", spec := "passRenew", unfollowed := true, recurses := true, plainKeys := false, apart := false, narrowed := true }
def PassRenewUptoSaid : Prop := passRenewUptoRow.holds Try.pinned (OpenSpec.upto passRenewSpec)

/-- 'blockworkslaw10.PassMore', WHERE WHAT IT READS IS OF BULK AT MOST 1048576: true; the input reads as it did. -/
def passMoreUptoRow : OpenClaim := { program := "ytknjpbmkpjcgjaa", sum := "9ef17939fe7eccc7f49096c353dbb91a571c82775d610144460d5f22201c0b21", func := "blockworks/blockworkslaw10.PassMore", spec := "passMore", unfollowed := true, recurses := true, plainKeys := false, apart := false, narrowed := true }
def PassMoreUptoSaid : Prop := passMoreUptoRow.holds Try.pinned (OpenSpec.upto passMoreSpec)

/-- 'blockworkslaw10.PassTurned', WHERE WHAT IT READS IS OF BULK AT MOST 1048576: true; the input reads as it did. -/
def passTurnedUptoRow : OpenClaim := { program := "ytknjpbmkpjcgjaa", sum := "9ef17939fe7eccc7f49096c353dbb91a571c82775d610144460d5f22201c0b21", func := "blockworks/blockworkslaw10.PassTurned", spec := "passTurned", unfollowed := true, recurses := true, plainKeys := false, apart := false, narrowed := true }
def PassTurnedUptoSaid : Prop := passTurnedUptoRow.holds Try.pinned (OpenSpec.upto passTurnedSpec)

end Rows
end Go.Proofs.Ytknjpbmkpjcgjaa
