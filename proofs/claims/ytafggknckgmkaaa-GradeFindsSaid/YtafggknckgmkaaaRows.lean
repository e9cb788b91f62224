/-
  No cell of these rows narrows 'for every input' (looked for: loops, veiled, ifaces, maps, wideKeys, modest, calm, conditions, laid).
  DERIVED. THE GIVEN ROWS OF THIS SEAT. 10 by the template 'for every input the law returns true; each argument reads behind the call as it read before'; 0 by the template 'total and deterministic' (their statements: YtafggknckgmkaaaTotals.lean).
  GIVEN WITH THE SEED: the statements are not yours to turn. If you find one false, say at which input.
  Laid BY PROGRAM, IN A SANDBOX (cutbox-rows.mjs): the forced cells as the released guide's own fill.sh prints them over the translation d67c8fcc113b59bc… (all of the seat's roots in one cut). By AI agents, Wed Nov 11 2026. No macro, syntax, notation, axiom, sorry.
-/
import Derived.Test.YtafggknckgmkaaaChecked
import GoSem.Claim
import GoSem.ClaimJoined
import GoSem.ClaimMapViews
import Derived.JoinedTies
import Derived.KernelRfl
namespace Go.Proofs.Ytafggknckgmkaaa
/- THE CELL 'sum', in the pinned program and in every row, IS THE sha256 OF THE DUMP (.gsa) THAT YtafggknckgmkaaaProg.lean LOADS. Nothing in Lean hashes anything: it is a label: what it is worth is what the hold of that sum in a sandbox is worth. -/
noncomputable def Try.pinned : Pinned := { name := "ytafggknckgmkaaa", sum := "d67c8fcc113b59bc645ad6049d9a4989621e3f9db08c0679a8f97ced00188bd2", checked := Try.checked }
namespace Rows
def none {H : Type} : Left H := { results := [], args := [] }

/-- 'blockworkslaw07.GradeTells': WHATEVER THE INPUT: true; the input reads as it did. -/
def gradeTellsSpec : ChangeSpec := { name := "gradeTells", fn := fun _ => fun
  | [d1, d2, d3] => { results := [.lit (.bool true)], args := [d1, d2, d3] }
  | _ => none }
def gradeTellsRow : OpenClaim := { program := "ytafggknckgmkaaa", sum := "d67c8fcc113b59bc645ad6049d9a4989621e3f9db08c0679a8f97ced00188bd2", func := "blockworks/blockworkslaw07.GradeTells", spec := "gradeTells", unfollowed := true, recurses := true, plainKeys := false, apart := false }
def GradeTellsSaid : Prop := gradeTellsRow.holds Try.pinned (OpenSpec.ofChange gradeTellsSpec)

/-- ITS FALSE NEIGHBOUR: 'it returns false'. Refute it at one input. -/
def gradeTellsWrong : ChangeSpec := { name := "gradeTells", fn := fun _ => fun
  | [d1, d2, d3] => { results := [.lit (.bool false)], args := [d1, d2, d3] }
  | _ => none }
def GradeTellsWrongFalsely : Prop := gradeTellsRow.holds Try.pinned (OpenSpec.ofChange gradeTellsWrong)

/-- 'blockworkslaw07.GradeFinds': WHATEVER THE INPUT: true; the input reads as it did. -/
def gradeFindsSpec : ChangeSpec := { name := "gradeFinds", fn := fun _ => fun
  | [d1, d2] => { results := [.lit (.bool true)], args := [d1, d2] }
  | _ => none }
def gradeFindsRow : OpenClaim := { program := "ytafggknckgmkaaa", sum := "d67c8fcc113b59bc645ad6049d9a4989621e3f9db08c0679a8f97ced00188bd2", func := "blockworks/blockworkslaw07.GradeFinds", spec := "gradeFinds", unfollowed := true, recurses := true, plainKeys := false, apart := false }
def GradeFindsSaid : Prop := gradeFindsRow.holds Try.pinned (OpenSpec.ofChange gradeFindsSpec)

/-- ITS FALSE NEIGHBOUR: 'it returns false'. Refute it at one input. -/
def gradeFindsWrong : ChangeSpec := { name := "gradeFinds", fn := fun _ => fun
  | [d1, d2] => { results := [.lit (.bool false)], args := [d1, d2] }
  | _ => none }
def GradeFindsWrongFalsely : Prop := gradeFindsRow.holds Try.pinned (OpenSpec.ofChange gradeFindsWrong)

/-- 'blockworkslaw07.GradeNames': WHATEVER THE INPUT: true; the input reads as it did. -/
def gradeNamesSpec : ChangeSpec := { name := "gradeNames", fn := fun _ => fun
  | [] => { results := [.lit (.bool true)], args := [] }
  | _ => none }
def gradeNamesRow : OpenClaim := { program := "ytafggknckgmkaaa", sum := "d67c8fcc113b59bc645ad6049d9a4989621e3f9db08c0679a8f97ced00188bd2", func := "blockworks/blockworkslaw07.GradeNames", spec := "gradeNames", unfollowed := true, recurses := true, plainKeys := false, apart := false }
def GradeNamesSaid : Prop := gradeNamesRow.holds Try.pinned (OpenSpec.ofChange gradeNamesSpec)

/-- ITS FALSE NEIGHBOUR: 'it returns false'. Refute it at one input. -/
def gradeNamesWrong : ChangeSpec := { name := "gradeNames", fn := fun _ => fun
  | [] => { results := [.lit (.bool false)], args := [] }
  | _ => none }
def GradeNamesWrongFalsely : Prop := gradeNamesRow.holds Try.pinned (OpenSpec.ofChange gradeNamesWrong)

/-- 'blockworkslaw07.GradeTrue': WHATEVER THE INPUT: true; the input reads as it did. -/
def gradeTrueSpec : ChangeSpec := { name := "gradeTrue", fn := fun _ => fun
  | [d] => { results := [.lit (.bool true)], args := [d] }
  | _ => none }
def gradeTrueRow : OpenClaim := { program := "ytafggknckgmkaaa", sum := "d67c8fcc113b59bc645ad6049d9a4989621e3f9db08c0679a8f97ced00188bd2", func := "blockworks/blockworkslaw07.GradeTrue", spec := "gradeTrue", unfollowed := true, recurses := true, plainKeys := false, apart := false }
def GradeTrueSaid : Prop := gradeTrueRow.holds Try.pinned (OpenSpec.ofChange gradeTrueSpec)

/-- ITS FALSE NEIGHBOUR: 'it returns false'. Refute it at one input. -/
def gradeTrueWrong : ChangeSpec := { name := "gradeTrue", fn := fun _ => fun
  | [d] => { results := [.lit (.bool false)], args := [d] }
  | _ => none }
def GradeTrueWrongFalsely : Prop := gradeTrueRow.holds Try.pinned (OpenSpec.ofChange gradeTrueWrong)

/-- 'blockworkslaw07.GradeEnds': WHATEVER THE INPUT: true; the input reads as it did. -/
def gradeEndsSpec : ChangeSpec := { name := "gradeEnds", fn := fun _ => fun
  | [d1, d2] => { results := [.lit (.bool true)], args := [d1, d2] }
  | _ => none }
def gradeEndsRow : OpenClaim := { program := "ytafggknckgmkaaa", sum := "d67c8fcc113b59bc645ad6049d9a4989621e3f9db08c0679a8f97ced00188bd2", func := "blockworks/blockworkslaw07.GradeEnds", spec := "gradeEnds", unfollowed := true, recurses := true, plainKeys := false, apart := false }
def GradeEndsSaid : Prop := gradeEndsRow.holds Try.pinned (OpenSpec.ofChange gradeEndsSpec)

/-- ITS FALSE NEIGHBOUR: 'it returns false'. Refute it at one input. -/
def gradeEndsWrong : ChangeSpec := { name := "gradeEnds", fn := fun _ => fun
  | [d1, d2] => { results := [.lit (.bool false)], args := [d1, d2] }
  | _ => none }
def GradeEndsWrongFalsely : Prop := gradeEndsRow.holds Try.pinned (OpenSpec.ofChange gradeEndsWrong)

/-- 'blockworkslaw07.GradeSure': WHATEVER THE INPUT: true; the input reads as it did. -/
def gradeSureSpec : ChangeSpec := { name := "gradeSure", fn := fun _ => fun
  | [d1, d2] => { results := [.lit (.bool true)], args := [d1, d2] }
  | _ => none }
def gradeSureRow : OpenClaim := { program := "ytafggknckgmkaaa", sum := "d67c8fcc113b59bc645ad6049d9a4989621e3f9db08c0679a8f97ced00188bd2", func := "blockworks/blockworkslaw07.GradeSure", spec := "gradeSure", unfollowed := true, recurses := true, plainKeys := false, apart := false }
def GradeSureSaid : Prop := gradeSureRow.holds Try.pinned (OpenSpec.ofChange gradeSureSpec)

/-- ITS FALSE NEIGHBOUR: 'it returns false'. Refute it at one input. -/
def gradeSureWrong : ChangeSpec := { name := "gradeSure", fn := fun _ => fun
  | [d1, d2] => { results := [.lit (.bool false)], args := [d1, d2] }
  | _ => none }
def GradeSureWrongFalsely : Prop := gradeSureRow.holds Try.pinned (OpenSpec.ofChange gradeSureWrong)

/-- 'blockworkslaw07.GradeLap': WHATEVER THE INPUT: true; the input reads as it did. -/
def gradeLapSpec : ChangeSpec := { name := "gradeLap", fn := fun _ => fun
  | [d1, d2, d3, d4] => { results := [.lit (.bool true)], args := [d1, d2, d3, d4] }
  | _ => none }
def gradeLapRow : OpenClaim := { program := "ytafggknckgmkaaa", sum := "d67c8fcc113b59bc645ad6049d9a4989621e3f9db08c0679a8f97ced00188bd2", func := "blockworks/blockworkslaw07.GradeLap", spec := "gradeLap", unfollowed := true, recurses := true, plainKeys := false, apart := false }
def GradeLapSaid : Prop := gradeLapRow.holds Try.pinned (OpenSpec.ofChange gradeLapSpec)

/-- ITS FALSE NEIGHBOUR: 'it returns false'. Refute it at one input. -/
def gradeLapWrong : ChangeSpec := { name := "gradeLap", fn := fun _ => fun
  | [d1, d2, d3, d4] => { results := [.lit (.bool false)], args := [d1, d2, d3, d4] }
  | _ => none }
def GradeLapWrongFalsely : Prop := gradeLapRow.holds Try.pinned (OpenSpec.ofChange gradeLapWrong)

/-- 'blockworkslaw07.GradeAsk': WHATEVER THE INPUT: true; the input reads as it did. -/
def gradeAskSpec : ChangeSpec := { name := "gradeAsk", fn := fun _ => fun
  | [d1, d2] => { results := [.lit (.bool true)], args := [d1, d2] }
  | _ => none }
def gradeAskRow : OpenClaim := { program := "ytafggknckgmkaaa", sum := "d67c8fcc113b59bc645ad6049d9a4989621e3f9db08c0679a8f97ced00188bd2", func := "blockworks/blockworkslaw07.GradeAsk", spec := "gradeAsk", unfollowed := true, recurses := true, plainKeys := false, apart := false }
def GradeAskSaid : Prop := gradeAskRow.holds Try.pinned (OpenSpec.ofChange gradeAskSpec)

/-- ITS FALSE NEIGHBOUR: 'it returns false'. Refute it at one input. -/
def gradeAskWrong : ChangeSpec := { name := "gradeAsk", fn := fun _ => fun
  | [d1, d2] => { results := [.lit (.bool false)], args := [d1, d2] }
  | _ => none }
def GradeAskWrongFalsely : Prop := gradeAskRow.holds Try.pinned (OpenSpec.ofChange gradeAskWrong)

/-- 'blockworkslaw07.GradeClash': WHATEVER THE INPUT: true; the input reads as it did. -/
def gradeClashSpec : ChangeSpec := { name := "gradeClash", fn := fun _ => fun
  | [d] => { results := [.lit (.bool true)], args := [d] }
  | _ => none }
def gradeClashRow : OpenClaim := { program := "ytafggknckgmkaaa", sum := "d67c8fcc113b59bc645ad6049d9a4989621e3f9db08c0679a8f97ced00188bd2", func := "blockworks/blockworkslaw07.GradeClash", spec := "gradeClash", unfollowed := true, recurses := true, plainKeys := false, apart := false }
def GradeClashSaid : Prop := gradeClashRow.holds Try.pinned (OpenSpec.ofChange gradeClashSpec)

/-- ITS FALSE NEIGHBOUR: 'it returns false'. Refute it at one input. -/
def gradeClashWrong : ChangeSpec := { name := "gradeClash", fn := fun _ => fun
  | [d] => { results := [.lit (.bool false)], args := [d] }
  | _ => none }
def GradeClashWrongFalsely : Prop := gradeClashRow.holds Try.pinned (OpenSpec.ofChange gradeClashWrong)

/-- 'blockworkslaw07.GradeMore': WHATEVER THE INPUT: true; the input reads as it did. -/
def gradeMoreSpec : ChangeSpec := { name := "gradeMore", fn := fun _ => fun
  | [d1, d2, d3] => { results := [.lit (.bool true)], args := [d1, d2, d3] }
  | _ => none }
def gradeMoreRow : OpenClaim := { program := "ytafggknckgmkaaa", sum := "d67c8fcc113b59bc645ad6049d9a4989621e3f9db08c0679a8f97ced00188bd2", func := "blockworks/blockworkslaw07.GradeMore", spec := "gradeMore", unfollowed := true, recurses := true, plainKeys := false, apart := false }
def GradeMoreSaid : Prop := gradeMoreRow.holds Try.pinned (OpenSpec.ofChange gradeMoreSpec)

/-- ITS FALSE NEIGHBOUR: 'it returns false'. Refute it at one input. -/
def gradeMoreWrong : ChangeSpec := { name := "gradeMore", fn := fun _ => fun
  | [d1, d2, d3] => { results := [.lit (.bool false)], args := [d1, d2, d3] }
  | _ => none }
def GradeMoreWrongFalsely : Prop := gradeMoreRow.holds Try.pinned (OpenSpec.ofChange gradeMoreWrong)

/- THE SECOND FORM. 'bulk': how many values and letters a reading holds, each counted each time it is reached (what is shared counts as often as it is met; a slice's spare places count too). A statement '..UptoSaid' is the law's where the arguments, and the package variables that the reading takes, are together of bulk at most 1048576: NARROWER than '..Said'. Prove '..Said' where nothing that the law and all that it calls make is longer than what came in: it says more and counts as full. Else prove '..UptoSaid'. A law counts once. -/
mutual
def uptoBulk {H : Type} : DataW H → Nat
  | .lit (.string bytes) => bytes.length + 1
  | .lit _ => 1
  | .nil => 1
  | .ptr d => uptoBulk d + 1
  | .slice elems spare => uptoBulkAll elems + uptoBulkAll spare + 1
  | .agg parts => uptoBulkAll parts + 1
  | .iface _ d => uptoBulk d + 1
  | .map entries => uptoBulkEntries entries + 1
  | .held _ => 1
def uptoBulkAll {H : Type} : List (DataW H) → Nat
  | [] => 0
  | d :: r => uptoBulk d + uptoBulkAll r
def uptoBulkEntries {H : Type} : List (Lit × DataW H) → Nat
  | [] => 0
  | x :: r => uptoBulkEntry x + uptoBulkEntries r
def uptoBulkEntry {H : Type} : Lit × DataW H → Nat
  | (.string bytes, d) => bytes.length + uptoBulk d + 1
  | (_, d) => uptoBulk d + 1
 end
def uptoSmall : (H : Type) → List (DataW H) → Bool := fun _ ds => decide (uptoBulkAll ds ≤ 1048576)
def OpenSpec.upto (s : _root_.Go.ChangeSpec) : _root_.Go.OpenSpec := { _root_.Go.OpenSpec.ofChange s with cond := some uptoSmall }

/-- 'blockworkslaw07.GradeTells', WHERE WHAT IT READS IS OF BULK AT MOST 1048576: true; the input reads as it did. -/
def gradeTellsUptoRow : OpenClaim := { program := "ytafggknckgmkaaa", sum := "d67c8fcc113b59bc645ad6049d9a4989621e3f9db08c0679a8f97ced00188bd2", func := "blockworks/blockworkslaw07.GradeTells", spec := "gradeTells", unfollowed := true, recurses := true, plainKeys := false, apart := false, narrowed := true }
def GradeTellsUptoSaid : Prop := gradeTellsUptoRow.holds Try.pinned (OpenSpec.upto gradeTellsSpec)

/-- 'blockworkslaw07.GradeFinds', WHERE WHAT IT READS IS OF BULK AT MOST 1048576: true; the input reads as it did. -/
def gradeFindsUptoRow : OpenClaim := { program := "ytafggknckgmkaaa", sum := "d67c8fcc113b59bc645ad6049d9a4989621e3f9db08c0679a8f97ced00188bd2", func := "blockworks/blockworkslaw07.GradeFinds", spec := "gradeFinds", unfollowed := true, recurses := true, plainKeys := false, apart := false, narrowed := true }
def GradeFindsUptoSaid : Prop := gradeFindsUptoRow.holds Try.pinned (OpenSpec.upto gradeFindsSpec)

/-- 'blockworkslaw07.GradeNames', WHERE WHAT IT READS IS OF BULK AT MOST 1048576: true; the input reads as it did. -/
def gradeNamesUptoRow : OpenClaim := { program := "ytafggknckgmkaaa", sum := "d67c8fcc113b59bc645ad6049d9a4989621e3f9db08c0679a8f97ced00188bd2", func := "blockworks/blockworkslaw07.GradeNames", spec := "gradeNames", unfollowed := true, recurses := true, plainKeys := false, apart := false, narrowed := true }
def GradeNamesUptoSaid : Prop := gradeNamesUptoRow.holds Try.pinned (OpenSpec.upto gradeNamesSpec)

/-- 'blockworkslaw07.GradeTrue', WHERE WHAT IT READS IS OF BULK AT MOST 1048576: true; the input reads as it did. -/
def gradeTrueUptoRow : OpenClaim := { program := "ytafggknckgmkaaa", sum := "d67c8fcc113b59bc645ad6049d9a4989621e3f9db08c0679a8f97ced00188bd2", func := "blockworks/blockworkslaw07.GradeTrue", spec := "gradeTrue", unfollowed := true, recurses := true, plainKeys := false, apart := false, narrowed := true }
def GradeTrueUptoSaid : Prop := gradeTrueUptoRow.holds Try.pinned (OpenSpec.upto gradeTrueSpec)

/-- 'blockworkslaw07.GradeEnds', WHERE WHAT IT READS IS OF BULK AT MOST 1048576: true; the input reads as it did. -/
def gradeEndsUptoRow : OpenClaim := { program := "ytafggknckgmkaaa", sum := "d67c8fcc113b59bc645ad6049d9a4989621e3f9db08c0679a8f97ced00188bd2", func := "blockworks/blockworkslaw07.GradeEnds", spec := "gradeEnds", unfollowed := true, recurses := true, plainKeys := false, apart := false, narrowed := true }
def GradeEndsUptoSaid : Prop := gradeEndsUptoRow.holds Try.pinned (OpenSpec.upto gradeEndsSpec)

/-- 'blockworkslaw07.GradeSure', WHERE WHAT IT READS IS OF BULK AT MOST 1048576: true; the input reads as it did. -/
def gradeSureUptoRow : OpenClaim := { program := "ytafggknckgmkaaa", sum := "d67c8fcc113b59bc645ad6049d9a4989621e3f9db08c0679a8f97ced00188bd2", func := "blockworks/blockworkslaw07.GradeSure", spec := "gradeSure", unfollowed := true, recurses := true, plainKeys := false, apart := false, narrowed := true }
def GradeSureUptoSaid : Prop := gradeSureUptoRow.holds Try.pinned (OpenSpec.upto gradeSureSpec)

/-- 'blockworkslaw07.GradeLap', WHERE WHAT IT READS IS OF BULK AT MOST 1048576: true; the input reads as it did. -/
def gradeLapUptoRow : OpenClaim := { program := "ytafggknckgmkaaa", sum := "d67c8fcc113b59bc645ad6049d9a4989621e3f9db08c0679a8f97ced00188bd2", func := "blockworks/blockworkslaw07.GradeLap", spec := "gradeLap", unfollowed := true, recurses := true, plainKeys := false, apart := false, narrowed := true }
def GradeLapUptoSaid : Prop := gradeLapUptoRow.holds Try.pinned (OpenSpec.upto gradeLapSpec)

/-- 'blockworkslaw07.GradeAsk', WHERE WHAT IT READS IS OF BULK AT MOST 1048576: true; the input reads as it did. -/
def gradeAskUptoRow : OpenClaim := { program := "ytafggknckgmkaaa", sum := "d67c8fcc113b59bc645ad6049d9a4989621e3f9db08c0679a8f97ced00188bd2", func := "blockworks/blockworkslaw07.GradeAsk", spec := "gradeAsk", unfollowed := true, recurses := true, plainKeys := false, apart := false, narrowed := true }
def GradeAskUptoSaid : Prop := gradeAskUptoRow.holds Try.pinned (OpenSpec.upto gradeAskSpec)

/-- 'blockworkslaw07.GradeClash', WHERE WHAT IT READS IS OF BULK AT MOST 1048576: true; the input reads as it did. -/
def gradeClashUptoRow : OpenClaim := { program := "ytafggknckgmkaaa", sum := "d67c8fcc113b59bc645ad6049d9a4989621e3f9db08c0679a8f97ced00188bd2", func := "blockworks/blockworkslaw07.GradeClash", spec := "gradeClash", unfollowed := true, recurses := true, plainKeys := false, apart := false, narrowed := true }
def GradeClashUptoSaid : Prop := gradeClashUptoRow.holds Try.pinned (OpenSpec.upto gradeClashSpec)

/-- 'blockworkslaw07.GradeMore', WHERE WHAT IT READS IS OF BULK AT MOST 1048576: true; the input reads as it did. -/
def gradeMoreUptoRow : OpenClaim := { program := "ytafggknckgmkaaa", sum := "d67c8fcc113b59bc645ad6049d9a4989621e3f9db08c0679a8f97ced00188bd2", func := "blockworks/blockworkslaw07.GradeMore", spec := "gradeMore", unfollowed := true, recurses := true, plainKeys := false, apart := false, narrowed := true }
def GradeMoreUptoSaid : Prop := gradeMoreUptoRow.holds Try.pinned (OpenSpec.upto gradeMoreSpec)

end Rows
end Go.Proofs.Ytafggknckgmkaaa
