/-
  No cell of these rows narrows 'for every input' (looked for: loops, veiled, ifaces, maps, wideKeys, modest, calm, conditions, laid).
  DERIVED. THE GIVEN ROWS OF THIS SEAT. 9 by the template 'for every input the law returns true; each argument reads behind the call as it read before'; 0 by the template 'total and deterministic' (their statements: YtjldkpggcjolcaaTotals.lean).
  GIVEN WITH THE SEED: the statements are not yours to turn. If you find one false, say at which input.
  Laid BY PROGRAM, IN A SANDBOX (cutbox-rows.mjs): the forced cells as the released guide's own fill.sh prints them over the translation 9500aa2fa96e37c7… (all of the seat's roots in one cut). By AI agents, Wed Nov 11 2026. No macro, syntax, notation, axiom, sorry.
-/
import Derived.Test.YtjldkpggcjolcaaChecked
import GoSem.Claim
import GoSem.ClaimJoined
import GoSem.ClaimMapViews
import Derived.JoinedTies
import Derived.KernelRfl
namespace Go.Proofs.Ytjldkpggcjolcaa
/- THE CELL 'sum', in the pinned program and in every row, IS THE sha256 OF THE DUMP (.gsa) THAT YtjldkpggcjolcaaProg.lean LOADS. Nothing in Lean hashes anything: it is a label: what it is worth is what the hold of that sum in a sandbox is worth. -/
noncomputable def Try.pinned : Pinned := { name := "ytjldkpggcjolcaa", sum := "9500aa2fa96e37c7d689a0e67bb16a744015a60b4efb4d38c2082f2e576aa7a6", checked := Try.checked }
namespace Rows
def none {H : Type} : Left H := { results := [], args := [] }

/-- 'laws.FnExactLeads': WHATEVER THE INPUT: true; the input reads as it did. -/
def fnExactLeadsSpec : ChangeSpec := { name := "fnExactLeads", fn := fun _ => fun
  | [d1, d2] => { results := [.lit (.bool true)], args := [d1, d2] }
  | _ => none }
def fnExactLeadsRow : OpenClaim := { program := "ytjldkpggcjolcaa", sum := "9500aa2fa96e37c7d689a0e67bb16a744015a60b4efb4d38c2082f2e576aa7a6", func := "loop.example/g00501/laws.FnExactLeads", spec := "fnExactLeads", apart := false }
def FnExactLeadsSaid : Prop := fnExactLeadsRow.holds Try.pinned (OpenSpec.ofChange fnExactLeadsSpec)

/-- ITS FALSE NEIGHBOUR: 'it returns false'. Refute it at one input. -/
def fnExactLeadsWrong : ChangeSpec := { name := "fnExactLeads", fn := fun _ => fun
  | [d1, d2] => { results := [.lit (.bool false)], args := [d1, d2] }
  | _ => none }
def FnExactLeadsWrongFalsely : Prop := fnExactLeadsRow.holds Try.pinned (OpenSpec.ofChange fnExactLeadsWrong)

/-- 'laws.FnExactOutcomesOf': WHATEVER THE INPUT: true; the input reads as it did. -/
def fnExactOutcomesOfSpec : ChangeSpec := { name := "fnExactOutcomesOf", fn := fun _ => fun
  | [d1, d2] => { results := [.lit (.bool true)], args := [d1, d2] }
  | _ => none }
def fnExactOutcomesOfRow : OpenClaim := { program := "ytjldkpggcjolcaa", sum := "9500aa2fa96e37c7d689a0e67bb16a744015a60b4efb4d38c2082f2e576aa7a6", func := "loop.example/g00501/laws.FnExactOutcomesOf", spec := "fnExactOutcomesOf", apart := false }
def FnExactOutcomesOfSaid : Prop := fnExactOutcomesOfRow.holds Try.pinned (OpenSpec.ofChange fnExactOutcomesOfSpec)

/-- ITS FALSE NEIGHBOUR: 'it returns false'. Refute it at one input. -/
def fnExactOutcomesOfWrong : ChangeSpec := { name := "fnExactOutcomesOf", fn := fun _ => fun
  | [d1, d2] => { results := [.lit (.bool false)], args := [d1, d2] }
  | _ => none }
def FnExactOutcomesOfWrongFalsely : Prop := fnExactOutcomesOfRow.holds Try.pinned (OpenSpec.ofChange fnExactOutcomesOfWrong)

/-- 'laws.FnExactLinesOf': WHATEVER THE INPUT: true; the input reads as it did. -/
def fnExactLinesOfSpec : ChangeSpec := { name := "fnExactLinesOf", fn := fun _ => fun
  | [d] => { results := [.lit (.bool true)], args := [d] }
  | _ => none }
def fnExactLinesOfRow : OpenClaim := { program := "ytjldkpggcjolcaa", sum := "9500aa2fa96e37c7d689a0e67bb16a744015a60b4efb4d38c2082f2e576aa7a6", func := "loop.example/g00501/laws.FnExactLinesOf", spec := "fnExactLinesOf", apart := false }
def FnExactLinesOfSaid : Prop := fnExactLinesOfRow.holds Try.pinned (OpenSpec.ofChange fnExactLinesOfSpec)

/-- ITS FALSE NEIGHBOUR: 'it returns false'. Refute it at one input. -/
def fnExactLinesOfWrong : ChangeSpec := { name := "fnExactLinesOf", fn := fun _ => fun
  | [d] => { results := [.lit (.bool false)], args := [d] }
  | _ => none }
def FnExactLinesOfWrongFalsely : Prop := fnExactLinesOfRow.holds Try.pinned (OpenSpec.ofChange fnExactLinesOfWrong)

/-- 'laws.FnExactTagged': WHATEVER THE INPUT: true; the input reads as it did. -/
def fnExactTaggedSpec : ChangeSpec := { name := "fnExactTagged", fn := fun _ => fun
  | [d] => { results := [.lit (.bool true)], args := [d] }
  | _ => none }
def fnExactTaggedRow : OpenClaim := { program := "ytjldkpggcjolcaa", sum := "9500aa2fa96e37c7d689a0e67bb16a744015a60b4efb4d38c2082f2e576aa7a6", func := "loop.example/g00501/laws.FnExactTagged", spec := "fnExactTagged", apart := false }
def FnExactTaggedSaid : Prop := fnExactTaggedRow.holds Try.pinned (OpenSpec.ofChange fnExactTaggedSpec)

/-- ITS FALSE NEIGHBOUR: 'it returns false'. Refute it at one input. -/
def fnExactTaggedWrong : ChangeSpec := { name := "fnExactTagged", fn := fun _ => fun
  | [d] => { results := [.lit (.bool false)], args := [d] }
  | _ => none }
def FnExactTaggedWrongFalsely : Prop := fnExactTaggedRow.holds Try.pinned (OpenSpec.ofChange fnExactTaggedWrong)

/-- 'laws.FnLeads': WHATEVER THE INPUT: true; the input reads as it did. -/
def fnLeadsSpec : ChangeSpec := { name := "fnLeads", fn := fun _ => fun
  | [d] => { results := [.lit (.bool true)], args := [d] }
  | _ => none }
def fnLeadsRow : OpenClaim := { program := "ytjldkpggcjolcaa", sum := "9500aa2fa96e37c7d689a0e67bb16a744015a60b4efb4d38c2082f2e576aa7a6", func := "loop.example/g00501/laws.FnLeads", spec := "fnLeads", apart := false }
def FnLeadsSaid : Prop := fnLeadsRow.holds Try.pinned (OpenSpec.ofChange fnLeadsSpec)

/-- ITS FALSE NEIGHBOUR: 'it returns false'. Refute it at one input. -/
def fnLeadsWrong : ChangeSpec := { name := "fnLeads", fn := fun _ => fun
  | [d] => { results := [.lit (.bool false)], args := [d] }
  | _ => none }
def FnLeadsWrongFalsely : Prop := fnLeadsRow.holds Try.pinned (OpenSpec.ofChange fnLeadsWrong)

/-- 'laws.FnExactExpected': WHATEVER THE INPUT: true; the input reads as it did. -/
def fnExactExpectedSpec : ChangeSpec := { name := "fnExactExpected", fn := fun _ => fun
  | [d1, d2] => { results := [.lit (.bool true)], args := [d1, d2] }
  | _ => none }
def fnExactExpectedRow : OpenClaim := { program := "ytjldkpggcjolcaa", sum := "9500aa2fa96e37c7d689a0e67bb16a744015a60b4efb4d38c2082f2e576aa7a6", func := "loop.example/g00501/laws.FnExactExpected", spec := "fnExactExpected", inPlace := ["internal/bytealg.IndexByteString", "internal/bytealg.IndexString"], named := ["internal/bytealg.MaxLen"], apart := false }
def FnExactExpectedSaid : Prop := fnExactExpectedRow.holds Try.pinned (OpenSpec.ofChange fnExactExpectedSpec)

/-- ITS FALSE NEIGHBOUR: 'it returns false'. Refute it at one input. -/
def fnExactExpectedWrong : ChangeSpec := { name := "fnExactExpected", fn := fun _ => fun
  | [d1, d2] => { results := [.lit (.bool false)], args := [d1, d2] }
  | _ => none }
def FnExactExpectedWrongFalsely : Prop := fnExactExpectedRow.holds Try.pinned (OpenSpec.ofChange fnExactExpectedWrong)

/-- 'laws.FnExactExpectedAll': WHATEVER THE INPUT: true; the input reads as it did. -/
def fnExactExpectedAllSpec : ChangeSpec := { name := "fnExactExpectedAll", fn := fun _ => fun
  | [d] => { results := [.lit (.bool true)], args := [d] }
  | _ => none }
def fnExactExpectedAllRow : OpenClaim := { program := "ytjldkpggcjolcaa", sum := "9500aa2fa96e37c7d689a0e67bb16a744015a60b4efb4d38c2082f2e576aa7a6", func := "loop.example/g00501/laws.FnExactExpectedAll", spec := "fnExactExpectedAll", inPlace := ["internal/bytealg.IndexByteString", "internal/bytealg.IndexString"], named := ["internal/bytealg.MaxLen"], apart := false }
def FnExactExpectedAllSaid : Prop := fnExactExpectedAllRow.holds Try.pinned (OpenSpec.ofChange fnExactExpectedAllSpec)

/-- ITS FALSE NEIGHBOUR: 'it returns false'. Refute it at one input. -/
def fnExactExpectedAllWrong : ChangeSpec := { name := "fnExactExpectedAll", fn := fun _ => fun
  | [d] => { results := [.lit (.bool false)], args := [d] }
  | _ => none }
def FnExactExpectedAllWrongFalsely : Prop := fnExactExpectedAllRow.holds Try.pinned (OpenSpec.ofChange fnExactExpectedAllWrong)

/-- 'laws.FnTelling': WHATEVER THE INPUT: true; the input reads as it did. -/
def fnTellingSpec : ChangeSpec := { name := "fnTelling", fn := fun _ => fun
  | [d] => { results := [.lit (.bool true)], args := [d] }
  | _ => none }
def fnTellingRow : OpenClaim := { program := "ytjldkpggcjolcaa", sum := "9500aa2fa96e37c7d689a0e67bb16a744015a60b4efb4d38c2082f2e576aa7a6", func := "loop.example/g00501/laws.FnTelling", spec := "fnTelling", inPlace := ["internal/bytealg.IndexByteString", "internal/bytealg.IndexString"], unfollowed := true, recurses := true, named := ["internal/bytealg.MaxLen"], apart := false }
def FnTellingSaid : Prop := fnTellingRow.holds Try.pinned (OpenSpec.ofChange fnTellingSpec)

/-- ITS FALSE NEIGHBOUR: 'it returns false'. Refute it at one input. -/
def fnTellingWrong : ChangeSpec := { name := "fnTelling", fn := fun _ => fun
  | [d] => { results := [.lit (.bool false)], args := [d] }
  | _ => none }
def FnTellingWrongFalsely : Prop := fnTellingRow.holds Try.pinned (OpenSpec.ofChange fnTellingWrong)

/-- 'laws.FnExpected': WHATEVER THE INPUT: true; the input reads as it did. -/
def fnExpectedSpec : ChangeSpec := { name := "fnExpected", fn := fun _ => fun
  | [d] => { results := [.lit (.bool true)], args := [d] }
  | _ => none }
def fnExpectedRow : OpenClaim := { program := "ytjldkpggcjolcaa", sum := "9500aa2fa96e37c7d689a0e67bb16a744015a60b4efb4d38c2082f2e576aa7a6", func := "loop.example/g00501/laws.FnExpected", spec := "fnExpected", inPlace := ["internal/bytealg.IndexByteString", "internal/bytealg.IndexString"], named := ["internal/bytealg.MaxLen"], apart := false }
def FnExpectedSaid : Prop := fnExpectedRow.holds Try.pinned (OpenSpec.ofChange fnExpectedSpec)

/-- ITS FALSE NEIGHBOUR: 'it returns false'. Refute it at one input. -/
def fnExpectedWrong : ChangeSpec := { name := "fnExpected", fn := fun _ => fun
  | [d] => { results := [.lit (.bool false)], args := [d] }
  | _ => none }
def FnExpectedWrongFalsely : Prop := fnExpectedRow.holds Try.pinned (OpenSpec.ofChange fnExpectedWrong)

/- THE SECOND FORM. 'bulk': how many values and letters a reading holds, each counted each time it is reached (what is shared counts as often as it is met; a slice's spare places count too). A statement '..UptoSaid' is the law's where the arguments, and the package variables that the reading takes, are together of bulk at most 1048576: NARROWER than '..Said'. Prove '..Said' where nothing that the law and all that it calls make is longer than what came in: it says more and counts as full. Else prove '..UptoSaid'. A law counts once. -/
mutual
def uptoBulk {H : Type} : DataW H → Nat
  | .lit (.string bytes) => bytes.length + 1
  | .lit _ => 1
  | .nil => 1
  | .ptr d => uptoBulk d + 1
  | .slice elems spare => uptoBulkAll elems + uptoBulkAll spare + 1
  | .agg parts => uptoBulkAll parts + 1
  | .iface _ d => uptoBulk d + 1
  | .map entries => uptoBulkEntries entries + 1
  | .held _ => 1
def uptoBulkAll {H : Type} : List (DataW H) → Nat
  | [] => 0
  | d :: r => uptoBulk d + uptoBulkAll r
def uptoBulkEntries {H : Type} : List (Lit × DataW H) → Nat
  | [] => 0
  | x :: r => uptoBulkEntry x + uptoBulkEntries r
def uptoBulkEntry {H : Type} : Lit × DataW H → Nat
  | (.string bytes, d) => bytes.length + uptoBulk d + 1
  | (_, d) => uptoBulk d + 1
 end
def uptoSmall : (H : Type) → List (DataW H) → Bool := fun _ ds => decide (uptoBulkAll ds ≤ 1048576)
def OpenSpec.upto (s : _root_.Go.ChangeSpec) : _root_.Go.OpenSpec := { _root_.Go.OpenSpec.ofChange s with cond := some uptoSmall }

/-- 'laws.FnExactLeads', WHERE WHAT IT READS IS OF BULK AT MOST 1048576: true; the input reads as it did. -/
def fnExactLeadsUptoRow : OpenClaim := { program := "ytjldkpggcjolcaa", sum := "9500aa2fa96e37c7d689a0e67bb16a744015a60b4efb4d38c2082f2e576aa7a6", func := "loop.example/g00501/laws.FnExactLeads", spec := "fnExactLeads", apart := false, narrowed := true }
def FnExactLeadsUptoSaid : Prop := fnExactLeadsUptoRow.holds Try.pinned (OpenSpec.upto fnExactLeadsSpec)

/-- 'laws.FnExactOutcomesOf', WHERE WHAT IT READS IS OF BULK AT MOST 1048576: true; the input reads as it did. -/
def fnExactOutcomesOfUptoRow : OpenClaim := { program := "ytjldkpggcjolcaa", sum := "9500aa2fa96e37c7d689a0e67bb16a744015a60b4efb4d38c2082f2e576aa7a6", func := "loop.example/g00501/laws.FnExactOutcomesOf", spec := "fnExactOutcomesOf", apart := false, narrowed := true }
def FnExactOutcomesOfUptoSaid : Prop := fnExactOutcomesOfUptoRow.holds Try.pinned (OpenSpec.upto fnExactOutcomesOfSpec)

/-- 'laws.FnExactLinesOf', WHERE WHAT IT READS IS OF BULK AT MOST 1048576: true; the input reads as it did. -/
def fnExactLinesOfUptoRow : OpenClaim := { program := "ytjldkpggcjolcaa", sum := "9500aa2fa96e37c7d689a0e67bb16a744015a60b4efb4d38c2082f2e576aa7a6", func := "loop.example/g00501/laws.FnExactLinesOf", spec := "fnExactLinesOf", apart := false, narrowed := true }
def FnExactLinesOfUptoSaid : Prop := fnExactLinesOfUptoRow.holds Try.pinned (OpenSpec.upto fnExactLinesOfSpec)

/-- 'laws.FnExactTagged', WHERE WHAT IT READS IS OF BULK AT MOST 1048576: true; the input reads as it did. -/
def fnExactTaggedUptoRow : OpenClaim := { program := "ytjldkpggcjolcaa", sum := "9500aa2fa96e37c7d689a0e67bb16a744015a60b4efb4d38c2082f2e576aa7a6", func := "loop.example/g00501/laws.FnExactTagged", spec := "fnExactTagged", apart := false, narrowed := true }
def FnExactTaggedUptoSaid : Prop := fnExactTaggedUptoRow.holds Try.pinned (OpenSpec.upto fnExactTaggedSpec)

/-- 'laws.FnLeads', WHERE WHAT IT READS IS OF BULK AT MOST 1048576: true; the input reads as it did. -/
def fnLeadsUptoRow : OpenClaim := { program := "ytjldkpggcjolcaa", sum := "9500aa2fa96e37c7d689a0e67bb16a744015a60b4efb4d38c2082f2e576aa7a6", func := "loop.example/g00501/laws.FnLeads", spec := "fnLeads", apart := false, narrowed := true }
def FnLeadsUptoSaid : Prop := fnLeadsUptoRow.holds Try.pinned (OpenSpec.upto fnLeadsSpec)

/-- 'laws.FnExactExpected', WHERE WHAT IT READS IS OF BULK AT MOST 1048576: true; the input reads as it did. -/
def fnExactExpectedUptoRow : OpenClaim := { program := "ytjldkpggcjolcaa", sum := "9500aa2fa96e37c7d689a0e67bb16a744015a60b4efb4d38c2082f2e576aa7a6", func := "loop.example/g00501/laws.FnExactExpected", spec := "fnExactExpected", inPlace := ["internal/bytealg.IndexByteString", "internal/bytealg.IndexString"], named := ["internal/bytealg.MaxLen"], apart := false, narrowed := true }
def FnExactExpectedUptoSaid : Prop := fnExactExpectedUptoRow.holds Try.pinned (OpenSpec.upto fnExactExpectedSpec)

/-- 'laws.FnExactExpectedAll', WHERE WHAT IT READS IS OF BULK AT MOST 1048576: true; the input reads as it did. -/
def fnExactExpectedAllUptoRow : OpenClaim := { program := "ytjldkpggcjolcaa", sum := "9500aa2fa96e37c7d689a0e67bb16a744015a60b4efb4d38c2082f2e576aa7a6", func := "loop.example/g00501/laws.FnExactExpectedAll", spec := "fnExactExpectedAll", inPlace := ["internal/bytealg.IndexByteString", "internal/bytealg.IndexString"], named := ["internal/bytealg.MaxLen"], apart := false, narrowed := true }
def FnExactExpectedAllUptoSaid : Prop := fnExactExpectedAllUptoRow.holds Try.pinned (OpenSpec.upto fnExactExpectedAllSpec)

/-- 'laws.FnTelling', WHERE WHAT IT READS IS OF BULK AT MOST 1048576: true; the input reads as it did. -/
def fnTellingUptoRow : OpenClaim := { program := "ytjldkpggcjolcaa", sum := "9500aa2fa96e37c7d689a0e67bb16a744015a60b4efb4d38c2082f2e576aa7a6", func := "loop.example/g00501/laws.FnTelling", spec := "fnTelling", inPlace := ["internal/bytealg.IndexByteString", "internal/bytealg.IndexString"], unfollowed := true, recurses := true, named := ["internal/bytealg.MaxLen"], apart := false, narrowed := true }
def FnTellingUptoSaid : Prop := fnTellingUptoRow.holds Try.pinned (OpenSpec.upto fnTellingSpec)

/-- 'laws.FnExpected', WHERE WHAT IT READS IS OF BULK AT MOST 1048576: true; the input reads as it did. -/
def fnExpectedUptoRow : OpenClaim := { program := "ytjldkpggcjolcaa", sum := "9500aa2fa96e37c7d689a0e67bb16a744015a60b4efb4d38c2082f2e576aa7a6", func := "loop.example/g00501/laws.FnExpected", spec := "fnExpected", inPlace := ["internal/bytealg.IndexByteString", "internal/bytealg.IndexString"], named := ["internal/bytealg.MaxLen"], apart := false, narrowed := true }
def FnExpectedUptoSaid : Prop := fnExpectedUptoRow.holds Try.pinned (OpenSpec.upto fnExpectedSpec)

end Rows
end Go.Proofs.Ytjldkpggcjolcaa
