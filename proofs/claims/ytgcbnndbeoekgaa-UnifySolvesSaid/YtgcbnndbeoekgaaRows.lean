/-
  No cell of these rows narrows 'for every input' (looked for: loops, veiled, ifaces, maps, wideKeys, modest, calm, conditions, laid).
  DERIVED. THE GIVEN ROWS OF THIS SEAT. 4 by the template 'for every input the law returns true; each argument reads behind the call as it read before'; 0 by the template 'total and deterministic' (their statements: YtgcbnndbeoekgaaTotals.lean).
  GIVEN WITH THE SEED: the statements are not yours to turn. If you find one false, say at which input.
  Laid BY PROGRAM, IN A SANDBOX (cutbox-rows.mjs): the forced cells as the released guide's own fill.sh prints them over the translation 20fc4c6ee9115e01… (all of the seat's roots in one cut). By AI agents, Wed Nov 11 2026. No macro, syntax, notation, axiom, sorry.
-/
import Derived.Test.YtgcbnndbeoekgaaChecked
import GoSem.Claim
import GoSem.ClaimJoined
import GoSem.ClaimMapViews
import Derived.JoinedTies
import Derived.KernelRfl
namespace Go.Proofs.Ytgcbnndbeoekgaa
/- THE CELL 'sum', in the pinned program and in every row, IS THE sha256 OF THE DUMP (.gsa) THAT YtgcbnndbeoekgaaProg.lean LOADS. Nothing in Lean hashes anything: it is a label: what it is worth is what the hold of that sum in a sandbox is worth. -/
noncomputable def Try.pinned : Pinned := { name := "ytgcbnndbeoekgaa", sum := "20fc4c6ee9115e01eadb12a23988d9d2980a0093bf347e91ae2a0e017980ee36", checked := Try.checked }
namespace Rows
def none {H : Type} : Left H := { results := [], args := [] }

/-- 'topiarylaw15.UnifyReads': WHATEVER THE INPUT: true; the input reads as it did. -/
def unifyReadsSpec : ChangeSpec := { name := "unifyReads", fn := fun _ => fun
  | [d] => { results := [.lit (.bool true)], args := [d] }
  | _ => none }
def unifyReadsRow : OpenClaim := { program := "ytgcbnndbeoekgaa", sum := "20fc4c6ee9115e01eadb12a23988d9d2980a0093bf347e91ae2a0e017980ee36", func := "topiary/topiarylaw15.UnifyReads", spec := "unifyReads", recurses := true, apart := false }
def UnifyReadsSaid : Prop := unifyReadsRow.holds Try.pinned (OpenSpec.ofChange unifyReadsSpec)

/-- ITS FALSE NEIGHBOUR: 'it returns false'. Refute it at one input. -/
def unifyReadsWrong : ChangeSpec := { name := "unifyReads", fn := fun _ => fun
  | [d] => { results := [.lit (.bool false)], args := [d] }
  | _ => none }
def UnifyReadsWrongFalsely : Prop := unifyReadsRow.holds Try.pinned (OpenSpec.ofChange unifyReadsWrong)

/-- 'topiarylaw15.UnifyApplies': WHATEVER THE INPUT: true; the input reads as it did. -/
def unifyAppliesSpec : ChangeSpec := { name := "unifyApplies", fn := fun _ => fun
  | [d1, d2] => { results := [.lit (.bool true)], args := [d1, d2] }
  | _ => none }
def unifyAppliesRow : OpenClaim := { program := "ytgcbnndbeoekgaa", sum := "20fc4c6ee9115e01eadb12a23988d9d2980a0093bf347e91ae2a0e017980ee36", func := "topiary/topiarylaw15.UnifyApplies", spec := "unifyApplies", recurses := true, apart := false }
def UnifyAppliesSaid : Prop := unifyAppliesRow.holds Try.pinned (OpenSpec.ofChange unifyAppliesSpec)

/-- ITS FALSE NEIGHBOUR: 'it returns false'. Refute it at one input. -/
def unifyAppliesWrong : ChangeSpec := { name := "unifyApplies", fn := fun _ => fun
  | [d1, d2] => { results := [.lit (.bool false)], args := [d1, d2] }
  | _ => none }
def UnifyAppliesWrongFalsely : Prop := unifyAppliesRow.holds Try.pinned (OpenSpec.ofChange unifyAppliesWrong)

/-- 'topiarylaw15.UnifyAdds': WHATEVER THE INPUT: true; the input reads as it did. -/
def unifyAddsSpec : ChangeSpec := { name := "unifyAdds", fn := fun _ => fun
  | [d1, d2, d3] => { results := [.lit (.bool true)], args := [d1, d2, d3] }
  | _ => none }
def unifyAddsRow : OpenClaim := { program := "ytgcbnndbeoekgaa", sum := "20fc4c6ee9115e01eadb12a23988d9d2980a0093bf347e91ae2a0e017980ee36", func := "topiary/topiarylaw15.UnifyAdds", spec := "unifyAdds", recurses := true, apart := false }
def UnifyAddsSaid : Prop := unifyAddsRow.holds Try.pinned (OpenSpec.ofChange unifyAddsSpec)

/-- ITS FALSE NEIGHBOUR: 'it returns false'. Refute it at one input. -/
def unifyAddsWrong : ChangeSpec := { name := "unifyAdds", fn := fun _ => fun
  | [d1, d2, d3] => { results := [.lit (.bool false)], args := [d1, d2, d3] }
  | _ => none }
def UnifyAddsWrongFalsely : Prop := unifyAddsRow.holds Try.pinned (OpenSpec.ofChange unifyAddsWrong)

/-- 'topiarylaw15.UnifySolves': WHATEVER THE INPUT: true; the input reads as it did. -/
def unifySolvesSpec : ChangeSpec := { name := "unifySolves", fn := fun _ => fun
  | [d] => { results := [.lit (.bool true)], args := [d] }
  | _ => none }
def unifySolvesRow : OpenClaim := { program := "ytgcbnndbeoekgaa", sum := "20fc4c6ee9115e01eadb12a23988d9d2980a0093bf347e91ae2a0e017980ee36", func := "topiary/topiarylaw15.UnifySolves", spec := "unifySolves", recurses := true, apart := false }
def UnifySolvesSaid : Prop := unifySolvesRow.holds Try.pinned (OpenSpec.ofChange unifySolvesSpec)

/-- ITS FALSE NEIGHBOUR: 'it returns false'. Refute it at one input. -/
def unifySolvesWrong : ChangeSpec := { name := "unifySolves", fn := fun _ => fun
  | [d] => { results := [.lit (.bool false)], args := [d] }
  | _ => none }
def UnifySolvesWrongFalsely : Prop := unifySolvesRow.holds Try.pinned (OpenSpec.ofChange unifySolvesWrong)

/- THE SECOND FORM. 'bulk': how many values and letters a reading holds, each counted each time it is reached (what is shared counts as often as it is met; a slice's spare places count too). A statement '..UptoSaid' is the law's where the arguments, and the package variables that the reading takes, are together of bulk at most 1048576: NARROWER than '..Said'. Prove '..Said' where nothing that the law and all that it calls make is longer than what came in: it says more and counts as full. Else prove '..UptoSaid'. A law counts once. -/
mutual
def uptoBulk {H : Type} : DataW H → Nat
  | .lit (.string bytes) => bytes.length + 1
  | .lit _ => 1
  | .nil => 1
  | .ptr d => uptoBulk d + 1
  | .slice elems spare => uptoBulkAll elems + uptoBulkAll spare + 1
  | .agg parts => uptoBulkAll parts + 1
  | .iface _ d => uptoBulk d + 1
  | .map entries => uptoBulkEntries entries + 1
  | .held _ => 1
def uptoBulkAll {H : Type} : List (DataW H) → Nat
  | [] => 0
  | d :: r => uptoBulk d + uptoBulkAll r
def uptoBulkEntries {H : Type} : List (Lit × DataW H) → Nat
  | [] => 0
  | x :: r => uptoBulkEntry x + uptoBulkEntries r
def uptoBulkEntry {H : Type} : Lit × DataW H → Nat
  | (.string bytes, d) => bytes.length + uptoBulk d + 1
  | (_, d) => uptoBulk d + 1
 end
def uptoSmall : (H : Type) → List (DataW H) → Bool := fun _ ds => decide (uptoBulkAll ds ≤ 1048576)
def OpenSpec.upto (s : _root_.Go.ChangeSpec) : _root_.Go.OpenSpec := { _root_.Go.OpenSpec.ofChange s with cond := some uptoSmall }

/-- 'topiarylaw15.UnifyReads', WHERE WHAT IT READS IS OF BULK AT MOST 1048576: true; the input reads as it did. -/
def unifyReadsUptoRow : OpenClaim := { program := "ytgcbnndbeoekgaa", sum := "20fc4c6ee9115e01eadb12a23988d9d2980a0093bf347e91ae2a0e017980ee36", func := "topiary/topiarylaw15.UnifyReads", spec := "unifyReads", recurses := true, apart := false, narrowed := true }
def UnifyReadsUptoSaid : Prop := unifyReadsUptoRow.holds Try.pinned (OpenSpec.upto unifyReadsSpec)

/-- 'topiarylaw15.UnifyApplies', WHERE WHAT IT READS IS OF BULK AT MOST 1048576: true; the input reads as it did. -/
def unifyAppliesUptoRow : OpenClaim := { program := "ytgcbnndbeoekgaa", sum := "20fc4c6ee9115e01eadb12a23988d9d2980a0093bf347e91ae2a0e017980ee36", func := "topiary/topiarylaw15.UnifyApplies", spec := "unifyApplies", recurses := true, apart := false, narrowed := true }
def UnifyAppliesUptoSaid : Prop := unifyAppliesUptoRow.holds Try.pinned (OpenSpec.upto unifyAppliesSpec)

/-- 'topiarylaw15.UnifyAdds', WHERE WHAT IT READS IS OF BULK AT MOST 1048576: true; the input reads as it did. -/
def unifyAddsUptoRow : OpenClaim := { program := "ytgcbnndbeoekgaa", sum := "20fc4c6ee9115e01eadb12a23988d9d2980a0093bf347e91ae2a0e017980ee36", func := "topiary/topiarylaw15.UnifyAdds", spec := "unifyAdds", recurses := true, apart := false, narrowed := true }
def UnifyAddsUptoSaid : Prop := unifyAddsUptoRow.holds Try.pinned (OpenSpec.upto unifyAddsSpec)

/-- 'topiarylaw15.UnifySolves', WHERE WHAT IT READS IS OF BULK AT MOST 1048576: true; the input reads as it did. -/
def unifySolvesUptoRow : OpenClaim := { program := "ytgcbnndbeoekgaa", sum := "20fc4c6ee9115e01eadb12a23988d9d2980a0093bf347e91ae2a0e017980ee36", func := "topiary/topiarylaw15.UnifySolves", spec := "unifySolves", recurses := true, apart := false, narrowed := true }
def UnifySolvesUptoSaid : Prop := unifySolvesUptoRow.holds Try.pinned (OpenSpec.upto unifySolvesSpec)

end Rows
end Go.Proofs.Ytgcbnndbeoekgaa
