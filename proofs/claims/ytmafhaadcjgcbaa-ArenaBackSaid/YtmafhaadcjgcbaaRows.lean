/-
  No cell of these rows narrows 'for every input' (looked for: loops, veiled, ifaces, maps, wideKeys, modest, calm, conditions, laid).
  DERIVED. THE GIVEN ROWS OF THIS SEAT. 9 by the template 'for every input the law returns true; each argument reads behind the call as it read before'; 0 by the template 'total and deterministic' (their statements: YtmafhaadcjgcbaaTotals.lean).
  GIVEN WITH THE SEED: the statements are not yours to turn. If you find one false, say at which input.
  Laid BY PROGRAM, IN A SANDBOX (cutbox-rows.mjs): the forced cells as the released guide's own fill.sh prints them over the translation 7f838e6dc33e5e09… (all of the seat's roots in one cut). By AI agents, Wed Nov 11 2026. No macro, syntax, notation, axiom, sorry.
-/
import Derived.Test.YtmafhaadcjgcbaaChecked
import GoSem.Claim
import GoSem.ClaimJoined
import GoSem.ClaimMapViews
import Derived.JoinedTies
import Derived.KernelRfl
namespace Go.Proofs.Ytmafhaadcjgcbaa
/- THE CELL 'sum', in the pinned program and in every row, IS THE sha256 OF THE DUMP (.gsa) THAT YtmafhaadcjgcbaaProg.lean LOADS. Nothing in Lean hashes anything: it is a label: what it is worth is what the hold of that sum in a sandbox is worth. -/
noncomputable def Try.pinned : Pinned := { name := "ytmafhaadcjgcbaa", sum := "7f838e6dc33e5e091d414d2a0dc6c3121767280cc3f0d26db35fb2aad2b3b77b", checked := Try.checked }
namespace Rows
def none {H : Type} : Left H := { results := [], args := [] }

/-- 'topiarylaw02.ArenaChecks': WHATEVER THE INPUT: true; the input reads as it did. -/
def arenaChecksSpec : ChangeSpec := { name := "arenaChecks", fn := fun _ => fun
  | [d1, d2, d3] => { results := [.lit (.bool true)], args := [d1, d2, d3] }
  | _ => none }
def arenaChecksRow : OpenClaim := { program := "ytmafhaadcjgcbaa", sum := "7f838e6dc33e5e091d414d2a0dc6c3121767280cc3f0d26db35fb2aad2b3b77b", func := "topiary/topiarylaw02.ArenaChecks", spec := "arenaChecks", unfollowed := true, recurses := true, apart := false }
def ArenaChecksSaid : Prop := arenaChecksRow.holds Try.pinned (OpenSpec.ofChange arenaChecksSpec)

/-- ITS FALSE NEIGHBOUR: 'it returns false'. Refute it at one input. -/
def arenaChecksWrong : ChangeSpec := { name := "arenaChecks", fn := fun _ => fun
  | [d1, d2, d3] => { results := [.lit (.bool false)], args := [d1, d2, d3] }
  | _ => none }
def ArenaChecksWrongFalsely : Prop := arenaChecksRow.holds Try.pinned (OpenSpec.ofChange arenaChecksWrong)

/-- 'topiarylaw02.ArenaTells': WHATEVER THE INPUT: true; the input reads as it did. -/
def arenaTellsSpec : ChangeSpec := { name := "arenaTells", fn := fun _ => fun
  | [d1, d2, d3] => { results := [.lit (.bool true)], args := [d1, d2, d3] }
  | _ => none }
def arenaTellsRow : OpenClaim := { program := "ytmafhaadcjgcbaa", sum := "7f838e6dc33e5e091d414d2a0dc6c3121767280cc3f0d26db35fb2aad2b3b77b", func := "topiary/topiarylaw02.ArenaTells", spec := "arenaTells", unfollowed := true, recurses := true, apart := false }
def ArenaTellsSaid : Prop := arenaTellsRow.holds Try.pinned (OpenSpec.ofChange arenaTellsSpec)

/-- ITS FALSE NEIGHBOUR: 'it returns false'. Refute it at one input. -/
def arenaTellsWrong : ChangeSpec := { name := "arenaTells", fn := fun _ => fun
  | [d1, d2, d3] => { results := [.lit (.bool false)], args := [d1, d2, d3] }
  | _ => none }
def ArenaTellsWrongFalsely : Prop := arenaTellsRow.holds Try.pinned (OpenSpec.ofChange arenaTellsWrong)

/-- 'topiarylaw02.ArenaAdds': WHATEVER THE INPUT: true; the input reads as it did. -/
def arenaAddsSpec : ChangeSpec := { name := "arenaAdds", fn := fun _ => fun
  | [d1, d2, d3, d4, d5] => { results := [.lit (.bool true)], args := [d1, d2, d3, d4, d5] }
  | _ => none }
def arenaAddsRow : OpenClaim := { program := "ytmafhaadcjgcbaa", sum := "7f838e6dc33e5e091d414d2a0dc6c3121767280cc3f0d26db35fb2aad2b3b77b", func := "topiary/topiarylaw02.ArenaAdds", spec := "arenaAdds", inPlace := ["slices.overlaps[int]"], unfollowed := true, recurses := true, apart := false }
def ArenaAddsSaid : Prop := arenaAddsRow.holds Try.pinned (OpenSpec.ofChange arenaAddsSpec)

/-- ITS FALSE NEIGHBOUR: 'it returns false'. Refute it at one input. -/
def arenaAddsWrong : ChangeSpec := { name := "arenaAdds", fn := fun _ => fun
  | [d1, d2, d3, d4, d5] => { results := [.lit (.bool false)], args := [d1, d2, d3, d4, d5] }
  | _ => none }
def ArenaAddsWrongFalsely : Prop := arenaAddsRow.holds Try.pinned (OpenSpec.ofChange arenaAddsWrong)

/-- 'topiarylaw02.ArenaSets': WHATEVER THE INPUT: true; the input reads as it did. -/
def arenaSetsSpec : ChangeSpec := { name := "arenaSets", fn := fun _ => fun
  | [d1, d2, d3, d4, d5] => { results := [.lit (.bool true)], args := [d1, d2, d3, d4, d5] }
  | _ => none }
def arenaSetsRow : OpenClaim := { program := "ytmafhaadcjgcbaa", sum := "7f838e6dc33e5e091d414d2a0dc6c3121767280cc3f0d26db35fb2aad2b3b77b", func := "topiary/topiarylaw02.ArenaSets", spec := "arenaSets", inPlace := ["slices.overlaps[topiary/api.Prop]", "slices.overlaps[topiary/api.Ref]"], unfollowed := true, recurses := true, apart := false }
def ArenaSetsSaid : Prop := arenaSetsRow.holds Try.pinned (OpenSpec.ofChange arenaSetsSpec)

/-- ITS FALSE NEIGHBOUR: 'it returns false'. Refute it at one input. -/
def arenaSetsWrong : ChangeSpec := { name := "arenaSets", fn := fun _ => fun
  | [d1, d2, d3, d4, d5] => { results := [.lit (.bool false)], args := [d1, d2, d3, d4, d5] }
  | _ => none }
def ArenaSetsWrongFalsely : Prop := arenaSetsRow.holds Try.pinned (OpenSpec.ofChange arenaSetsWrong)

/-- 'topiarylaw02.ArenaMoves': WHATEVER THE INPUT: true; the input reads as it did. -/
def arenaMovesSpec : ChangeSpec := { name := "arenaMoves", fn := fun _ => fun
  | [d1, d2, d3, d4, d5] => { results := [.lit (.bool true)], args := [d1, d2, d3, d4, d5] }
  | _ => none }
def arenaMovesRow : OpenClaim := { program := "ytmafhaadcjgcbaa", sum := "7f838e6dc33e5e091d414d2a0dc6c3121767280cc3f0d26db35fb2aad2b3b77b", func := "topiary/topiarylaw02.ArenaMoves", spec := "arenaMoves", inPlace := ["slices.overlaps[int]"], unfollowed := true, recurses := true, apart := false }
def ArenaMovesSaid : Prop := arenaMovesRow.holds Try.pinned (OpenSpec.ofChange arenaMovesSpec)

/-- ITS FALSE NEIGHBOUR: 'it returns false'. Refute it at one input. -/
def arenaMovesWrong : ChangeSpec := { name := "arenaMoves", fn := fun _ => fun
  | [d1, d2, d3, d4, d5] => { results := [.lit (.bool false)], args := [d1, d2, d3, d4, d5] }
  | _ => none }
def ArenaMovesWrongFalsely : Prop := arenaMovesRow.holds Try.pinned (OpenSpec.ofChange arenaMovesWrong)

/-- 'topiarylaw02.ArenaRight': WHATEVER THE INPUT: true; the input reads as it did. -/
def arenaRightSpec : ChangeSpec := { name := "arenaRight", fn := fun _ => fun
  | [d] => { results := [.lit (.bool true)], args := [d] }
  | _ => none }
def arenaRightRow : OpenClaim := { program := "ytmafhaadcjgcbaa", sum := "7f838e6dc33e5e091d414d2a0dc6c3121767280cc3f0d26db35fb2aad2b3b77b", func := "topiary/topiarylaw02.ArenaRight", spec := "arenaRight", inPlace := ["slices.overlaps[int]", "slices.overlaps[topiary/api.Prop]", "slices.overlaps[topiary/api.Ref]"], unfollowed := true, recurses := true, apart := false }
def ArenaRightSaid : Prop := arenaRightRow.holds Try.pinned (OpenSpec.ofChange arenaRightSpec)

/-- ITS FALSE NEIGHBOUR: 'it returns false'. Refute it at one input. -/
def arenaRightWrong : ChangeSpec := { name := "arenaRight", fn := fun _ => fun
  | [d] => { results := [.lit (.bool false)], args := [d] }
  | _ => none }
def ArenaRightWrongFalsely : Prop := arenaRightRow.holds Try.pinned (OpenSpec.ofChange arenaRightWrong)

/-- 'topiarylaw02.ArenaBack': WHATEVER THE INPUT: true; the input reads as it did. -/
def arenaBackSpec : ChangeSpec := { name := "arenaBack", fn := fun _ => fun
  | [d1, d2] => { results := [.lit (.bool true)], args := [d1, d2] }
  | _ => none }
def arenaBackRow : OpenClaim := { program := "ytmafhaadcjgcbaa", sum := "7f838e6dc33e5e091d414d2a0dc6c3121767280cc3f0d26db35fb2aad2b3b77b", func := "topiary/topiarylaw02.ArenaBack", spec := "arenaBack", inPlace := ["slices.overlaps[int]", "slices.overlaps[topiary/api.Prop]", "slices.overlaps[topiary/api.Ref]"], unfollowed := true, recurses := true, apart := false }
def ArenaBackSaid : Prop := arenaBackRow.holds Try.pinned (OpenSpec.ofChange arenaBackSpec)

/-- ITS FALSE NEIGHBOUR: 'it returns false'. Refute it at one input. -/
def arenaBackWrong : ChangeSpec := { name := "arenaBack", fn := fun _ => fun
  | [d1, d2] => { results := [.lit (.bool false)], args := [d1, d2] }
  | _ => none }
def ArenaBackWrongFalsely : Prop := arenaBackRow.holds Try.pinned (OpenSpec.ofChange arenaBackWrong)

/-- 'topiarylaw02.ArenaOwn': WHATEVER THE INPUT: true; the input reads as it did. -/
def arenaOwnSpec : ChangeSpec := { name := "arenaOwn", fn := fun _ => fun
  | [d1, d2] => { results := [.lit (.bool true)], args := [d1, d2] }
  | _ => none }
def arenaOwnRow : OpenClaim := { program := "ytmafhaadcjgcbaa", sum := "7f838e6dc33e5e091d414d2a0dc6c3121767280cc3f0d26db35fb2aad2b3b77b", func := "topiary/topiarylaw02.ArenaOwn", spec := "arenaOwn", inPlace := ["slices.overlaps[int]", "slices.overlaps[topiary/api.Prop]", "slices.overlaps[topiary/api.Ref]"], unfollowed := true, recurses := true, apart := false }
def ArenaOwnSaid : Prop := arenaOwnRow.holds Try.pinned (OpenSpec.ofChange arenaOwnSpec)

/-- ITS FALSE NEIGHBOUR: 'it returns false'. Refute it at one input. -/
def arenaOwnWrong : ChangeSpec := { name := "arenaOwn", fn := fun _ => fun
  | [d1, d2] => { results := [.lit (.bool false)], args := [d1, d2] }
  | _ => none }
def ArenaOwnWrongFalsely : Prop := arenaOwnRow.holds Try.pinned (OpenSpec.ofChange arenaOwnWrong)

/-- 'topiarylaw02.ArenaCopies': WHATEVER THE INPUT: true; the input reads as it did. -/
def arenaCopiesSpec : ChangeSpec := { name := "arenaCopies", fn := fun _ => fun
  | [d1, d2] => { results := [.lit (.bool true)], args := [d1, d2] }
  | _ => none }
def arenaCopiesRow : OpenClaim := { program := "ytmafhaadcjgcbaa", sum := "7f838e6dc33e5e091d414d2a0dc6c3121767280cc3f0d26db35fb2aad2b3b77b", func := "topiary/topiarylaw02.ArenaCopies", spec := "arenaCopies", inPlace := ["slices.overlaps[int]", "slices.overlaps[topiary/api.Prop]", "slices.overlaps[topiary/api.Ref]"], unfollowed := true, recurses := true, apart := false }
def ArenaCopiesSaid : Prop := arenaCopiesRow.holds Try.pinned (OpenSpec.ofChange arenaCopiesSpec)

/-- ITS FALSE NEIGHBOUR: 'it returns false'. Refute it at one input. -/
def arenaCopiesWrong : ChangeSpec := { name := "arenaCopies", fn := fun _ => fun
  | [d1, d2] => { results := [.lit (.bool false)], args := [d1, d2] }
  | _ => none }
def ArenaCopiesWrongFalsely : Prop := arenaCopiesRow.holds Try.pinned (OpenSpec.ofChange arenaCopiesWrong)

/- THE SECOND FORM. 'bulk': how many values and letters a reading holds, each counted each time it is reached (what is shared counts as often as it is met; a slice's spare places count too). A statement '..UptoSaid' is the law's where the arguments, and the package variables that the reading takes, are together of bulk at most 1048576: NARROWER than '..Said'. Prove '..Said' where nothing that the law and all that it calls make is longer than what came in: it says more and counts as full. Else prove '..UptoSaid'. A law counts once. -/
mutual
def uptoBulk {H : Type} : DataW H → Nat
  | .lit (.string bytes) => bytes.length + 1
  | .lit _ => 1
  | .nil => 1
  | .ptr d => uptoBulk d + 1
  | .slice elems spare => uptoBulkAll elems + uptoBulkAll spare + 1
  | .agg parts => uptoBulkAll parts + 1
  | .iface _ d => uptoBulk d + 1
  | .map entries => uptoBulkEntries entries + 1
  | .held _ => 1
def uptoBulkAll {H : Type} : List (DataW H) → Nat
  | [] => 0
  | d :: r => uptoBulk d + uptoBulkAll r
def uptoBulkEntries {H : Type} : List (Lit × DataW H) → Nat
  | [] => 0
  | x :: r => uptoBulkEntry x + uptoBulkEntries r
def uptoBulkEntry {H : Type} : Lit × DataW H → Nat
  | (.string bytes, d) => bytes.length + uptoBulk d + 1
  | (_, d) => uptoBulk d + 1
 end
def uptoSmall : (H : Type) → List (DataW H) → Bool := fun _ ds => decide (uptoBulkAll ds ≤ 1048576)
def OpenSpec.upto (s : _root_.Go.ChangeSpec) : _root_.Go.OpenSpec := { _root_.Go.OpenSpec.ofChange s with cond := some uptoSmall }

/-- 'topiarylaw02.ArenaChecks', WHERE WHAT IT READS IS OF BULK AT MOST 1048576: true; the input reads as it did. -/
def arenaChecksUptoRow : OpenClaim := { program := "ytmafhaadcjgcbaa", sum := "7f838e6dc33e5e091d414d2a0dc6c3121767280cc3f0d26db35fb2aad2b3b77b", func := "topiary/topiarylaw02.ArenaChecks", spec := "arenaChecks", unfollowed := true, recurses := true, apart := false, narrowed := true }
def ArenaChecksUptoSaid : Prop := arenaChecksUptoRow.holds Try.pinned (OpenSpec.upto arenaChecksSpec)

/-- 'topiarylaw02.ArenaTells', WHERE WHAT IT READS IS OF BULK AT MOST 1048576: true; the input reads as it did. -/
def arenaTellsUptoRow : OpenClaim := { program := "ytmafhaadcjgcbaa", sum := "7f838e6dc33e5e091d414d2a0dc6c3121767280cc3f0d26db35fb2aad2b3b77b", func := "topiary/topiarylaw02.ArenaTells", spec := "arenaTells", unfollowed := true, recurses := true, apart := false, narrowed := true }
def ArenaTellsUptoSaid : Prop := arenaTellsUptoRow.holds Try.pinned (OpenSpec.upto arenaTellsSpec)

/-- 'topiarylaw02.ArenaAdds', WHERE WHAT IT READS IS OF BULK AT MOST 1048576: true; the input reads as it did. -/
def arenaAddsUptoRow : OpenClaim := { program := "ytmafhaadcjgcbaa", sum := "7f838e6dc33e5e091d414d2a0dc6c3121767280cc3f0d26db35fb2aad2b3b77b", func := "topiary/topiarylaw02.ArenaAdds", spec := "arenaAdds", inPlace := ["slices.overlaps[int]"], unfollowed := true, recurses := true, apart := false, narrowed := true }
def ArenaAddsUptoSaid : Prop := arenaAddsUptoRow.holds Try.pinned (OpenSpec.upto arenaAddsSpec)

/-- 'topiarylaw02.ArenaSets', WHERE WHAT IT READS IS OF BULK AT MOST 1048576: true; the input reads as it did. -/
def arenaSetsUptoRow : OpenClaim := { program := "ytmafhaadcjgcbaa", sum := "7f838e6dc33e5e091d414d2a0dc6c3121767280cc3f0d26db35fb2aad2b3b77b", func := "topiary/topiarylaw02.ArenaSets", spec := "arenaSets", inPlace := ["slices.overlaps[topiary/api.Prop]", "slices.overlaps[topiary/api.Ref]"], unfollowed := true, recurses := true, apart := false, narrowed := true }
def ArenaSetsUptoSaid : Prop := arenaSetsUptoRow.holds Try.pinned (OpenSpec.upto arenaSetsSpec)

/-- 'topiarylaw02.ArenaMoves', WHERE WHAT IT READS IS OF BULK AT MOST 1048576: true; the input reads as it did. -/
def arenaMovesUptoRow : OpenClaim := { program := "ytmafhaadcjgcbaa", sum := "7f838e6dc33e5e091d414d2a0dc6c3121767280cc3f0d26db35fb2aad2b3b77b", func := "topiary/topiarylaw02.ArenaMoves", spec := "arenaMoves", inPlace := ["slices.overlaps[int]"], unfollowed := true, recurses := true, apart := false, narrowed := true }
def ArenaMovesUptoSaid : Prop := arenaMovesUptoRow.holds Try.pinned (OpenSpec.upto arenaMovesSpec)

/-- 'topiarylaw02.ArenaRight', WHERE WHAT IT READS IS OF BULK AT MOST 1048576: true; the input reads as it did. -/
def arenaRightUptoRow : OpenClaim := { program := "ytmafhaadcjgcbaa", sum := "7f838e6dc33e5e091d414d2a0dc6c3121767280cc3f0d26db35fb2aad2b3b77b", func := "topiary/topiarylaw02.ArenaRight", spec := "arenaRight", inPlace := ["slices.overlaps[int]", "slices.overlaps[topiary/api.Prop]", "slices.overlaps[topiary/api.Ref]"], unfollowed := true, recurses := true, apart := false, narrowed := true }
def ArenaRightUptoSaid : Prop := arenaRightUptoRow.holds Try.pinned (OpenSpec.upto arenaRightSpec)

/-- 'topiarylaw02.ArenaBack', WHERE WHAT IT READS IS OF BULK AT MOST 1048576: true; the input reads as it did. -/
def arenaBackUptoRow : OpenClaim := { program := "ytmafhaadcjgcbaa", sum := "7f838e6dc33e5e091d414d2a0dc6c3121767280cc3f0d26db35fb2aad2b3b77b", func := "topiary/topiarylaw02.ArenaBack", spec := "arenaBack", inPlace := ["slices.overlaps[int]", "slices.overlaps[topiary/api.Prop]", "slices.overlaps[topiary/api.Ref]"], unfollowed := true, recurses := true, apart := false, narrowed := true }
def ArenaBackUptoSaid : Prop := arenaBackUptoRow.holds Try.pinned (OpenSpec.upto arenaBackSpec)

/-- 'topiarylaw02.ArenaOwn', WHERE WHAT IT READS IS OF BULK AT MOST 1048576: true; the input reads as it did. -/
def arenaOwnUptoRow : OpenClaim := { program := "ytmafhaadcjgcbaa", sum := "7f838e6dc33e5e091d414d2a0dc6c3121767280cc3f0d26db35fb2aad2b3b77b", func := "topiary/topiarylaw02.ArenaOwn", spec := "arenaOwn", inPlace := ["slices.overlaps[int]", "slices.overlaps[topiary/api.Prop]", "slices.overlaps[topiary/api.Ref]"], unfollowed := true, recurses := true, apart := false, narrowed := true }
def ArenaOwnUptoSaid : Prop := arenaOwnUptoRow.holds Try.pinned (OpenSpec.upto arenaOwnSpec)

/-- 'topiarylaw02.ArenaCopies', WHERE WHAT IT READS IS OF BULK AT MOST 1048576: true; the input reads as it did. -/
def arenaCopiesUptoRow : OpenClaim := { program := "ytmafhaadcjgcbaa", sum := "7f838e6dc33e5e091d414d2a0dc6c3121767280cc3f0d26db35fb2aad2b3b77b", func := "topiary/topiarylaw02.ArenaCopies", spec := "arenaCopies", inPlace := ["slices.overlaps[int]", "slices.overlaps[topiary/api.Prop]", "slices.overlaps[topiary/api.Ref]"], unfollowed := true, recurses := true, apart := false, narrowed := true }
def ArenaCopiesUptoSaid : Prop := arenaCopiesUptoRow.holds Try.pinned (OpenSpec.upto arenaCopiesSpec)

end Rows
end Go.Proofs.Ytmafhaadcjgcbaa
