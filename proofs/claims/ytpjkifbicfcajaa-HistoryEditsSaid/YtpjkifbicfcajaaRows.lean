/-
  No cell of these rows narrows 'for every input' (looked for: loops, veiled, ifaces, maps, wideKeys, modest, calm, conditions, laid).
  DERIVED. THE GIVEN ROWS OF THIS SEAT. 7 by the template 'for every input the law returns true; each argument reads behind the call as it read before'; 0 by the template 'total and deterministic' (their statements: YtpjkifbicfcajaaTotals.lean).
  GIVEN WITH THE SEED: the statements are not yours to turn. If you find one false, say at which input.
  Laid BY PROGRAM, IN A SANDBOX (cutbox-rows.mjs): the forced cells as the released guide's own fill.sh prints them over the translation 802d8d8449112657… (all of the seat's roots in one cut). By AI agents, Wed Nov 11 2026. No macro, syntax, notation, axiom, sorry.
-/
import Derived.Test.YtpjkifbicfcajaaChecked
import GoSem.Claim
import GoSem.ClaimJoined
import GoSem.ClaimMapViews
import Derived.JoinedTies
import Derived.KernelRfl
namespace Go.Proofs.Ytpjkifbicfcajaa
/- THE CELL 'sum', in the pinned program and in every row, IS THE sha256 OF THE DUMP (.gsa) THAT YtpjkifbicfcajaaProg.lean LOADS. Nothing in Lean hashes anything: it is a label: what it is worth is what the hold of that sum in a sandbox is worth. -/
noncomputable def Try.pinned : Pinned := { name := "ytpjkifbicfcajaa", sum := "802d8d844911265784b555821123aa5f4d9ae9a0e8b54df3d6484f13bbbb39c1", checked := Try.checked }
namespace Rows
def none {H : Type} : Left H := { results := [], args := [] }

/-- 'topiarylaw27.HistoryActs': WHATEVER THE INPUT: true; the input reads as it did. -/
def historyActsSpec : ChangeSpec := { name := "historyActs", fn := fun _ => fun
  | [d1, d2] => { results := [.lit (.bool true)], args := [d1, d2] }
  | _ => none }
def historyActsRow : OpenClaim := { program := "ytpjkifbicfcajaa", sum := "802d8d844911265784b555821123aa5f4d9ae9a0e8b54df3d6484f13bbbb39c1", func := "topiary/topiarylaw27.HistoryActs", spec := "historyActs", unfollowed := true, recurses := true, apart := false }
def HistoryActsSaid : Prop := historyActsRow.holds Try.pinned (OpenSpec.ofChange historyActsSpec)

/-- ITS FALSE NEIGHBOUR: 'it returns false'. Refute it at one input. -/
def historyActsWrong : ChangeSpec := { name := "historyActs", fn := fun _ => fun
  | [d1, d2] => { results := [.lit (.bool false)], args := [d1, d2] }
  | _ => none }
def HistoryActsWrongFalsely : Prop := historyActsRow.holds Try.pinned (OpenSpec.ofChange historyActsWrong)

/-- 'topiarylaw27.HistoryTouched': WHATEVER THE INPUT: true; the input reads as it did. -/
def historyTouchedSpec : ChangeSpec := { name := "historyTouched", fn := fun _ => fun
  | [d1, d2] => { results := [.lit (.bool true)], args := [d1, d2] }
  | _ => none }
def historyTouchedRow : OpenClaim := { program := "ytpjkifbicfcajaa", sum := "802d8d844911265784b555821123aa5f4d9ae9a0e8b54df3d6484f13bbbb39c1", func := "topiary/topiarylaw27.HistoryTouched", spec := "historyTouched", unfollowed := true, recurses := true, apart := false }
def HistoryTouchedSaid : Prop := historyTouchedRow.holds Try.pinned (OpenSpec.ofChange historyTouchedSpec)

/-- ITS FALSE NEIGHBOUR: 'it returns false'. Refute it at one input. -/
def historyTouchedWrong : ChangeSpec := { name := "historyTouched", fn := fun _ => fun
  | [d1, d2] => { results := [.lit (.bool false)], args := [d1, d2] }
  | _ => none }
def HistoryTouchedWrongFalsely : Prop := historyTouchedRow.holds Try.pinned (OpenSpec.ofChange historyTouchedWrong)

/-- 'topiarylaw27.HistoryBack': WHATEVER THE INPUT: true; the input reads as it did. -/
def historyBackSpec : ChangeSpec := { name := "historyBack", fn := fun _ => fun
  | [d] => { results := [.lit (.bool true)], args := [d] }
  | _ => none }
def historyBackRow : OpenClaim := { program := "ytpjkifbicfcajaa", sum := "802d8d844911265784b555821123aa5f4d9ae9a0e8b54df3d6484f13bbbb39c1", func := "topiary/topiarylaw27.HistoryBack", spec := "historyBack", unfollowed := true, recurses := true, apart := false }
def HistoryBackSaid : Prop := historyBackRow.holds Try.pinned (OpenSpec.ofChange historyBackSpec)

/-- ITS FALSE NEIGHBOUR: 'it returns false'. Refute it at one input. -/
def historyBackWrong : ChangeSpec := { name := "historyBack", fn := fun _ => fun
  | [d] => { results := [.lit (.bool false)], args := [d] }
  | _ => none }
def HistoryBackWrongFalsely : Prop := historyBackRow.holds Try.pinned (OpenSpec.ofChange historyBackWrong)

/-- 'topiarylaw27.HistoryLong': WHATEVER THE INPUT: true; the input reads as it did. -/
def historyLongSpec : ChangeSpec := { name := "historyLong", fn := fun _ => fun
  | [d1, d2] => { results := [.lit (.bool true)], args := [d1, d2] }
  | _ => none }
def historyLongRow : OpenClaim := { program := "ytpjkifbicfcajaa", sum := "802d8d844911265784b555821123aa5f4d9ae9a0e8b54df3d6484f13bbbb39c1", func := "topiary/topiarylaw27.HistoryLong", spec := "historyLong", unfollowed := true, recurses := true, apart := false }
def HistoryLongSaid : Prop := historyLongRow.holds Try.pinned (OpenSpec.ofChange historyLongSpec)

/-- ITS FALSE NEIGHBOUR: 'it returns false'. Refute it at one input. -/
def historyLongWrong : ChangeSpec := { name := "historyLong", fn := fun _ => fun
  | [d1, d2] => { results := [.lit (.bool false)], args := [d1, d2] }
  | _ => none }
def HistoryLongWrongFalsely : Prop := historyLongRow.holds Try.pinned (OpenSpec.ofChange historyLongWrong)

/-- 'topiarylaw27.HistoryThree': WHATEVER THE INPUT: true; the input reads as it did. -/
def historyThreeSpec : ChangeSpec := { name := "historyThree", fn := fun _ => fun
  | [d1, d2, d3] => { results := [.lit (.bool true)], args := [d1, d2, d3] }
  | _ => none }
def historyThreeRow : OpenClaim := { program := "ytpjkifbicfcajaa", sum := "802d8d844911265784b555821123aa5f4d9ae9a0e8b54df3d6484f13bbbb39c1", func := "topiary/topiarylaw27.HistoryThree", spec := "historyThree", unfollowed := true, recurses := true, apart := false }
def HistoryThreeSaid : Prop := historyThreeRow.holds Try.pinned (OpenSpec.ofChange historyThreeSpec)

/-- ITS FALSE NEIGHBOUR: 'it returns false'. Refute it at one input. -/
def historyThreeWrong : ChangeSpec := { name := "historyThree", fn := fun _ => fun
  | [d1, d2, d3] => { results := [.lit (.bool false)], args := [d1, d2, d3] }
  | _ => none }
def HistoryThreeWrongFalsely : Prop := historyThreeRow.holds Try.pinned (OpenSpec.ofChange historyThreeWrong)

/-- 'topiarylaw27.HistoryNone': WHATEVER THE INPUT: true; the input reads as it did. -/
def historyNoneSpec : ChangeSpec := { name := "historyNone", fn := fun _ => fun
  | [d] => { results := [.lit (.bool true)], args := [d] }
  | _ => none }
def historyNoneRow : OpenClaim := { program := "ytpjkifbicfcajaa", sum := "802d8d844911265784b555821123aa5f4d9ae9a0e8b54df3d6484f13bbbb39c1", func := "topiary/topiarylaw27.HistoryNone", spec := "historyNone", unfollowed := true, recurses := true, apart := false }
def HistoryNoneSaid : Prop := historyNoneRow.holds Try.pinned (OpenSpec.ofChange historyNoneSpec)

/-- ITS FALSE NEIGHBOUR: 'it returns false'. Refute it at one input. -/
def historyNoneWrong : ChangeSpec := { name := "historyNone", fn := fun _ => fun
  | [d] => { results := [.lit (.bool false)], args := [d] }
  | _ => none }
def HistoryNoneWrongFalsely : Prop := historyNoneRow.holds Try.pinned (OpenSpec.ofChange historyNoneWrong)

/-- 'topiarylaw27.HistoryEdits': WHATEVER THE INPUT: true; the input reads as it did. -/
def historyEditsSpec : ChangeSpec := { name := "historyEdits", fn := fun _ => fun
  | [d1, d2, d3, d4] => { results := [.lit (.bool true)], args := [d1, d2, d3, d4] }
  | _ => none }
def historyEditsRow : OpenClaim := { program := "ytpjkifbicfcajaa", sum := "802d8d844911265784b555821123aa5f4d9ae9a0e8b54df3d6484f13bbbb39c1", func := "topiary/topiarylaw27.HistoryEdits", spec := "historyEdits", inPlace := ["slices.overlaps[topiary/api.Prop]", "slices.overlaps[int]"], unfollowed := true, recurses := true, apart := false }
def HistoryEditsSaid : Prop := historyEditsRow.holds Try.pinned (OpenSpec.ofChange historyEditsSpec)

/-- ITS FALSE NEIGHBOUR: 'it returns false'. Refute it at one input. -/
def historyEditsWrong : ChangeSpec := { name := "historyEdits", fn := fun _ => fun
  | [d1, d2, d3, d4] => { results := [.lit (.bool false)], args := [d1, d2, d3, d4] }
  | _ => none }
def HistoryEditsWrongFalsely : Prop := historyEditsRow.holds Try.pinned (OpenSpec.ofChange historyEditsWrong)

/- THE SECOND FORM. 'bulk': how many values and letters a reading holds, each counted each time it is reached (what is shared counts as often as it is met; a slice's spare places count too). A statement '..UptoSaid' is the law's where the arguments, and the package variables that the reading takes, are together of bulk at most 1048576: NARROWER than '..Said'. Prove '..Said' where nothing that the law and all that it calls make is longer than what came in: it says more and counts as full. Else prove '..UptoSaid'. A law counts once. -/
mutual
def uptoBulk {H : Type} : DataW H → Nat
  | .lit (.string bytes) => bytes.length + 1
  | .lit _ => 1
  | .nil => 1
  | .ptr d => uptoBulk d + 1
  | .slice elems spare => uptoBulkAll elems + uptoBulkAll spare + 1
  | .agg parts => uptoBulkAll parts + 1
  | .iface _ d => uptoBulk d + 1
  | .map entries => uptoBulkEntries entries + 1
  | .held _ => 1
def uptoBulkAll {H : Type} : List (DataW H) → Nat
  | [] => 0
  | d :: r => uptoBulk d + uptoBulkAll r
def uptoBulkEntries {H : Type} : List (Lit × DataW H) → Nat
  | [] => 0
  | x :: r => uptoBulkEntry x + uptoBulkEntries r
def uptoBulkEntry {H : Type} : Lit × DataW H → Nat
  | (.string bytes, d) => bytes.length + uptoBulk d + 1
  | (_, d) => uptoBulk d + 1
 end
def uptoSmall : (H : Type) → List (DataW H) → Bool := fun _ ds => decide (uptoBulkAll ds ≤ 1048576)
def OpenSpec.upto (s : _root_.Go.ChangeSpec) : _root_.Go.OpenSpec := { _root_.Go.OpenSpec.ofChange s with cond := some uptoSmall }

/-- 'topiarylaw27.HistoryActs', WHERE WHAT IT READS IS OF BULK AT MOST 1048576: true; the input reads as it did. -/
def historyActsUptoRow : OpenClaim := { program := "ytpjkifbicfcajaa", sum := "802d8d844911265784b555821123aa5f4d9ae9a0e8b54df3d6484f13bbbb39c1", func := "topiary/topiarylaw27.HistoryActs", spec := "historyActs", unfollowed := true, recurses := true, apart := false, narrowed := true }
def HistoryActsUptoSaid : Prop := historyActsUptoRow.holds Try.pinned (OpenSpec.upto historyActsSpec)

/-- 'topiarylaw27.HistoryTouched', WHERE WHAT IT READS IS OF BULK AT MOST 1048576: true; the input reads as it did. -/
def historyTouchedUptoRow : OpenClaim := { program := "ytpjkifbicfcajaa", sum := "802d8d844911265784b555821123aa5f4d9ae9a0e8b54df3d6484f13bbbb39c1", func := "topiary/topiarylaw27.HistoryTouched", spec := "historyTouched", unfollowed := true, recurses := true, apart := false, narrowed := true }
def HistoryTouchedUptoSaid : Prop := historyTouchedUptoRow.holds Try.pinned (OpenSpec.upto historyTouchedSpec)

/-- 'topiarylaw27.HistoryBack', WHERE WHAT IT READS IS OF BULK AT MOST 1048576: true; the input reads as it did. -/
def historyBackUptoRow : OpenClaim := { program := "ytpjkifbicfcajaa", sum := "802d8d844911265784b555821123aa5f4d9ae9a0e8b54df3d6484f13bbbb39c1", func := "topiary/topiarylaw27.HistoryBack", spec := "historyBack", unfollowed := true, recurses := true, apart := false, narrowed := true }
def HistoryBackUptoSaid : Prop := historyBackUptoRow.holds Try.pinned (OpenSpec.upto historyBackSpec)

/-- 'topiarylaw27.HistoryLong', WHERE WHAT IT READS IS OF BULK AT MOST 1048576: true; the input reads as it did. -/
def historyLongUptoRow : OpenClaim := { program := "ytpjkifbicfcajaa", sum := "802d8d844911265784b555821123aa5f4d9ae9a0e8b54df3d6484f13bbbb39c1", func := "topiary/topiarylaw27.HistoryLong", spec := "historyLong", unfollowed := true, recurses := true, apart := false, narrowed := true }
def HistoryLongUptoSaid : Prop := historyLongUptoRow.holds Try.pinned (OpenSpec.upto historyLongSpec)

/-- 'topiarylaw27.HistoryThree', WHERE WHAT IT READS IS OF BULK AT MOST 1048576: true; the input reads as it did. -/
def historyThreeUptoRow : OpenClaim := { program := "ytpjkifbicfcajaa", sum := "802d8d844911265784b555821123aa5f4d9ae9a0e8b54df3d6484f13bbbb39c1", func := "topiary/topiarylaw27.HistoryThree", spec := "historyThree", unfollowed := true, recurses := true, apart := false, narrowed := true }
def HistoryThreeUptoSaid : Prop := historyThreeUptoRow.holds Try.pinned (OpenSpec.upto historyThreeSpec)

/-- 'topiarylaw27.HistoryNone', WHERE WHAT IT READS IS OF BULK AT MOST 1048576: true; the input reads as it did. -/
def historyNoneUptoRow : OpenClaim := { program := "ytpjkifbicfcajaa", sum := "802d8d844911265784b555821123aa5f4d9ae9a0e8b54df3d6484f13bbbb39c1", func := "topiary/topiarylaw27.HistoryNone", spec := "historyNone", unfollowed := true, recurses := true, apart := false, narrowed := true }
def HistoryNoneUptoSaid : Prop := historyNoneUptoRow.holds Try.pinned (OpenSpec.upto historyNoneSpec)

/-- 'topiarylaw27.HistoryEdits', WHERE WHAT IT READS IS OF BULK AT MOST 1048576: true; the input reads as it did. -/
def historyEditsUptoRow : OpenClaim := { program := "ytpjkifbicfcajaa", sum := "802d8d844911265784b555821123aa5f4d9ae9a0e8b54df3d6484f13bbbb39c1", func := "topiary/topiarylaw27.HistoryEdits", spec := "historyEdits", inPlace := ["slices.overlaps[topiary/api.Prop]", "slices.overlaps[int]"], unfollowed := true, recurses := true, apart := false, narrowed := true }
def HistoryEditsUptoSaid : Prop := historyEditsUptoRow.holds Try.pinned (OpenSpec.upto historyEditsSpec)

end Rows
end Go.Proofs.Ytpjkifbicfcajaa
