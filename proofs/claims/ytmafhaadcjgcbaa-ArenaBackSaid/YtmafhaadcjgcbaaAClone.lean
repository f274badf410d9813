import Derived.Test.YtmafhaadcjgcbaaALentI
import Derived.Lib.SliceRun
set_option linter.unusedSimpArgs false
set_option linter.unusedVariables false
namespace Go.Proofs.Ytmafhaadcjgcbaa
open Go Go.RowKit

set_option maxRecDepth 100000 in
set_option maxHeartbeats 800000 in
theorem cloneProps_any (S : Option Addr) (c : Nat) (l : List AProp) (w : World) (F : Nat → Prop) (hF : ∀ b, F b → b < w.heap.size) (h : RowOf 2 EProp w F S l) (hl : l.length * 32 ≤ 140737488351232) :
    Calls Try.prog 114 #[.slice S l.length c] w fun e w' => ∃ S' c', e = .returned (.slice S' l.length c') ∧ w'.ownsRow w.heap.size 85 2 (.slice S' l.length c') l.length (l.flatMap propCells) ∧ Below w.heap.size w w' := by
  have hnil := fun (w : World) (a : Option Addr) (n c n' c' : Nat) => Lib.run_eql_slice_nil (P := Try.prog) w 34 85 a n c n' c' Try.underlying34
  rcases S with _ | ad
  · obtain rfl := h.none_nil
    go_enter Try.func114, Try.ntmps114
    go_wp2
    go_ret
    exact ⟨none, 0, rfl, World.ownsRow_nil _ _ _ _, Below.refl _ _⟩
  · have HH := Lib.hid h
    have HC : Hid (∀ w', Below w.heap.size w w' → ∀ ad', some ad = some ad' → ∀ j u, (l.flatMap propCells)[j]? = some u → w'.cell? (ad'.add j) = some u) := Lib.hid (fun w' hb ad' hA => (RowOf.keep EProp.stays (F' := F) (Keep.below hb hF) (fun _ h => h) HH.out).cellsFrom propCells_len ad' hA)
    clear h
    go_enter Try.func114, Try.ntmps114
    go_wp2_with (at_builtin; refine wpList_append_from _ rfl (.tmp 5) (.tmp 6) 34 rfl w.heap.size 85 Try.underlying34 prop_info ?a1 ?a2 (.slice (some ⟨w.heap.size, 0, none⟩) 0 0) 0 [] ?a3 (World.ownsRow_made (base := w.heap.size) (e := 85) (size := 2) w #[] 0 (Nat.le_refl _) (Nat.zero_le _) rfl) (some ad) l.length c (l.flatMap propCells) ?a4 (flat_length propCells_len _) ?a5 (HC.out _ ((Below.refl w.heap.size w).alloc (Nat.le_refl _) (.cells #[] 85))) (flat_one propCells_one _) ?a6 ?a7 ?a8 ?a9)
    try (case a1 => rfl)
    try (case a2 => omega)
    try (case a3 => rfl)
    try (case a4 => rfl)
    try (case a5 => intro e; cases e)
    try (case a6 => unfold maxLen; omega)
    try (case a7 => omega)
    try (case a8 => simp)
    case a9 =>
      intro A' c' w' own' hg' _
      try simp only [Nat.zero_add, List.nil_append] at own'
      try simp only [Nat.zero_add, List.nil_append] at hg'
      have HO := Lib.hid own'
      have HB := Lib.hid (((Below.refl w.heap.size w).alloc (Nat.le_refl _) (.cells #[] 85)).grown hg' (by simp) (fun k e => by simp [Value.ownBlock] at e; omega))
      clear own' hg'
      go_wp2
      go_ret
      exact ⟨A', c', by simp, HO.out, HB.out⟩

set_option maxRecDepth 100000 in
set_option maxHeartbeats 800000 in
theorem cloneRefs_any (S : Option Addr) (c : Nat) (l : List ARef) (w : World) (F : Nat → Prop) (hF : ∀ b, F b → b < w.heap.size) (h : RowOf 2 ERef w F S l) (hl : l.length * 24 ≤ 140737488351232) :
    Calls Try.prog 115 #[.slice S l.length c] w fun e w' => ∃ S' c', e = .returned (.slice S' l.length c') ∧ w'.ownsRow w.heap.size 82 2 (.slice S' l.length c') l.length (l.flatMap refCells) ∧ Below w.heap.size w w' := by
  have hnil := fun (w : World) (a : Option Addr) (n c n' c' : Nat) => Lib.run_eql_slice_nil (P := Try.prog) w 36 82 a n c n' c' Try.underlying36
  rcases S with _ | ad
  · obtain rfl := h.none_nil
    go_enter Try.func115, Try.ntmps115
    go_wp2
    go_ret
    exact ⟨none, 0, rfl, World.ownsRow_nil _ _ _ _, Below.refl _ _⟩
  · have HH := Lib.hid h
    have HC : Hid (∀ w', Below w.heap.size w w' → ∀ ad', some ad = some ad' → ∀ j u, (l.flatMap refCells)[j]? = some u → w'.cell? (ad'.add j) = some u) := Lib.hid (fun w' hb ad' hA => (RowOf.keep ERef.stays (F' := F) (Keep.below hb hF) (fun _ h => h) HH.out).cellsFrom refCells_len ad' hA)
    clear h
    go_enter Try.func115, Try.ntmps115
    go_wp2_with (at_builtin; refine wpList_append_from _ rfl (.tmp 5) (.tmp 6) 36 rfl w.heap.size 82 Try.underlying36 ref_info ?a1 ?a2 (.slice (some ⟨w.heap.size, 0, none⟩) 0 0) 0 [] ?a3 (World.ownsRow_made (base := w.heap.size) (e := 82) (size := 2) w #[] 0 (Nat.le_refl _) (Nat.zero_le _) rfl) (some ad) l.length c (l.flatMap refCells) ?a4 (flat_length refCells_len _) ?a5 (HC.out _ ((Below.refl w.heap.size w).alloc (Nat.le_refl _) (.cells #[] 82))) (flat_one refCells_one _) ?a6 ?a7 ?a8 ?a9)
    try (case a1 => rfl)
    try (case a2 => omega)
    try (case a3 => rfl)
    try (case a4 => rfl)
    try (case a5 => intro e; cases e)
    try (case a6 => unfold maxLen; omega)
    try (case a7 => omega)
    try (case a8 => simp)
    case a9 =>
      intro A' c' w' own' hg' _
      try simp only [Nat.zero_add, List.nil_append] at own'
      try simp only [Nat.zero_add, List.nil_append] at hg'
      have HO := Lib.hid own'
      have HB := Lib.hid (((Below.refl w.heap.size w).alloc (Nat.le_refl _) (.cells #[] 82)).grown hg' (by simp) (fun k e => by simp [Value.ownBlock] at e; omega))
      clear own' hg'
      go_wp2
      go_ret
      exact ⟨A', c', by simp, HO.out, HB.out⟩
end Go.Proofs.Ytmafhaadcjgcbaa
