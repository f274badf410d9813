import Derived.Test.YtpjkifbicfcajaaALentI
import Derived.Lib.SliceRun
set_option linter.unusedSimpArgs false
set_option linter.unusedVariables false
namespace Go.Proofs.Ytpjkifbicfcajaa
open Go Go.RowKit
theorem hint_info : (Try.prog.info? 3).map (fun i => (i.zero, i.size, i.bytes)) = some (some (.int .i64 0), 1, 8) := by kernel_rfl

set_option maxRecDepth 100000 in
set_option maxHeartbeats 800000 in
theorem cloneN_any (S : Option Addr) (c n : Nat) (xs : List Value) (w : World) (hxs : xs.length = n * 7) (hn : S = none → n = 0) (h : ∀ ad, S = some ad → ∀ j u, xs[j]? = some u → w.cell? (ad.add j) = some u) (hF : ∀ ad, S = some ad → 0 < n → ad.block < w.heap.size) (h1 : ∀ u ∈ xs, u.oneCell' = true) (hl : n * 120 ≤ 140737488351232) :
    Calls Try.prog 65 #[.slice S n c] w fun e w' => ∃ S' c', e = .returned (.slice S' n c') ∧ w'.ownsRow w.heap.size 79 7 (.slice S' n c') n xs ∧ Below w.heap.size w w' := by
  have hnil := fun (w : World) (a : Option Addr) (n c n' c' : Nat) => Lib.run_eql_slice_nil (P := Try.prog) w 25 79 a n c n' c' Try.underlying25
  rcases S with _ | ad
  · obtain rfl := hn rfl
    obtain rfl : xs = [] := List.eq_nil_of_length_eq_zero (by simpa using hxs)
    go_enter Try.func65, Try.ntmps65
    go_wp2
    go_ret
    exact ⟨none, 0, rfl, World.ownsRow_nil _ _ _ _, Below.refl _ _⟩
  · have HC : Hid (∀ w', Below w.heap.size w w' → ∀ ad', some ad = some ad' → ∀ j u, xs[j]? = some u → w'.cell? (ad'.add j) = some u) := Lib.hid (fun w' hb ad' hA j u hu => by
      have hj : j < xs.length := (List.getElem?_eq_some_iff.1 hu).1
      have hn0 : 0 < n := Nat.pos_of_ne_zero (fun h0 => by subst h0; simp at hxs; subst hxs; simp at hj)
      rw [← h ad' hA j u hu]
      exact hb.cell (p := ad'.add j) (by rw [show (ad'.add j).block = ad'.block from by unfold Addr.add; split <;> rfl]; exact hF ad' hA hn0))
    have H1 := Lib.hid h1; have HX := Lib.hid hxs
    clear h hF h1 hxs hn
    go_enter Try.func65, Try.ntmps65
    go_wp2_with (at_builtin; refine wpList_append_from _ rfl (.tmp 5) (.tmp 6) 25 rfl w.heap.size 79 Try.underlying25 node_info ?a1 ?a2 (.slice (some ⟨w.heap.size, 0, none⟩) 0 0) 0 [] ?a3 (World.ownsRow_made (base := w.heap.size) (e := 79) (size := 7) w #[] 0 (Nat.le_refl _) (Nat.zero_le _) rfl) (some ad) n c xs ?a4 HX.out ?a5 (HC.out _ ((Below.refl w.heap.size w).alloc (Nat.le_refl _) (.cells #[] 79))) H1.out ?a6 ?a7 ?a8 ?a9)
    try (case a1 => rfl)
    try (case a2 => omega)
    try (case a3 => rfl)
    try (case a4 => rfl)
    try (case a5 => intro e; cases e)
    try (case a6 => unfold maxLen; omega)
    try (case a7 => omega)
    try (case a8 => simp)
    case a9 =>
      intro A' c' w' own' hg' _
      try simp only [Nat.zero_add, List.nil_append] at own'
      try simp only [Nat.zero_add, List.nil_append] at hg'
      have HO := Lib.hid own'
      have HB := Lib.hid (((Below.refl w.heap.size w).alloc (Nat.le_refl _) (.cells #[] 79)).grown hg' (by simp) (fun k e => by simp [Value.ownBlock] at e; omega))
      clear own' hg'
      go_wp2
      go_ret
      exact ⟨A', c', by simp, HO.out, HB.out⟩

set_option maxRecDepth 100000 in
set_option maxHeartbeats 800000 in
theorem cloneI_any (S : Option Addr) (c n : Nat) (xs : List Value) (w : World) (hxs : xs.length = n * 1) (hn : S = none → n = 0) (h : ∀ ad, S = some ad → ∀ j u, xs[j]? = some u → w.cell? (ad.add j) = some u) (hF : ∀ ad, S = some ad → 0 < n → ad.block < w.heap.size) (h1 : ∀ u ∈ xs, u.oneCell' = true) (hl : n * 8 ≤ 140737488351232) :
    Calls Try.prog 67 #[.slice S n c] w fun e w' => ∃ S' c', e = .returned (.slice S' n c') ∧ w'.ownsRow w.heap.size 3 1 (.slice S' n c') n xs ∧ Below w.heap.size w w' := by
  have hnil := fun (w : World) (a : Option Addr) (n c n' c' : Nat) => Lib.run_eql_slice_nil (P := Try.prog) w 54 3 a n c n' c' Try.underlying54
  rcases S with _ | ad
  · obtain rfl := hn rfl
    obtain rfl : xs = [] := List.eq_nil_of_length_eq_zero (by simpa using hxs)
    go_enter Try.func67, Try.ntmps67
    go_wp2
    go_ret
    exact ⟨none, 0, rfl, World.ownsRow_nil _ _ _ _, Below.refl _ _⟩
  · have HC : Hid (∀ w', Below w.heap.size w w' → ∀ ad', some ad = some ad' → ∀ j u, xs[j]? = some u → w'.cell? (ad'.add j) = some u) := Lib.hid (fun w' hb ad' hA j u hu => by
      have hj : j < xs.length := (List.getElem?_eq_some_iff.1 hu).1
      have hn0 : 0 < n := Nat.pos_of_ne_zero (fun h0 => by subst h0; simp at hxs; subst hxs; simp at hj)
      rw [← h ad' hA j u hu]
      exact hb.cell (p := ad'.add j) (by rw [show (ad'.add j).block = ad'.block from by unfold Addr.add; split <;> rfl]; exact hF ad' hA hn0))
    have H1 := Lib.hid h1; have HX := Lib.hid hxs
    clear h hF h1 hxs hn
    go_enter Try.func67, Try.ntmps67
    go_wp2_with (at_builtin; refine wpList_append_from _ rfl (.tmp 5) (.tmp 6) 54 rfl w.heap.size 3 Try.underlying54 hint_info ?a1 ?a2 (.slice (some ⟨w.heap.size, 0, none⟩) 0 0) 0 [] ?a3 (World.ownsRow_made (base := w.heap.size) (e := 3) (size := 1) w #[] 0 (Nat.le_refl _) (Nat.zero_le _) rfl) (some ad) n c xs ?a4 HX.out ?a5 (HC.out _ ((Below.refl w.heap.size w).alloc (Nat.le_refl _) (.cells #[] 3))) H1.out ?a6 ?a7 ?a8 ?a9)
    try (case a1 => rfl)
    try (case a2 => omega)
    try (case a3 => rfl)
    try (case a4 => rfl)
    try (case a5 => intro e; cases e)
    try (case a6 => unfold maxLen; omega)
    try (case a7 => omega)
    try (case a8 => simp)
    case a9 =>
      intro A' c' w' own' hg' _
      try simp only [Nat.zero_add, List.nil_append] at own'
      try simp only [Nat.zero_add, List.nil_append] at hg'
      have HO := Lib.hid own'
      have HB := Lib.hid (((Below.refl w.heap.size w).alloc (Nat.le_refl _) (.cells #[] 3)).grown hg' (by simp) (fun k e => by simp [Value.ownBlock] at e; omega))
      clear own' hg'
      go_wp2
      go_ret
      exact ⟨A', c', by simp, HO.out, HB.out⟩
end Go.Proofs.Ytpjkifbicfcajaa
