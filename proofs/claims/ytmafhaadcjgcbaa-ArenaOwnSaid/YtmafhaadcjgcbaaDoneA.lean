import Derived.Test.YtmafhaadcjgcbaaCopyK
import Derived.Test.YtmafhaadcjgcbaaALentI
import Derived.Deep.RegionLaw
import Derived.Test.YtmafhaadcjgcbaaSetP
import Derived.Test.YtmafhaadcjgcbaaTwinA
import Derived.Test.YtmafhaadcjgcbaaAOrder
import Derived.Test.YtmafhaadcjgcbaaAddP
import Derived.Test.YtmafhaadcjgcbaaHang
import Derived.Test.YtmafhaadcjgcbaaRemoveP
import Derived.Test.YtmafhaadcjgcbaaMove
import Derived.Test.YtmafhaadcjgcbaaRegZ
import Derived.Test.YtmafhaadcjgcbaaDoneP
import Derived.Test.YtmafhaadcjgcbaaMemN
import Derived.Test.YtmafhaadcjgcbaaCopyA
import Derived.Test.YtmafhaadcjgcbaaATellsA
import Derived.Lib.QuietBelow
import Derived.Deep.CutBlock
set_option linter.unusedSimpArgs false
set_option linter.unusedVariables false
section
namespace Go.Proofs.Ytmafhaadcjgcbaa
open Go Go.RowKit

theorem insProp_ar (l : List AProp) (n c : Nat) (hn : l.length = n) (hc : c ≤ maxLen) : c ≤ 9223372036854775807 := by unfold maxLen at hc; omega
set_option maxRecDepth 100000 in
set_option maxHeartbeats 4000000 in
theorem insProp_end (v : Value) (l : List AProp) (i : Nat) (y : AProp) (g : Nat) (w : World) (base : Nat) (hown : w.ownsRow base 85 2 v l.length (l.flatMap propCells)) (hg : Blk w g 85 (propCells y).toArray) (hne : v.ownBlock ≠ some g) (hlen : l.length ≤ 4398046511000) (hb : base ≤ w.heap.size) (hi : i = l.length) :
    Calls Try.prog 89 #[v, .int .i64 i, .slice (some ⟨g, 0, none⟩) 1 1] w fun e w' => ∃ v', e = .returned v' ∧ w'.ownsRow base 85 2 v' (l.length + 1) ((insAt l i y).flatMap propCells) ∧ w.grownBy w' v.ownBlock ∧ (v'.ownBlock = v.ownBlock ∨ ∃ b, v'.ownBlock = some b ∧ w.heap.size ≤ b) := by
  subst hi
  obtain ⟨n, hn⟩ : ∃ n, l.length = n := ⟨_, rfl⟩
  have hcells : ∀ ad, (some ⟨g, 0, none⟩ : Option Addr) = some ad → ∀ j u, (propCells y)[j]? = some u → w.cell? (ad.add j) = some u := fun ad e j u hu => by cases e; exact news_cells hg j u (by simpa using hu)
  have H := Lib.hid hown
  have HIN : Hid ((insAt l n y).flatMap propCells = l.flatMap propCells ++ propCells y) := Lib.hid (by rw [← hn, insAt_end, List.flatMap_append]; simp)
  rw [hn] at hlen
  clear hne
  rcases hown.2 with ⟨rfl, h0⟩ | ⟨b, cap, cur, rfl, hbb, hh, hnc, hcm, hsz, ht⟩
  · rw [hn] at h0
    subst h0
    rw [hn] at H ⊢
    clear hown hn
    go_enter Try.func89, Try.ntmps89
    go_wp2_with (at_builtin; refine wpList_append_from w rfl (.tmp 23) (.tmp 24) 34 rfl base 85 Try.underlying34 prop_info rfl (by omega) (.slice none 0 0) 0 (l.flatMap propCells) rfl H.out (some ⟨g, 0, none⟩) 1 1 (propCells y) rfl rfl (by simp) hcells (propCells_one y) (by unfold maxLen; omega) (by omega) hb ?_)
    all_goals
      intro A' c' w' own hgr hat
      have HO := Lib.hid own; have HG := Lib.hid hgr
      have HA : Hid ((Value.slice A' (0 + 1) c').ownBlock = (Value.slice none 0 0).ownBlock ∨ ∃ b, (Value.slice A' (0 + 1) c').ownBlock = some b ∧ w.heap.size ≤ b) := Lib.hid (hat.imp id fun e => ⟨_, e, Nat.le_refl _⟩)
      clear own hgr hat
      go_wp2
      go_ret
      exact ⟨_, rfl, by rw [HIN.out]; exact HO.out, HG.out, HA.out⟩
  · have hcm' := insProp_ar l n cap hn hcm
    rw [hn] at hnc H ⊢
    clear hown hh hsz ht hcm
    have hn0 : (0 : Int) ≤ n := by omega
    have hnn : n ≤ n := Nat.le_refl _
    by_cases hcn : cap = n
    all_goals
      go_enter Try.func89, Try.ntmps89
      go_wp2_with (at_builtin; refine wpList_append_from w rfl (.tmp 23) (.tmp 24) 34 rfl base 85 Try.underlying34 prop_info rfl (by omega) (.slice (some ⟨b, 0, none⟩) n cap) n (l.flatMap propCells) rfl H.out (some ⟨g, 0, none⟩) 1 1 (propCells y) rfl rfl (by simp) hcells (propCells_one y) (by unfold maxLen; omega) (by omega) hb ?_)
      all_goals
        intro A' c' w' own hgr hat
        have HO := Lib.hid own; have HG := Lib.hid hgr
        have HA : Hid ((Value.slice A' (n + 1) c').ownBlock = (Value.slice (some ⟨b, 0, none⟩) n cap).ownBlock ∨ ∃ q, (Value.slice A' (n + 1) c').ownBlock = some q ∧ w.heap.size ≤ q) := Lib.hid (hat.imp id fun e => ⟨_, e, Nat.le_refl _⟩)
        clear own hgr hat
        go_wp2
        go_ret
        exact ⟨_, rfl, by rw [HIN.out]; exact HO.out, HG.out, HA.out⟩

set_option maxRecDepth 100000 in
set_option maxHeartbeats 4000000 in
theorem insProp_shift (v : Value) (l : List AProp) (i : Nat) (y : AProp) (g : Nat) (w : World) (base : Nat) (hown : w.ownsRow base 85 2 v l.length (l.flatMap propCells)) (hg : Blk w g 85 (propCells y).toArray) (hne : v.ownBlock ≠ some g) (hlen : l.length ≤ 4398046511000) (hb : base ≤ w.heap.size) (hi : i < l.length) (b cap : Nat) (cur : Array Value) (hv : v = .slice (some ⟨b, 0, none⟩) l.length cap) (hh : Blk w b 85 cur) (hroom : l.length + 1 ≤ cap) (hcm : cap ≤ 9223372036854775807) (hsz : cur.size = cap * 2) (ht : cur.toList.take (l.length * 2) = l.flatMap propCells) (hbb : base ≤ b) :
    Calls Try.prog 89 #[v, .int .i64 i, .slice (some ⟨g, 0, none⟩) 1 1] w fun e w' => ∃ v', e = .returned v' ∧ w'.ownsRow base 85 2 v' (l.length + 1) ((insAt l i y).flatMap propCells) ∧ w.grownBy w' v.ownBlock ∧ (v'.ownBlock = v.ownBlock ∨ ∃ b, v'.ownBlock = some b ∧ w.heap.size ≤ b) := by
  obtain ⟨n, hn⟩ : ∃ n, l.length = n := ⟨_, rfl⟩
  have hgb : g ≠ b := fun e => hne (by rw [hv, e]; rfl)
  subst hv
  have HS := Lib.hid (shift_list (size := 2) (f := propCells) propCells_len (C := cur.toList) (cap := cap) hi ht (by simpa using hsz) hroom y)
  have hdl : ((l.drop i).flatMap propCells).length = (n - i) * 2 := by rw [flat_length propCells_len, List.length_drop, hn]
  have hil : (insAt l i y).length = n + 1 := by rw [insAt_len (by omega), hn]
  rw [hn] at hi hroom hlen ht HS ⊢
  have hin : i ≤ n := by omega
  have hz1 : ¬ ((i : Int) = (n : Int)) := by omega
  have hz2 : ¬ ((n : Int) + 1 > (cap : Int)) := by omega
  have hw1 : IntKind.i64.wrap ((n : Int) + 1) = (n : Int) + 1 := by rw [IntKind.wrap_i64]; omega
  have hw2 : IntKind.i64.wrap ((i : Int) + 1) = (i : Int) + 1 := by rw [IntKind.wrap_i64]; omega
  have hb1 : (0 : Int) ≤ (i : Int) + 1 := by omega
  have hb1' : (0 : Int) ≤ (n : Int) + 1 := by omega
  have htn : ((i : Int) + 1).toNat = i + 1 := by omega
  have htn' : ((n : Int) + 1).toNat = n + 1 := by omega
  have hb2 : ¬ (cap = i + 1) := by omega
  have hb3 : (i : Int) ≤ (n : Int) + 1 := by omega
  have hb4 : ¬ (cap = i) := by omega
  have hb5 : (n : Int) + 1 ≤ (cap : Int) := by omega
  have hb6 : (i : Int) + 1 ≤ (n : Int) + 1 := by omega
  have hb7 : (0 : Int) ≤ (i : Int) := by omega
  have hb8 : (i : Int) ≤ (n : Int) := by omega
  have hb9 : (0 : Int) ≤ (n : Int) := by omega
  have hsga : w.shape? g = some (85, 2) := by have := hg; unfold Blk at this; simp [World.shape?, this, propCells]
  have hsgb : w.shape? b = some (85, cap * 2) := by have := hh; unfold Blk at this; simp [World.shape?, this, hsz]
  have hov : ∀ lb cb, (callFunc 121 #[.slice (some ⟨g, 0, none⟩) 1 1, .slice (some ⟨b, (i + 1) * 2, none⟩) lb cb]).run Try.prog w = .ok (.value (.bool false)) w := fun lb cb => by
    rw [run_callFunc_extern Try.func121 (by kernel_rfl) (by kernel_rfl) (by kernel_rfl) (e := Extern.SlicesOverlaps.overlaps #[34, 34] #[4]) (by kernel_rfl),
      Lib.run_overlaps_apart w 34 4 85 Try.underlying34 2 (fun w => by obtain ⟨i0, hi0, _, hs0, _⟩ := info_parts prop_info; simp [sizeOf, typeInfo, hi0, hs0]) ⟨g, 0, none⟩ ⟨b, (i + 1) * 2, none⟩ 1 1 lb cb hgb 85 85 2 (cap * 2) hsga hsgb (by omega) (hg.frozen 0) (hg.frozen 2)]
    rfl
  have HG := Lib.hid hg; have HH := Lib.hid hh; have HSZ := Lib.hid hsz; have HT := Lib.hid ht; have HDL := Lib.hid hdl; have HIL := Lib.hid hil
  have hsc : cur.toList.length = cap * 2 := by simpa using hsz
  have hsrc : ∀ j u, ((l.drop i).flatMap propCells)[j]? = some u → w.cell? ((⟨b, i * 2, none⟩ : Addr).add j) = some u := fun j u hu => by
    rw [← flat_drop propCells_len, List.getElem?_drop, ← ht, List.getElem?_take] at hu
    rw [add_some, hh.cell]
    split at hu
    · simpa using hu
    · cases hu
  have HSRC := Lib.hid hsrc
  have hfit : (i + 1) * 2 + (n - i) * 2 ≤ cap * 2 := by rw [← Nat.add_mul]; exact Nat.mul_le_mul_right _ (by omega)
  have hfit2 : i * 2 + 2 ≤ cap * 2 := by have : (i + 1) * 2 ≤ cap * 2 := Nat.mul_le_mul_right _ (by omega); omega
  have HMIN : Hid (n - i = Nat.min (n + 1 - i) (n + 1 - (i + 1))) := Lib.hid (by simp only [Nat.min_def]; split <;> omega)
  clear hg hh hsz ht hdl hil hne hsga hsgb hsrc
  go_enter Try.func89, Try.ntmps89
  go_wp2_with (simp only [hov])
  go_region_law (refine step_copyK rfl (.tmp 73) (.tmp 76) 34 34 rfl 85 Try.underlying34 2 (by kernel_rfl) (n - i) b ((i + 1) * 2) (n + 1 - (i + 1)) (cap - (i + 1)) ⟨b, i * 2, none⟩ (n + 1 - i) (cap - i) (by simp [Act.eval, Act.put]) (by simp [Act.eval, Act.put]) cur 85 HH.out.drew ((l.drop i).flatMap propCells) HMIN.out HDL.out HSRC.out (by rw [HDL.out, HSZ.out]; omega) (flat_one propCells_one _) ?_; intro w1 HX1 HG1)
  have HGV := Lib.hid (HG.out.drew.grown HG1.out (fun e => hgb (by injection e)))
  have HX1S : Hid ((lay cur ((i + 1) * 2) ((l.drop i).flatMap propCells)).size = cap * 2) := Lib.hid (by rw [lay_size (by rw [HDL.out, HSZ.out]; omega), HSZ.out])
  have HMIN2 : Hid (1 = Nat.min 1 (n + 1 - i)) := Lib.hid (by simp only [Nat.min_def]; split <;> omega)
  go_wp2_with (refine wpList_copyK _ rfl (.tmp 80) (.tmp 81) 34 34 rfl 85 Try.underlying34 2 (by kernel_rfl) 1 b (i * 2) (n + 1 - i) (cap - i) ⟨g, 0, none⟩ 1 1 rfl rfl (lay cur ((i + 1) * 2) ((l.drop i).flatMap propCells)) 85 HX1.out (propCells y) HMIN2.out rfl (fun j u hu => news_cells HGV.out j u (by simpa using hu)) (by rw [HX1S.out]; show i * 2 + 2 ≤ cap * 2; omega) (propCells_one y) ?_)
  intro w2 HX2 HG2
  have HEND : Hid (w2.ownsRow base 85 2 (.slice (some ⟨b, 0, none⟩) (n + 1) cap) (n + 1) ((insAt l i y).flatMap propCells)) := Lib.hid ⟨by rw [flat_length propCells_len, HIL.out], .inr ⟨b, cap, _, rfl, hbb, HX2.out, hroom, by unfold maxLen; omega, by rw [lay_size (by rw [HX1S.out]; show i * 2 + 2 ≤ cap * 2; omega), HX1S.out], by
    have h := HS.out
    rw [lay_list, lay_list]
    (try simp only [Nat.mul_one] at h ⊢)
    exact h⟩⟩
  have HGR := Lib.hid (grown_trans (grown_trans (grown_drew w _) HG1.out) HG2.out)
  go_wp2
  go_ret
  exact ⟨_, rfl, HEND.out, HGR.out, .inl rfl⟩

set_option maxRecDepth 100000 in
set_option maxHeartbeats 4000000 in
theorem insProp_grow (v : Value) (l : List AProp) (i : Nat) (y : AProp) (g : Nat) (w : World) (base : Nat) (hown : w.ownsRow base 85 2 v l.length (l.flatMap propCells)) (hg : Blk w g 85 (propCells y).toArray) (hne : v.ownBlock ≠ some g) (hlen : l.length ≤ 4398046511000) (hb : base ≤ w.heap.size) (hi : i < l.length) (b cap : Nat) (cur : Array Value) (hv : v = .slice (some ⟨b, 0, none⟩) l.length cap) (hh : Blk w b 85 cur) (hnc : l.length ≤ cap) (hroom : cap < l.length + 1) (ht : cur.toList.take (l.length * 2) = l.flatMap propCells) :
    Calls Try.prog 89 #[v, .int .i64 i, .slice (some ⟨g, 0, none⟩) 1 1] w fun e w' => ∃ v', e = .returned v' ∧ w'.ownsRow base 85 2 v' (l.length + 1) ((insAt l i y).flatMap propCells) ∧ w.grownBy w' v.ownBlock ∧ (v'.ownBlock = v.ownBlock ∨ ∃ b, v'.ownBlock = some b ∧ w.heap.size ≤ b) := by
  obtain ⟨n, hn⟩ : ∃ n, l.length = n := ⟨_, rfl⟩
  subst hv
  obtain rfl : cap = l.length := by omega
  have hbw := hh.lt
  have hgw := hg.lt
  have hdl : ((l.drop i).flatMap propCells).length = (n - i) * 2 := by rw [flat_length propCells_len, List.length_drop, hn]
  have hil : (insAt l i y).length = n + 1 := by rw [insAt_len (by omega), hn]
  have HTK : Hid (((l.take i).flatMap propCells).length = i * 2) := Lib.hid (by rw [flat_length propCells_len, List.length_take, Nat.min_eq_left (by omega)])
  have HGL : Hid (∀ (Z : List Value) (G : Nat), l.length + 1 ≤ G → Z.length = (G - i) * 2 → _) := Lib.hid (fun Z G h1 h2 => grow_list (size := 2) (f := propCells) propCells_len (l := l) (Z := Z) (i := i) (G := G) hi h1 h2 y (R := (l.take i).flatMap propCells ++ Z) rfl)
  rw [hn] at hi hlen ht HGL hroom ⊢
  obtain ⟨i0, hi0, hz0, hzs, hzb⟩ := info_parts prop_info
  have hik : i + (n + 1 - i) = n + 1 := by omega
  have hkk : (n : Int) + 1 - (i : Int) = ((n + 1 - i : Nat) : Int) := by omega
  have hsrcb : ∀ j u, (l.flatMap propCells)[j]? = some u → w.cell? ⟨b, j, none⟩ = some u := fun j u hu => by
    rw [← ht, List.getElem?_take] at hu
    rw [hh.cell]
    split at hu
    · simpa using hu
    · cases hu
  have hold : (Builtin.firstCells i0.size i (.slice (some ⟨b, 0, none⟩) i n)).run Try.prog w.drew = .ok ((l.take i).flatMap propCells).toArray w.drew := by
    rw [hzs]
    refine run_firstCells_some w.drew 2 i ⟨b, 0, none⟩ i n _ HTK.out (fun j u hj => ?_)
    rw [add_some, Nat.zero_add]
    rw [← flat_take propCells_len, List.getElem?_take] at hj
    by_cases hji : j < i * 2
    · rw [if_pos hji] at hj; exact hsrcb j u hj
    · rw [if_neg hji] at hj; cases hj
  have hrz : ∀ ty, (Builtin.append_ #[34, 3] ty #[.slice (some ⟨b, 0, none⟩) i n, .int .i64 ((n : Int) + 1 - (i : Int))]).run Try.prog w = .ok (.slice (some ⟨w.heap.size, 0, none⟩) (n + 1) (grownCap w (n + 1) n 85)) (w.drew.alloc (.cells (((l.take i).flatMap propCells).toArray ++ Builtin.zeroCells (Value.agg #[.string { data := #[] }, .string { data := #[] }]).cells (n + 1 - i) ++ Builtin.zeroCells (Value.agg #[.string { data := #[] }, .string { data := #[] }]).cells (grownCap w (n + 1) n 85 - (n + 1))) 85)) := fun ty => by
    have h := Lib.run_append_grow_zeros w 34 3 ty 85 i0 _ .i64 .i64 Try.underlying34 Try.underlying3 hi0 hz0 (some ⟨b, 0, none⟩) i n _ hold (n + 1 - i) (by omega) (by omega) (by omega) (by omega) (by rw [hzb]; omega) (by rw [hzb, hik]; exact growslice_fits hroom (by omega))
    rw [hik] at h
    rw [hkk]
    exact h
  obtain ⟨G, hG⟩ : ∃ G, grownCap w (n + 1) n 85 = G := ⟨_, rfl⟩
  have hGn : n + 1 ≤ G := by rw [← hG]; exact grownCap_ge w _ _ _
  have hG63 : G ≤ 9223372036854775807 := by
    have := grownCap_le_maxLen w (n + 1) n 85 (by unfold maxLen; omega)
    rw [hG] at this
    unfold maxLen at this
    omega
  simp only [hG] at hrz
  obtain ⟨ROW, hROW⟩ : ∃ ROW : Array Value, ((l.take i).flatMap propCells).toArray ++ Builtin.zeroCells (Value.agg #[.string { data := #[] }, .string { data := #[] }]).cells (n + 1 - i) ++ Builtin.zeroCells (Value.agg #[.string { data := #[] }, .string { data := #[] }]).cells (G - (n + 1)) = ROW := ⟨_, rfl⟩
  simp only [hROW] at hrz
  have HRL : Hid (ROW.toList = (l.take i).flatMap propCells ++ (Builtin.zeroCells (Value.agg #[.string { data := #[] }, .string { data := #[] }]).cells (n + 1 - i) ++ Builtin.zeroCells (Value.agg #[.string { data := #[] }, .string { data := #[] }]).cells (G - (n + 1))).toList) := Lib.hid (by rw [← hROW]; simp)
  have HZL : Hid ((Builtin.zeroCells (Value.agg #[.string { data := #[] }, .string { data := #[] }]).cells (n + 1 - i) ++ Builtin.zeroCells (Value.agg #[.string { data := #[] }, .string { data := #[] }]).cells (G - (n + 1))).toList.length = (G - i) * 2) := Lib.hid (by simp [Builtin.zeroCells, Value.cells]; omega)
  have HRS : Hid (ROW.size = G * 2) := Lib.hid (by
    have h : ROW.toList.length = i * 2 + (G - i) * 2 := by rw [HRL.out, List.length_append, HTK.out, HZL.out]
    have h2 : ROW.toList.length = ROW.size := rfl
    omega)
  have HRZ := Lib.hid hrz
  have HG := Lib.hid hg; have HH := Lib.hid hh; have HDL := Lib.hid hdl; have HIL := Lib.hid hil; have HSB := Lib.hid hsrcb
  have HMIN : Hid (n - i = Nat.min (n - i) (n + 1 - (i + 1))) := Lib.hid (by simp only [Nat.min_def]; split <;> omega)
  have HMIN2 : Hid (1 = Nat.min 1 (n + 1 - i)) := Lib.hid (by simp only [Nat.min_def]; split <;> omega)
  clear hg hh hdl hil hne hsrcb hrz hROW hG hold hi0 hz0 hzs hzb hkk hik ht hroom
  have hin : i ≤ n := by omega
  have hz1 : ¬ ((i : Int) = (n : Int)) := by omega
  have hz2 : (n : Int) < (n : Int) + 1 := by omega
  have hw1 : IntKind.i64.wrap ((n : Int) + 1) = (n : Int) + 1 := by rw [IntKind.wrap_i64]; omega
  have hw2 : IntKind.i64.wrap ((i : Int) + 1) = (i : Int) + 1 := by rw [IntKind.wrap_i64]; omega
  have hw3 : IntKind.i64.wrap ((n : Int) + 1 - (i : Int)) = (n : Int) + 1 - (i : Int) := by rw [IntKind.wrap_i64]; omega
  have hb1 : (0 : Int) ≤ (i : Int) + 1 := by omega
  have htn : ((i : Int) + 1).toNat = i + 1 := by omega
  have hb2 : ¬ (G = i + 1) := by omega
  have hb3 : (i : Int) ≤ (n : Int) + 1 := by omega
  have hb4 : ¬ (n = i) := by omega
  have hb5 : ¬ (G = i) := by omega
  have hb6 : (i : Int) + 1 ≤ (n : Int) + 1 := by omega
  have hb7 : (0 : Int) ≤ (i : Int) := by omega
  have hb8 : (i : Int) ≤ (n : Int) := by omega
  go_enter Try.func89, Try.ntmps89
  go_wp2_with (at_builtin; refine wpList_append_new _ rfl _ _ 34 3 rfl _ _ rfl rfl 85 ROW (HRZ.out _) ?_)
  intro w1 HX1 HB1
  have HGV := Lib.hid (HG.out.below HB1.out hgw)
  go_wp2_with (refine wpList_copyK _ rfl (.tmp 43) (.tmp 44) 34 34 rfl 85 Try.underlying34 2 (by kernel_rfl) 1 w.heap.size (i * 2) (n + 1 - i) (G - i) ⟨g, 0, none⟩ 1 1 rfl rfl ROW 85 HX1.out (propCells y) HMIN2.out rfl (fun j u hu => news_cells HGV.out j u (by simpa using hu)) (by rw [HRS.out]; show i * 2 + 2 ≤ G * 2; omega) (propCells_one y) ?_)
  intro w2 HX2 HG2
  have HX2S : Hid ((lay ROW (i * 2) (propCells y)).size = G * 2) := Lib.hid (by rw [lay_size (by rw [HRS.out]; show i * 2 + 2 ≤ G * 2; omega), HRS.out])
  have HSRC : Hid (∀ j u, ((l.drop i).flatMap propCells)[j]? = some u → w2.cell? ((⟨b, i * 2, none⟩ : Addr).add j) = some u) := Lib.hid (fun j u hu => by
    rw [← flat_drop propCells_len, List.getElem?_drop] at hu
    rw [add_some]
    have h1 : w2.cell? ⟨b, i * 2 + j, none⟩ = w1.cell? ⟨b, i * 2 + j, none⟩ := World.cell?_of_block (HG2.out.block b (Nat.lt_of_lt_of_le hbw HB1.out.size) (fun e => by injection e with e; omega))
    rw [h1, HB1.out.cell (p := ⟨b, _, none⟩) hbw]
    exact HSB.out _ u (by simpa using hu))
  go_wp2
  go_region_law (refine step_copyK rfl (.tmp 50) (.tmp 53) 34 34 rfl 85 Try.underlying34 2 (by kernel_rfl) (n - i) w.heap.size ((i + 1) * 2) (n + 1 - (i + 1)) (G - (i + 1)) ⟨b, i * 2, none⟩ (n - i) (n - i) (by simp [Act.eval, Act.put]) (by simp [Act.eval, Act.put]) (lay ROW (i * 2) (propCells y)) 85 HX2.out.drew ((l.drop i).flatMap propCells) HMIN.out HDL.out HSRC.out (by rw [HDL.out, HX2S.out]; omega) (flat_one propCells_one _) ?_; intro w3 HX3 HG3)
  have HEND : Hid (w3.ownsRow base 85 2 (.slice (some ⟨w.heap.size, 0, none⟩) (n + 1) G) (n + 1) ((insAt l i y).flatMap propCells)) := Lib.hid ⟨by rw [flat_length propCells_len, HIL.out], .inr ⟨w.heap.size, G, _, rfl, hb, HX3.out, hGn, by unfold maxLen; omega, by rw [lay_size (by rw [HDL.out, HX2S.out]; omega), HX2S.out], by
    have h := HGL.out _ G hGn HZL.out
    rw [← HRL.out] at h
    rw [lay_list, lay_list]
    (try simp only [Nat.mul_one] at h ⊢)
    exact h⟩⟩
  have HGR : Hid (w.grownBy w3 (some b)) := Lib.hid (by
    have g2 := HG2.out; have g3 := HG3.out; have b1 := HB1.out
    exact ⟨g3.os.trans (g2.os.trans b1.os), g3.tape.trans (g2.tape.trans b1.tape), g3.output.trans (g2.output.trans b1.output), Nat.le_trans b1.size (Nat.le_trans g2.size g3.size), fun q hq _ =>
      (g3.block q (by have := g2.size; have := b1.size; show q < w2.heap.size; omega) (fun e => by injection e with e; omega)).trans ((g2.block q (by have := b1.size; omega) (fun e => by injection e with e; omega)).trans (b1.block q hq))⟩)
  go_wp2
  go_ret
  exact ⟨_, rfl, HEND.out, HGR.out, .inr ⟨_, rfl, Nat.le_refl _⟩⟩

theorem insProp_any (v : Value) (l : List AProp) (i : Nat) (y : AProp) (g : Nat) (w : World) (base : Nat) (hown : w.ownsRow base 85 2 v l.length (l.flatMap propCells)) (hg : Blk w g 85 (propCells y).toArray) (hne : v.ownBlock ≠ some g) (hlen : l.length ≤ 4398046511000) (hb : base ≤ w.heap.size) (hi : i ≤ l.length) :
    Calls Try.prog 89 #[v, .int .i64 i, .slice (some ⟨g, 0, none⟩) 1 1] w fun e w' => ∃ v', e = .returned v' ∧ w'.ownsRow base 85 2 v' (l.length + 1) ((insAt l i y).flatMap propCells) ∧ w.grownBy w' v.ownBlock ∧ (v'.ownBlock = v.ownBlock ∨ ∃ b, v'.ownBlock = some b ∧ w.heap.size ≤ b) := by
  by_cases he : i = l.length
  · exact insProp_end v l i y g w base hown hg hne hlen hb he
  · rcases hown.2 with ⟨rfl, h0⟩ | ⟨b, cap, cur, hv, hbb, hh, hnc, hcm, hsz, ht⟩
    · omega
    · by_cases hroom : l.length + 1 ≤ cap
      · exact insProp_shift v l i y g w base hown hg hne hlen hb (by omega) b cap cur hv hh hroom (by unfold maxLen at hcm; omega) hsz ht hbb
      · exact insProp_grow v l i y g w base hown hg hne hlen hb (by omega) b cap cur hv hh hnc (by omega) ht

theorem insRef_ar (l : List ARef) (n c : Nat) (hn : l.length = n) (hc : c ≤ maxLen) : c ≤ 9223372036854775807 := by unfold maxLen at hc; omega
set_option maxRecDepth 100000 in
set_option maxHeartbeats 4000000 in
theorem insRef_end (v : Value) (l : List ARef) (i : Nat) (y : ARef) (g : Nat) (w : World) (base : Nat) (hown : w.ownsRow base 82 2 v l.length (l.flatMap refCells)) (hg : Blk w g 82 (refCells y).toArray) (hne : v.ownBlock ≠ some g) (hlen : l.length ≤ 5864062014700) (hb : base ≤ w.heap.size) (hi : i = l.length) :
    Calls Try.prog 94 #[v, .int .i64 i, .slice (some ⟨g, 0, none⟩) 1 1] w fun e w' => ∃ v', e = .returned v' ∧ w'.ownsRow base 82 2 v' (l.length + 1) ((insAt l i y).flatMap refCells) ∧ w.grownBy w' v.ownBlock ∧ (v'.ownBlock = v.ownBlock ∨ ∃ b, v'.ownBlock = some b ∧ w.heap.size ≤ b) := by
  subst hi
  obtain ⟨n, hn⟩ : ∃ n, l.length = n := ⟨_, rfl⟩
  have hcells : ∀ ad, (some ⟨g, 0, none⟩ : Option Addr) = some ad → ∀ j u, (refCells y)[j]? = some u → w.cell? (ad.add j) = some u := fun ad e j u hu => by cases e; exact news_cells hg j u (by simpa using hu)
  have H := Lib.hid hown
  have HIN : Hid ((insAt l n y).flatMap refCells = l.flatMap refCells ++ refCells y) := Lib.hid (by rw [← hn, insAt_end, List.flatMap_append]; simp)
  rw [hn] at hlen
  clear hne
  rcases hown.2 with ⟨rfl, h0⟩ | ⟨b, cap, cur, rfl, hbb, hh, hnc, hcm, hsz, ht⟩
  · rw [hn] at h0
    subst h0
    rw [hn] at H ⊢
    clear hown hn
    go_enter Try.func94, Try.ntmps94
    go_wp2_with (at_builtin; refine wpList_append_from w rfl (.tmp 23) (.tmp 24) 36 rfl base 82 Try.underlying36 ref_info rfl (by omega) (.slice none 0 0) 0 (l.flatMap refCells) rfl H.out (some ⟨g, 0, none⟩) 1 1 (refCells y) rfl rfl (by simp) hcells (refCells_one y) (by unfold maxLen; omega) (by omega) hb ?_)
    all_goals
      intro A' c' w' own hgr hat
      have HO := Lib.hid own; have HG := Lib.hid hgr
      have HA : Hid ((Value.slice A' (0 + 1) c').ownBlock = (Value.slice none 0 0).ownBlock ∨ ∃ b, (Value.slice A' (0 + 1) c').ownBlock = some b ∧ w.heap.size ≤ b) := Lib.hid (hat.imp id fun e => ⟨_, e, Nat.le_refl _⟩)
      clear own hgr hat
      go_wp2
      go_ret
      exact ⟨_, rfl, by rw [HIN.out]; exact HO.out, HG.out, HA.out⟩
  · have hcm' := insRef_ar l n cap hn hcm
    rw [hn] at hnc H ⊢
    clear hown hh hsz ht hcm
    have hn0 : (0 : Int) ≤ n := by omega
    have hnn : n ≤ n := Nat.le_refl _
    by_cases hcn : cap = n
    all_goals
      go_enter Try.func94, Try.ntmps94
      go_wp2_with (at_builtin; refine wpList_append_from w rfl (.tmp 23) (.tmp 24) 36 rfl base 82 Try.underlying36 ref_info rfl (by omega) (.slice (some ⟨b, 0, none⟩) n cap) n (l.flatMap refCells) rfl H.out (some ⟨g, 0, none⟩) 1 1 (refCells y) rfl rfl (by simp) hcells (refCells_one y) (by unfold maxLen; omega) (by omega) hb ?_)
      all_goals
        intro A' c' w' own hgr hat
        have HO := Lib.hid own; have HG := Lib.hid hgr
        have HA : Hid ((Value.slice A' (n + 1) c').ownBlock = (Value.slice (some ⟨b, 0, none⟩) n cap).ownBlock ∨ ∃ q, (Value.slice A' (n + 1) c').ownBlock = some q ∧ w.heap.size ≤ q) := Lib.hid (hat.imp id fun e => ⟨_, e, Nat.le_refl _⟩)
        clear own hgr hat
        go_wp2
        go_ret
        exact ⟨_, rfl, by rw [HIN.out]; exact HO.out, HG.out, HA.out⟩

set_option maxRecDepth 100000 in
set_option maxHeartbeats 4000000 in
theorem insRef_shift (v : Value) (l : List ARef) (i : Nat) (y : ARef) (g : Nat) (w : World) (base : Nat) (hown : w.ownsRow base 82 2 v l.length (l.flatMap refCells)) (hg : Blk w g 82 (refCells y).toArray) (hne : v.ownBlock ≠ some g) (hlen : l.length ≤ 5864062014700) (hb : base ≤ w.heap.size) (hi : i < l.length) (b cap : Nat) (cur : Array Value) (hv : v = .slice (some ⟨b, 0, none⟩) l.length cap) (hh : Blk w b 82 cur) (hroom : l.length + 1 ≤ cap) (hcm : cap ≤ 9223372036854775807) (hsz : cur.size = cap * 2) (ht : cur.toList.take (l.length * 2) = l.flatMap refCells) (hbb : base ≤ b) :
    Calls Try.prog 94 #[v, .int .i64 i, .slice (some ⟨g, 0, none⟩) 1 1] w fun e w' => ∃ v', e = .returned v' ∧ w'.ownsRow base 82 2 v' (l.length + 1) ((insAt l i y).flatMap refCells) ∧ w.grownBy w' v.ownBlock ∧ (v'.ownBlock = v.ownBlock ∨ ∃ b, v'.ownBlock = some b ∧ w.heap.size ≤ b) := by
  obtain ⟨n, hn⟩ : ∃ n, l.length = n := ⟨_, rfl⟩
  have hgb : g ≠ b := fun e => hne (by rw [hv, e]; rfl)
  subst hv
  have HS := Lib.hid (shift_list (size := 2) (f := refCells) refCells_len (C := cur.toList) (cap := cap) hi ht (by simpa using hsz) hroom y)
  have hdl : ((l.drop i).flatMap refCells).length = (n - i) * 2 := by rw [flat_length refCells_len, List.length_drop, hn]
  have hil : (insAt l i y).length = n + 1 := by rw [insAt_len (by omega), hn]
  rw [hn] at hi hroom hlen ht HS ⊢
  have hin : i ≤ n := by omega
  have hz1 : ¬ ((i : Int) = (n : Int)) := by omega
  have hz2 : ¬ ((n : Int) + 1 > (cap : Int)) := by omega
  have hw1 : IntKind.i64.wrap ((n : Int) + 1) = (n : Int) + 1 := by rw [IntKind.wrap_i64]; omega
  have hw2 : IntKind.i64.wrap ((i : Int) + 1) = (i : Int) + 1 := by rw [IntKind.wrap_i64]; omega
  have hb1 : (0 : Int) ≤ (i : Int) + 1 := by omega
  have hb1' : (0 : Int) ≤ (n : Int) + 1 := by omega
  have htn : ((i : Int) + 1).toNat = i + 1 := by omega
  have htn' : ((n : Int) + 1).toNat = n + 1 := by omega
  have hb2 : ¬ (cap = i + 1) := by omega
  have hb3 : (i : Int) ≤ (n : Int) + 1 := by omega
  have hb4 : ¬ (cap = i) := by omega
  have hb5 : (n : Int) + 1 ≤ (cap : Int) := by omega
  have hb6 : (i : Int) + 1 ≤ (n : Int) + 1 := by omega
  have hb7 : (0 : Int) ≤ (i : Int) := by omega
  have hb8 : (i : Int) ≤ (n : Int) := by omega
  have hb9 : (0 : Int) ≤ (n : Int) := by omega
  have hsga : w.shape? g = some (82, 2) := by have := hg; unfold Blk at this; simp [World.shape?, this, refCells]
  have hsgb : w.shape? b = some (82, cap * 2) := by have := hh; unfold Blk at this; simp [World.shape?, this, hsz]
  have hov : ∀ lb cb, (callFunc 124 #[.slice (some ⟨g, 0, none⟩) 1 1, .slice (some ⟨b, (i + 1) * 2, none⟩) lb cb]).run Try.prog w = .ok (.value (.bool false)) w := fun lb cb => by
    rw [run_callFunc_extern Try.func124 (by kernel_rfl) (by kernel_rfl) (by kernel_rfl) (e := Extern.SlicesOverlaps.overlaps #[36, 36] #[4]) (by kernel_rfl),
      Lib.run_overlaps_apart w 36 4 82 Try.underlying36 2 (fun w => by obtain ⟨i0, hi0, _, hs0, _⟩ := info_parts ref_info; simp [sizeOf, typeInfo, hi0, hs0]) ⟨g, 0, none⟩ ⟨b, (i + 1) * 2, none⟩ 1 1 lb cb hgb 82 82 2 (cap * 2) hsga hsgb (by omega) (hg.frozen 0) (hg.frozen 2)]
    rfl
  have HG := Lib.hid hg; have HH := Lib.hid hh; have HSZ := Lib.hid hsz; have HT := Lib.hid ht; have HDL := Lib.hid hdl; have HIL := Lib.hid hil
  have hsc : cur.toList.length = cap * 2 := by simpa using hsz
  have hsrc : ∀ j u, ((l.drop i).flatMap refCells)[j]? = some u → w.cell? ((⟨b, i * 2, none⟩ : Addr).add j) = some u := fun j u hu => by
    rw [← flat_drop refCells_len, List.getElem?_drop, ← ht, List.getElem?_take] at hu
    rw [add_some, hh.cell]
    split at hu
    · simpa using hu
    · cases hu
  have HSRC := Lib.hid hsrc
  have hfit : (i + 1) * 2 + (n - i) * 2 ≤ cap * 2 := by rw [← Nat.add_mul]; exact Nat.mul_le_mul_right _ (by omega)
  have hfit2 : i * 2 + 2 ≤ cap * 2 := by have : (i + 1) * 2 ≤ cap * 2 := Nat.mul_le_mul_right _ (by omega); omega
  have HMIN : Hid (n - i = Nat.min (n + 1 - i) (n + 1 - (i + 1))) := Lib.hid (by simp only [Nat.min_def]; split <;> omega)
  clear hg hh hsz ht hdl hil hne hsga hsgb hsrc
  go_enter Try.func94, Try.ntmps94
  go_wp2_with (simp only [hov])
  go_region_law (refine step_copyK rfl (.tmp 73) (.tmp 76) 36 36 rfl 82 Try.underlying36 2 (by kernel_rfl) (n - i) b ((i + 1) * 2) (n + 1 - (i + 1)) (cap - (i + 1)) ⟨b, i * 2, none⟩ (n + 1 - i) (cap - i) (by simp [Act.eval, Act.put]) (by simp [Act.eval, Act.put]) cur 82 HH.out.drew ((l.drop i).flatMap refCells) HMIN.out HDL.out HSRC.out (by rw [HDL.out, HSZ.out]; omega) (flat_one refCells_one _) ?_; intro w1 HX1 HG1)
  have HGV := Lib.hid (HG.out.drew.grown HG1.out (fun e => hgb (by injection e)))
  have HX1S : Hid ((lay cur ((i + 1) * 2) ((l.drop i).flatMap refCells)).size = cap * 2) := Lib.hid (by rw [lay_size (by rw [HDL.out, HSZ.out]; omega), HSZ.out])
  have HMIN2 : Hid (1 = Nat.min 1 (n + 1 - i)) := Lib.hid (by simp only [Nat.min_def]; split <;> omega)
  go_wp2_with (refine wpList_copyK _ rfl (.tmp 80) (.tmp 81) 36 36 rfl 82 Try.underlying36 2 (by kernel_rfl) 1 b (i * 2) (n + 1 - i) (cap - i) ⟨g, 0, none⟩ 1 1 rfl rfl (lay cur ((i + 1) * 2) ((l.drop i).flatMap refCells)) 82 HX1.out (refCells y) HMIN2.out rfl (fun j u hu => news_cells HGV.out j u (by simpa using hu)) (by rw [HX1S.out]; show i * 2 + 2 ≤ cap * 2; omega) (refCells_one y) ?_)
  intro w2 HX2 HG2
  have HEND : Hid (w2.ownsRow base 82 2 (.slice (some ⟨b, 0, none⟩) (n + 1) cap) (n + 1) ((insAt l i y).flatMap refCells)) := Lib.hid ⟨by rw [flat_length refCells_len, HIL.out], .inr ⟨b, cap, _, rfl, hbb, HX2.out, hroom, by unfold maxLen; omega, by rw [lay_size (by rw [HX1S.out]; show i * 2 + 2 ≤ cap * 2; omega), HX1S.out], by
    have h := HS.out
    rw [lay_list, lay_list]
    (try simp only [Nat.mul_one] at h ⊢)
    exact h⟩⟩
  have HGR := Lib.hid (grown_trans (grown_trans (grown_drew w _) HG1.out) HG2.out)
  go_wp2
  go_ret
  exact ⟨_, rfl, HEND.out, HGR.out, .inl rfl⟩

set_option maxRecDepth 100000 in
set_option maxHeartbeats 4000000 in
theorem insRef_grow (v : Value) (l : List ARef) (i : Nat) (y : ARef) (g : Nat) (w : World) (base : Nat) (hown : w.ownsRow base 82 2 v l.length (l.flatMap refCells)) (hg : Blk w g 82 (refCells y).toArray) (hne : v.ownBlock ≠ some g) (hlen : l.length ≤ 5864062014700) (hb : base ≤ w.heap.size) (hi : i < l.length) (b cap : Nat) (cur : Array Value) (hv : v = .slice (some ⟨b, 0, none⟩) l.length cap) (hh : Blk w b 82 cur) (hnc : l.length ≤ cap) (hroom : cap < l.length + 1) (ht : cur.toList.take (l.length * 2) = l.flatMap refCells) :
    Calls Try.prog 94 #[v, .int .i64 i, .slice (some ⟨g, 0, none⟩) 1 1] w fun e w' => ∃ v', e = .returned v' ∧ w'.ownsRow base 82 2 v' (l.length + 1) ((insAt l i y).flatMap refCells) ∧ w.grownBy w' v.ownBlock ∧ (v'.ownBlock = v.ownBlock ∨ ∃ b, v'.ownBlock = some b ∧ w.heap.size ≤ b) := by
  obtain ⟨n, hn⟩ : ∃ n, l.length = n := ⟨_, rfl⟩
  subst hv
  obtain rfl : cap = l.length := by omega
  have hbw := hh.lt
  have hgw := hg.lt
  have hdl : ((l.drop i).flatMap refCells).length = (n - i) * 2 := by rw [flat_length refCells_len, List.length_drop, hn]
  have hil : (insAt l i y).length = n + 1 := by rw [insAt_len (by omega), hn]
  have HTK : Hid (((l.take i).flatMap refCells).length = i * 2) := Lib.hid (by rw [flat_length refCells_len, List.length_take, Nat.min_eq_left (by omega)])
  have HGL : Hid (∀ (Z : List Value) (G : Nat), l.length + 1 ≤ G → Z.length = (G - i) * 2 → _) := Lib.hid (fun Z G h1 h2 => grow_list (size := 2) (f := refCells) refCells_len (l := l) (Z := Z) (i := i) (G := G) hi h1 h2 y (R := (l.take i).flatMap refCells ++ Z) rfl)
  rw [hn] at hi hlen ht HGL hroom ⊢
  obtain ⟨i0, hi0, hz0, hzs, hzb⟩ := info_parts ref_info
  have hik : i + (n + 1 - i) = n + 1 := by omega
  have hkk : (n : Int) + 1 - (i : Int) = ((n + 1 - i : Nat) : Int) := by omega
  have hsrcb : ∀ j u, (l.flatMap refCells)[j]? = some u → w.cell? ⟨b, j, none⟩ = some u := fun j u hu => by
    rw [← ht, List.getElem?_take] at hu
    rw [hh.cell]
    split at hu
    · simpa using hu
    · cases hu
  have hold : (Builtin.firstCells i0.size i (.slice (some ⟨b, 0, none⟩) i n)).run Try.prog w.drew = .ok ((l.take i).flatMap refCells).toArray w.drew := by
    rw [hzs]
    refine run_firstCells_some w.drew 2 i ⟨b, 0, none⟩ i n _ HTK.out (fun j u hj => ?_)
    rw [add_some, Nat.zero_add]
    rw [← flat_take refCells_len, List.getElem?_take] at hj
    by_cases hji : j < i * 2
    · rw [if_pos hji] at hj; exact hsrcb j u hj
    · rw [if_neg hji] at hj; cases hj
  have hrz : ∀ ty, (Builtin.append_ #[36, 3] ty #[.slice (some ⟨b, 0, none⟩) i n, .int .i64 ((n : Int) + 1 - (i : Int))]).run Try.prog w = .ok (.slice (some ⟨w.heap.size, 0, none⟩) (n + 1) (grownCap w (n + 1) n 82)) (w.drew.alloc (.cells (((l.take i).flatMap refCells).toArray ++ Builtin.zeroCells (Value.agg #[.string { data := #[] }, .int .i64 0]).cells (n + 1 - i) ++ Builtin.zeroCells (Value.agg #[.string { data := #[] }, .int .i64 0]).cells (grownCap w (n + 1) n 82 - (n + 1))) 82)) := fun ty => by
    have h := Lib.run_append_grow_zeros w 36 3 ty 82 i0 _ .i64 .i64 Try.underlying36 Try.underlying3 hi0 hz0 (some ⟨b, 0, none⟩) i n _ hold (n + 1 - i) (by omega) (by omega) (by omega) (by omega) (by rw [hzb]; omega) (by rw [hzb, hik]; exact growslice_fits hroom (by omega))
    rw [hik] at h
    rw [hkk]
    exact h
  obtain ⟨G, hG⟩ : ∃ G, grownCap w (n + 1) n 82 = G := ⟨_, rfl⟩
  have hGn : n + 1 ≤ G := by rw [← hG]; exact grownCap_ge w _ _ _
  have hG63 : G ≤ 9223372036854775807 := by
    have := grownCap_le_maxLen w (n + 1) n 82 (by unfold maxLen; omega)
    rw [hG] at this
    unfold maxLen at this
    omega
  simp only [hG] at hrz
  obtain ⟨ROW, hROW⟩ : ∃ ROW : Array Value, ((l.take i).flatMap refCells).toArray ++ Builtin.zeroCells (Value.agg #[.string { data := #[] }, .int .i64 0]).cells (n + 1 - i) ++ Builtin.zeroCells (Value.agg #[.string { data := #[] }, .int .i64 0]).cells (G - (n + 1)) = ROW := ⟨_, rfl⟩
  simp only [hROW] at hrz
  have HRL : Hid (ROW.toList = (l.take i).flatMap refCells ++ (Builtin.zeroCells (Value.agg #[.string { data := #[] }, .int .i64 0]).cells (n + 1 - i) ++ Builtin.zeroCells (Value.agg #[.string { data := #[] }, .int .i64 0]).cells (G - (n + 1))).toList) := Lib.hid (by rw [← hROW]; simp)
  have HZL : Hid ((Builtin.zeroCells (Value.agg #[.string { data := #[] }, .int .i64 0]).cells (n + 1 - i) ++ Builtin.zeroCells (Value.agg #[.string { data := #[] }, .int .i64 0]).cells (G - (n + 1))).toList.length = (G - i) * 2) := Lib.hid (by simp [Builtin.zeroCells, Value.cells]; omega)
  have HRS : Hid (ROW.size = G * 2) := Lib.hid (by
    have h : ROW.toList.length = i * 2 + (G - i) * 2 := by rw [HRL.out, List.length_append, HTK.out, HZL.out]
    have h2 : ROW.toList.length = ROW.size := rfl
    omega)
  have HRZ := Lib.hid hrz
  have HG := Lib.hid hg; have HH := Lib.hid hh; have HDL := Lib.hid hdl; have HIL := Lib.hid hil; have HSB := Lib.hid hsrcb
  have HMIN : Hid (n - i = Nat.min (n - i) (n + 1 - (i + 1))) := Lib.hid (by simp only [Nat.min_def]; split <;> omega)
  have HMIN2 : Hid (1 = Nat.min 1 (n + 1 - i)) := Lib.hid (by simp only [Nat.min_def]; split <;> omega)
  clear hg hh hdl hil hne hsrcb hrz hROW hG hold hi0 hz0 hzs hzb hkk hik ht hroom
  have hin : i ≤ n := by omega
  have hz1 : ¬ ((i : Int) = (n : Int)) := by omega
  have hz2 : (n : Int) < (n : Int) + 1 := by omega
  have hw1 : IntKind.i64.wrap ((n : Int) + 1) = (n : Int) + 1 := by rw [IntKind.wrap_i64]; omega
  have hw2 : IntKind.i64.wrap ((i : Int) + 1) = (i : Int) + 1 := by rw [IntKind.wrap_i64]; omega
  have hw3 : IntKind.i64.wrap ((n : Int) + 1 - (i : Int)) = (n : Int) + 1 - (i : Int) := by rw [IntKind.wrap_i64]; omega
  have hb1 : (0 : Int) ≤ (i : Int) + 1 := by omega
  have htn : ((i : Int) + 1).toNat = i + 1 := by omega
  have hb2 : ¬ (G = i + 1) := by omega
  have hb3 : (i : Int) ≤ (n : Int) + 1 := by omega
  have hb4 : ¬ (n = i) := by omega
  have hb5 : ¬ (G = i) := by omega
  have hb6 : (i : Int) + 1 ≤ (n : Int) + 1 := by omega
  have hb7 : (0 : Int) ≤ (i : Int) := by omega
  have hb8 : (i : Int) ≤ (n : Int) := by omega
  go_enter Try.func94, Try.ntmps94
  go_wp2_with (at_builtin; refine wpList_append_new _ rfl _ _ 36 3 rfl _ _ rfl rfl 82 ROW (HRZ.out _) ?_)
  intro w1 HX1 HB1
  have HGV := Lib.hid (HG.out.below HB1.out hgw)
  go_wp2_with (refine wpList_copyK _ rfl (.tmp 43) (.tmp 44) 36 36 rfl 82 Try.underlying36 2 (by kernel_rfl) 1 w.heap.size (i * 2) (n + 1 - i) (G - i) ⟨g, 0, none⟩ 1 1 rfl rfl ROW 82 HX1.out (refCells y) HMIN2.out rfl (fun j u hu => news_cells HGV.out j u (by simpa using hu)) (by rw [HRS.out]; show i * 2 + 2 ≤ G * 2; omega) (refCells_one y) ?_)
  intro w2 HX2 HG2
  have HX2S : Hid ((lay ROW (i * 2) (refCells y)).size = G * 2) := Lib.hid (by rw [lay_size (by rw [HRS.out]; show i * 2 + 2 ≤ G * 2; omega), HRS.out])
  have HSRC : Hid (∀ j u, ((l.drop i).flatMap refCells)[j]? = some u → w2.cell? ((⟨b, i * 2, none⟩ : Addr).add j) = some u) := Lib.hid (fun j u hu => by
    rw [← flat_drop refCells_len, List.getElem?_drop] at hu
    rw [add_some]
    have h1 : w2.cell? ⟨b, i * 2 + j, none⟩ = w1.cell? ⟨b, i * 2 + j, none⟩ := World.cell?_of_block (HG2.out.block b (Nat.lt_of_lt_of_le hbw HB1.out.size) (fun e => by injection e with e; omega))
    rw [h1, HB1.out.cell (p := ⟨b, _, none⟩) hbw]
    exact HSB.out _ u (by simpa using hu))
  go_wp2
  go_region_law (refine step_copyK rfl (.tmp 50) (.tmp 53) 36 36 rfl 82 Try.underlying36 2 (by kernel_rfl) (n - i) w.heap.size ((i + 1) * 2) (n + 1 - (i + 1)) (G - (i + 1)) ⟨b, i * 2, none⟩ (n - i) (n - i) (by simp [Act.eval, Act.put]) (by simp [Act.eval, Act.put]) (lay ROW (i * 2) (refCells y)) 82 HX2.out.drew ((l.drop i).flatMap refCells) HMIN.out HDL.out HSRC.out (by rw [HDL.out, HX2S.out]; omega) (flat_one refCells_one _) ?_; intro w3 HX3 HG3)
  have HEND : Hid (w3.ownsRow base 82 2 (.slice (some ⟨w.heap.size, 0, none⟩) (n + 1) G) (n + 1) ((insAt l i y).flatMap refCells)) := Lib.hid ⟨by rw [flat_length refCells_len, HIL.out], .inr ⟨w.heap.size, G, _, rfl, hb, HX3.out, hGn, by unfold maxLen; omega, by rw [lay_size (by rw [HDL.out, HX2S.out]; omega), HX2S.out], by
    have h := HGL.out _ G hGn HZL.out
    rw [← HRL.out] at h
    rw [lay_list, lay_list]
    (try simp only [Nat.mul_one] at h ⊢)
    exact h⟩⟩
  have HGR : Hid (w.grownBy w3 (some b)) := Lib.hid (by
    have g2 := HG2.out; have g3 := HG3.out; have b1 := HB1.out
    exact ⟨g3.os.trans (g2.os.trans b1.os), g3.tape.trans (g2.tape.trans b1.tape), g3.output.trans (g2.output.trans b1.output), Nat.le_trans b1.size (Nat.le_trans g2.size g3.size), fun q hq _ =>
      (g3.block q (by have := g2.size; have := b1.size; show q < w2.heap.size; omega) (fun e => by injection e with e; omega)).trans ((g2.block q (by have := b1.size; omega) (fun e => by injection e with e; omega)).trans (b1.block q hq))⟩)
  go_wp2
  go_ret
  exact ⟨_, rfl, HEND.out, HGR.out, .inr ⟨_, rfl, Nat.le_refl _⟩⟩

theorem insRef_any (v : Value) (l : List ARef) (i : Nat) (y : ARef) (g : Nat) (w : World) (base : Nat) (hown : w.ownsRow base 82 2 v l.length (l.flatMap refCells)) (hg : Blk w g 82 (refCells y).toArray) (hne : v.ownBlock ≠ some g) (hlen : l.length ≤ 5864062014700) (hb : base ≤ w.heap.size) (hi : i ≤ l.length) :
    Calls Try.prog 94 #[v, .int .i64 i, .slice (some ⟨g, 0, none⟩) 1 1] w fun e w' => ∃ v', e = .returned v' ∧ w'.ownsRow base 82 2 v' (l.length + 1) ((insAt l i y).flatMap refCells) ∧ w.grownBy w' v.ownBlock ∧ (v'.ownBlock = v.ownBlock ∨ ∃ b, v'.ownBlock = some b ∧ w.heap.size ≤ b) := by
  by_cases he : i = l.length
  · exact insRef_end v l i y g w base hown hg hne hlen hb he
  · rcases hown.2 with ⟨rfl, h0⟩ | ⟨b, cap, cur, hv, hbb, hh, hnc, hcm, hsz, ht⟩
    · omega
    · by_cases hroom : l.length + 1 ≤ cap
      · exact insRef_shift v l i y g w base hown hg hne hlen hb (by omega) b cap cur hv hh hroom (by unfold maxLen at hcm; omega) hsz ht hbb
      · exact insRef_grow v l i y g w base hown hg hne hlen hb (by omega) b cap cur hv hh hnc (by omega) ht
end Go.Proofs.Ytmafhaadcjgcbaa
end
section
namespace Go.Proofs.Ytmafhaadcjgcbaa
open Go Go.RowKit

set_option maxRecDepth 100000 in
set_option maxHeartbeats 4000000 in
theorem putA_any (A : Option Addr) (c : Nat) (m : AModel) (w : World) (F : Nat → Prop) (hF : ∀ b, F b → b < w.heap.size) (h : RowOf 7 ENode w F A m.nodes) (hz : ∀ x ∈ m.nodes, NodeOK x) (hz' : ∀ x ∈ m.nodes, LensOK x) (hl : m.nodes.length ≤ 9223372036854775807) (id : Int) (hid : InR id) (nm : ByteArray) (hns : nm.size ≤ 9223372036854775807) (val : ByteArray) (hvs : val.size ≤ 9223372036854775807) :
    Calls Try.prog 39 #[.agg #[.int .i64 m.next, .slice A m.nodes.length c], .int .i64 id, .string nm, .string val] w fun e w' => (∃ v, e = .returned v ∧ SetAs w' w.heap.size m id (setE m nm (4096 < val.size) (atI m.nodes id < 0)) (putN nm val) v) ∧ Below w.heap.size w w' := by
  obtain ⟨EE, hEE⟩ : ∃ EE, setE m nm (4096 < val.size) (atI m.nodes id < 0) = EE := ⟨_, rfl⟩
  rw [hEE]
  have HEE := Lib.hid hEE
  clear hEE
  have HBA : Hid (Below w.heap.size w ((w.alloc (.cells #[.int .i64 m.next, .slice A m.nodes.length c] 24)).alloc (.cells #[.int .i64 0, .slice none 0 0] 24))) := Lib.hid ((((Below.refl w.heap.size w).alloc (Nat.le_refl _) _).alloc (by simp) _))
  have HC := Lib.hid (check_any A c m _ F (fun b hb => Nat.lt_of_lt_of_le (hF b hb) HBA.out.size) (h.keep ENode.stays (Keep.below HBA.out hF) (fun _ h => h)) hz hl)
  have HM0 : Hid (Blk ((w.alloc (.cells #[.int .i64 m.next, .slice A m.nodes.length c] 24)).alloc (.cells #[.int .i64 0, .slice none 0 0] 24)) w.heap.size 24 #[.int .i64 m.next, .slice A m.nodes.length c]) := Lib.hid (((Blk.new w _ _).alloc _))
  have HR0 : Hid (Blk ((w.alloc (.cells #[.int .i64 m.next, .slice A m.nodes.length c] 24)).alloc (.cells #[.int .i64 0, .slice none 0 0] 24)) (w.heap.size + 1) 24 #[.int .i64 0, .slice none 0 0]) := Lib.hid (Blk.new' (by simp))
  have HH := Lib.hid h; have HZ := Lib.hid hz; have HZ' := Lib.hid hz'
  clear h hz hz'
  obtain ⟨u0, hu0⟩ : ∃ u : World, (w.alloc (.cells #[.int .i64 m.next, .slice A m.nodes.length c] 24)).alloc (.cells #[.int .i64 0, .slice none 0 0] 24) = u := ⟨_, rfl⟩
  rw [hu0] at HBA HC HM0 HR0
  have HU0 := Lib.hid hu0
  clear hu0
  have HB0 := HBA
  by_cases hc : CheckM m
  · have HC2 := Lib.hid (int_is (checkI_yes hc) HC.out)
    have HCM := Lib.hid hc
    have HS := Lib.hid hc.1.srtB
    have hl4 : m.nodes.length ≤ 4096 := hc.1.1.2.2
    have hnx : 1 ≤ m.next ∧ m.next ≤ 1048577 := ⟨hc.1.1.1, hc.1.1.2.1⟩
    clear hc HC
    rcases hwc : wordA nm with _ | _
    · have E := Lib.hid (show EE = 2 from HEE.out.symm.trans (setE_word HCM.out hwc))
      have HW := Lib.hid hwc
      clear hwc
      go_enter Try.func39, Try.ntmps39
      go_wp2_with fail
      (try rw [HU0.out])
      refine (HC2.out).mono ?_
      rintro _ u1 ⟨rfl, hb⟩
      have HB1 := Lib.hid (HB0.out.trans (hb.mono HB0.out.size))
      have HM1 := Lib.hid (HM0.out.below hb HM0.out.lt)
      have HR1 := Lib.hid (HR0.out.below hb HR0.out.lt)
      clear hb
      go_wp2_with fail
      refine (aword_is hns HW.out u1).mono ?_
      rintro _ u2 ⟨rfl, hb⟩
      have HB2 := Lib.hid (HB1.out.trans (hb.mono HB1.out.size))
      have HM2 := Lib.hid (HM1.out.below hb HM1.out.lt)
      have HR2 := Lib.hid (HR1.out.below hb HR1.out.lt)
      clear hb
      have t0 := HR2.out.frozen 0; have t1 := HR2.out.frozen 1
      have r0 := HR2.out.cell 0; have r1 := HR2.out.cell 1
      have hrlt := HR2.out.lt
      simp at r0 r1
      go_wp2_with fail
      have hyS := (HR2.out.set_ 0 (.int .i64 0)).set_ 1 (.slice none 0 0)
      have f0 := hyS.cell 0; have f1 := hyS.cell 1
      simp at f0 f1
      have HBW := Lib.hid ((HB2.out.setCell (p := ⟨w.heap.size + 1, 0, none⟩) (by show w.heap.size ≤ w.heap.size + 1; omega) (.int .i64 0)).setCell (p := ⟨w.heap.size + 1, 1, none⟩) (by show w.heap.size ≤ w.heap.size + 1; omega) (.slice none 0 0))
      exact bodyPost_ret (v := .tuple #[.agg #[.int .i64 0, .slice none 0 0], .int .i64 (2)]) (by simp [results, Try.results39, go_sem, f0, f1]) rfl ⟨⟨_, rfl, Or.inl ⟨by rw [E.out]; decide, by rw [E.out]⟩⟩, HBW.out⟩
    · have HW := Lib.hid hwc
      clear hwc
      by_cases hlg : 4096 < val.size
      · have E := Lib.hid (show EE = 3 from HEE.out.symm.trans (setE_long HCM.out HW.out hlg))
        have g3 : decide ((4096 : Int) < (val.size : Int)) = true := decide_eq_true (by omega)
        clear hlg
        go_enter Try.func39, Try.ntmps39
        go_wp2_with fail
        (try rw [HU0.out])
        refine (HC2.out).mono ?_
        rintro _ u1 ⟨rfl, hb⟩
        have HB1 := Lib.hid (HB0.out.trans (hb.mono HB0.out.size))
        have HM1 := Lib.hid (HM0.out.below hb HM0.out.lt)
        have HR1 := Lib.hid (HR0.out.below hb HR0.out.lt)
        clear hb
        go_wp2_with fail
        refine (aword_is hns HW.out u1).mono ?_
        rintro _ u2 ⟨rfl, hb⟩
        have HB2 := Lib.hid (HB1.out.trans (hb.mono HB1.out.size))
        have HM2 := Lib.hid (HM1.out.below hb HM1.out.lt)
        have HR2 := Lib.hid (HR1.out.below hb HR1.out.lt)
        clear hb
        have t0 := HR2.out.frozen 0; have t1 := HR2.out.frozen 1
        have r0 := HR2.out.cell 0; have r1 := HR2.out.cell 1
        have hrlt := HR2.out.lt
        simp at r0 r1
        go_wp2_with fail
        have hyS := (HR2.out.set_ 0 (.int .i64 0)).set_ 1 (.slice none 0 0)
        have f0 := hyS.cell 0; have f1 := hyS.cell 1
        simp at f0 f1
        have HBW := Lib.hid ((HB2.out.setCell (p := ⟨w.heap.size + 1, 0, none⟩) (by show w.heap.size ≤ w.heap.size + 1; omega) (.int .i64 0)).setCell (p := ⟨w.heap.size + 1, 1, none⟩) (by show w.heap.size ≤ w.heap.size + 1; omega) (.slice none 0 0))
        exact bodyPost_ret (v := .tuple #[.agg #[.int .i64 0, .slice none 0 0], .int .i64 (3)]) (by simp [results, Try.results39, go_sem, f0, f1]) rfl ⟨⟨_, rfl, Or.inl ⟨by rw [E.out]; decide, by rw [E.out]⟩⟩, HBW.out⟩
      · have g3 : decide ((4096 : Int) < (val.size : Int)) = false := decide_eq_false (by omega)
        rcases atI_cases m.nodes id with ⟨j, hj, hj1, hj2⟩ | ⟨hj1, hj2⟩
        · have HAT := Lib.hid hj2
          have g4 : decide ((j : Int) < 0) = false := decide_eq_false (by omega)
          have E := Lib.hid (show EE = 0 from HEE.out.symm.trans (setE_ok HCM.out HW.out hlg (by rw [hj2]; omega)))
          clear hj2
          go_enter Try.func39, Try.ntmps39
          go_wp2_with fail
          (try rw [HU0.out])
          refine (HC2.out).mono ?_
          rintro _ u1 ⟨rfl, hb⟩
          have HB1 := Lib.hid (HB0.out.trans (hb.mono HB0.out.size))
          have HM1 := Lib.hid (HM0.out.below hb HM0.out.lt)
          have HR1 := Lib.hid (HR0.out.below hb HR0.out.lt)
          clear hb
          go_wp2_with fail
          refine (aword_is hns HW.out u1).mono ?_
          rintro _ u2 ⟨rfl, hb⟩
          have HB2 := Lib.hid (HB1.out.trans (hb.mono HB1.out.size))
          have HM2 := Lib.hid (HM1.out.below hb HM1.out.lt)
          have HR2 := Lib.hid (HR1.out.below hb HR1.out.lt)
          clear hb
          have m0 := HM2.out.cell 0; have m1 := HM2.out.cell 1
          have hmlt := HM2.out.lt
          simp at m0 m1
          go_wp2_with fail
          refine (int_is HAT.out (place_any A c m.next id m.nodes u2 F (fun b hb => Nat.lt_of_lt_of_le (hF b hb) HB2.out.size) (HH.out.keep ENode.stays (Keep.below HB2.out hF) (fun _ h => h)) HS.out hid (by omega))).mono ?_
          rintro _ u3 ⟨rfl, hb⟩
          have HB3 := Lib.hid (HB2.out.trans (hb.mono HB2.out.size))
          have HM3 := Lib.hid (HM2.out.below hb HM2.out.lt)
          have HR3 := Lib.hid (HR2.out.below hb HR2.out.lt)
          clear hb
          clear m0 m1 hmlt
          have m0 := HM3.out.cell 0; have m1 := HM3.out.cell 1
          have hmlt := HM3.out.lt
          simp at m0 m1
          go_wp2_with fail
          refine (twinA_any A c m u3 F (fun b hb => Nat.lt_of_lt_of_le (hF b hb) HB3.out.size) (HH.out.keep ENode.stays (Keep.below HB3.out hF) (fun _ h => h)) HZ'.out (by omega)).mono ?_
          rintro _ u4 ⟨vt, rfl, l, hown, hlm, hb⟩
          have HB4 := Lib.hid (HB3.out.trans (hb.mono HB3.out.size))
          have HM4 := Lib.hid (HM3.out.below hb HM3.out.lt)
          have HR4 := Lib.hid (HR3.out.below hb HR3.out.lt)
          have HSZ := Lib.hid HB3.out.size
          have hll : l.length = m.nodes.length := by rw [← hlm]; simp
          have hjl : j < l.length := by omega
          obtain ⟨g, cv, rfl, hnc, hcm, hgb, hgw⟩ := own_some hown.row (by omega)
          obtain ⟨Y, hY⟩ : ∃ Y, l[j] = Y := ⟨_, rfl⟩
          have hYn : m.nodes[j] = Y.n := by
            have h1 : (l.map LN.n)[j]? = some Y.n := by rw [List.getElem?_map, List.getElem?_eq_getElem hjl, hY]; rfl
            rw [hlm, List.getElem?_eq_getElem hj] at h1
            injection h1
          rw [hll] at hown hnc ⊢
          have HO := Lib.hid hown; have HLM := Lib.hid hlm
          have HY := Lib.hid (show ∃ h : j < l.length, l[j]'h = Y from ⟨hjl, hY⟩)
          have HYN := Lib.hid (show ∃ h : j < m.nodes.length, m.nodes[j]'h = Y.n from ⟨hj, hYn⟩)
          have HJ1 := Lib.hid (show ∃ h : j < m.nodes.length, (m.nodes[j]'h).id = id from ⟨hj, hj1⟩)
          have HSN : Hid (SrtN AProp.name Y.n.props) := Lib.hid (by rw [← hYn]; exact props_srt (HCM.out.2.1 _ (List.getElem_mem hj)).2.2.2.2.1)
          have hLN : Y.n.props.length ≤ 4398046510976 := by
            have := HZ'.out m.nodes[j] (List.getElem_mem hj)
            rw [hYn] at this
            unfold LensOK at this
            omega
          have HRS : Hid (w.heap.size + 1 < u3.heap.size) := Lib.hid HR3.out.lt
          clear hb hown hlm hll hjl hY hYn hj1 m0 m1 hmlt
          have m0 := HM4.out.cell 0; have m1 := HM4.out.cell 1
          have hmlt := HM4.out.lt
          simp at m0 m1
          go_upto_region 10 with fail
          obtain ⟨p, hp⟩ : ∃ p, u4.heap.size = p := ⟨_, rfl⟩
          obtain ⟨x1, hx1⟩ : ∃ z : World, u4.alloc (.cells #[.int .i64 m.next, .slice (some ⟨g, 0, none⟩) m.nodes.length cv] 24) = z := ⟨_, rfl⟩
          have HX : Hid (Below u4.heap.size u4 x1) := Lib.hid (by rw [← hx1]; exact (Below.refl _ _).alloc (Nat.le_refl _) _)
          have HP1 : Hid (Blk x1 p 24 #[.int .i64 m.next, .slice (some ⟨g, 0, none⟩) m.nodes.length cv]) := Lib.hid (by rw [← hx1, ← hp]; exact Blk.new _ _ _)
          have HO1 := Lib.hid (HO.out.below HX.out)
          have HB1x := Lib.hid (HB4.out.trans (HX.out.mono HB4.out.size))
          have HR1x := Lib.hid (HR4.out.below HX.out HR4.out.lt)
          have HYB : Hid (∀ b, some b ∈ Y.blocks → u3.heap.size ≤ b ∧ b < p) := Lib.hid (fun b hb => by
            rw [← hp]
            obtain ⟨h1, h2⟩ := HY.out
            exact (HO.out.lists Y (by rw [← h2]; exact List.getElem_mem h1)).lt b hb)
          have hgp : g < p := by omega
          have hpw : w.heap.size + 1 < p := by have := HRS.out; omega
          (try rw [hx1])
          (try rw [hp])
          clear hx1 hp m0 m1 hmlt HO HX hgw
          have p0 := HP1.out.cell 0; have p1 := HP1.out.cell 1
          have hplt := HP1.out.lt
          simp at p0 p1
          have hj0 : (0 : Int) ≤ j := by omega
          have hj1 : (j : Int) < m.nodes.length := by omega
          have CP := Lib.hid (fun (d : Nat) (os : Array Obj) => Calls.regrown_of (w := x1) (d := d) (os := os) (by
            have ho := HO1.out.below (below_regrown x1 d os)
            have := place_any (some ⟨g, 0, none⟩) cv m.next id m.nodes (Sort.grow (redrawn x1 d) os) (fun b => u3.heap.size ≤ b ∧ b < (Sort.grow (redrawn x1 d) os).heap.size) (fun b hb => hb.2) (by rw [← HLM.out]; exact ho.rowOf (fun b h1 h2 => ⟨h1, h2⟩)) HS.out hid (by omega)
            rw [HAT.out] at this; exact this))
          have k0 := cell_regrown p0; have k1 := cell_regrown p1
          clear p0 p1
          refine wp_region_quiet_below (by kernel_rfl) (by kernel_rfl) ?_
          repeat (first | go_big_quiet_step (exact CP.out _ _) | quiet_step (exact CP.out _ _))
          refine wpQuiet_nil ?_
          intro _ hw'
          obtain ⟨⟨dq, osq⟩, hw''⟩ := hw'
          subst hw''
          have hbr := below_regrown x1 dq osq
          have HB2 := Lib.hid (HB1x.out.trans (hbr.mono HB1x.out.size))
          have HP2 := Lib.hid (HP1.out.below hbr hplt)
          have HR2 := Lib.hid (HR1x.out.below hbr HR1x.out.lt)
          have HO2 := Lib.hid (HO1.out.below hbr)
          have hbx2 : p < (Sort.grow (redrawn x1 dq) osq).heap.size := Nat.lt_of_lt_of_le hplt hbr.size
          clear k0 k1 CP hbr
          obtain ⟨x2, hu⟩ : ∃ z : World, Sort.grow (redrawn x1 dq) osq = z := ⟨_, rfl⟩
          rw [hu] at HB2 HP2 HR2 HO2 hbx2 ⊢
          clear hu hplt HO1 HP1 HB1x HR1x
          have hgx2 : g < x2.heap.size := by omega
          obtain ⟨hjl, hY⟩ := HY.out
          have hYm : Y ∈ l := by rw [← hY]; exact List.getElem_mem hjl
          have c4 := HO2.out.cell (i := j) (j := 4) hjl (by omega)
          rw [hY] at c4
          simp [LN.cells, nodeCellsA] at c4
          have z4 := HO2.out.frozen (j * 7 + 4)
          have hOL := (HO2.out.lists Y hYm).p
          obtain ⟨Ap, cp, hAp⟩ := own_shape hOL
          have HPR := Lib.hid (IsRow.of_own (F := fun b => b < x2.heap.size) propCells_len hOL (own_at hOL (fun b _ h => h)))
          have HOL := Lib.hid hOL
          have HAP := Lib.hid hAp
          have HYS : Hid (∀ b, Y.p.ownBlock = some b → u3.heap.size ≤ b ∧ b < p) := Lib.hid (fun b hb => HYB.out b (by simp [LN.blocks, hb]))
          have HGY : Hid (Y.p.ownBlock ≠ some g) := Lib.hid (fun e => HO2.out.row_ne hYm (b := g) (by rw [← e]; simp [LN.blocks]) rfl)
          rw [hAp] at c4
          clear hY hYm hOL hAp
          have HSK := Lib.hid (seekProp_any Ap cp nm Y.n.props x2 (fun b => b < x2.heap.size) (fun b h => h) (by
            obtain ⟨A', c', e, _, _, h3⟩ := HPR.out
            rw [HAP.out] at e
            injection e with e1
            subst e1
            exact h3) HSN.out (by omega))
          go_wp2_with fail
          refine HSK.out.mono ?_
          rintro _ x3 ⟨k, b, rfl, hcut, hiff, hb⟩
          have HCUT := Lib.hid hcut; have HIFF := Lib.hid hiff
          have hkl := hcut.1
          have HB3 := Lib.hid (HB2.out.trans (hb.mono HB2.out.size))
          have HP3 := Lib.hid (HP2.out.below hb hbx2)
          have HR3 := Lib.hid (HR2.out.below hb HR2.out.lt)
          have HO3 := Lib.hid (HO2.out.below hb)
          have hgx3 : g < x3.heap.size := Nat.lt_of_lt_of_le hgx2 hb.size
          have hpx3 : p < x3.heap.size := Nat.lt_of_lt_of_le hbx2 hb.size
          have HOL3 := Lib.hid (own_keep HOL.out fun b e => hb.block b (HOL.out.lt b e).2)
          clear HSK hcut hiff hb c4 z4 HB2 HP2 HR2 HO2 HPR
          obtain ⟨hjl, hY⟩ := HY.out
          have hYm : Y ∈ l := by rw [← hY]; exact List.getElem_mem hjl
          have c4 := HO3.out.cell (i := j) (j := 4) hjl (by omega)
          rw [hY] at c4
          simp [LN.cells, nodeCellsA] at c4
          rw [HAP.out] at c4
          have z4 := HO3.out.frozen (j * 7 + 4)
          have k0 : (0 : Int) ≤ k := by omega
          clear hY hYm
          cases b
          · have HN : Hid (¬ ∃ h : k < Y.n.props.length, (Y.n.props[k]'h).name = nm) := Lib.hid (fun e => by have := HIFF.out.2 e; cases this)
            obtain ⟨q, hq⟩ : ∃ q, x3.heap.size = q := ⟨_, rfl⟩
            have HB4 := Lib.hid (HB3.out.alloc HB3.out.size (.cells #[.string nm, .string ⟨#[]⟩] 85))
            have HQ4 : Hid (Blk (x3.alloc (.cells #[.string nm, .string ⟨#[]⟩] 85)) q 85 (propCells (⟨nm, ⟨#[]⟩⟩ : AProp)).toArray) := Lib.hid (by rw [← hq]; exact Blk.new _ _ _)
            have HP4 := Lib.hid (HP3.out.alloc (.cells #[.string nm, .string ⟨#[]⟩] 85))
            have HR4 := Lib.hid (HR3.out.alloc (.cells #[.string nm, .string ⟨#[]⟩] 85))
            have HO4 := Lib.hid (HO3.out.below ((Below.refl x3.heap.size x3).alloc (Nat.le_refl _) (.cells #[.string nm, .string ⟨#[]⟩] 85)))
            have HOL4 := Lib.hid (own_keep (w' := x3.alloc (.cells #[.string nm, .string ⟨#[]⟩] 85)) HOL3.out fun b e => heap_alloc_old x3 _ (HOL3.out.lt b e).2)
            have hqp : p < q := by omega
            go_wp2_with fail
            (try rw [hq])
            obtain ⟨x4, hx4⟩ : ∃ z : World, x3.alloc (.cells #[.string nm, .string ⟨#[]⟩] 85) = z := ⟨_, rfl⟩
            have hgx4 : g < x4.heap.size := by rw [← hx4]; simp; omega
            have hux4 : u3.heap.size ≤ x4.heap.size := by omega
            rw [hx4] at HB4 HQ4 HP4 HR4 HO4 HOL4 ⊢
            clear hx4 hq c4 z4 HB3 HP3 HR3 HO3 HOL3
            refine (insProp_any (.slice Ap Y.n.props.length cp) Y.n.props k ⟨nm, ⟨#[]⟩⟩ q x4 u3.heap.size (by rw [← HAP.out]; exact HOL4.out) HQ4.out (by rw [← HAP.out]; intro e; have := HYS.out _ e; omega) (by omega) hux4 hkl).mono ?_
            rintro _ x5 ⟨v', rfl, hown5, hg5, hat5⟩
            rw [← HAP.out] at hg5 hat5
            have hil : (insAt Y.n.props k ⟨nm, ⟨#[]⟩⟩).length = Y.n.props.length + 1 := insAt_len hkl _
            have hgg : x5.heap[g]? = x4.heap[g]? := hg5.block g hgx4 (fun e => HGY.out e.symm)
            obtain ⟨hjl, hY⟩ := HY.out
            have c4 : x5.cell? ⟨g, j * 7 + 4, none⟩ = some Y.p := by
              have h := HO4.out.cell (i := j) (j := 4) hjl (by omega)
              rw [hY] at h
              rw [World.cell?_of_block (w := x4) (a := ⟨g, j * 7 + 4, none⟩) hgg, h]
              simp [LN.cells, nodeCellsA]
            have z4 : x5.frozen? ⟨g, j * 7 + 4, none⟩ = false := by
              rw [World.frozen?_of_block (w := x4) (a := ⟨g, j * 7 + 4, none⟩) hgg]; exact HO4.out.frozen _
            have HB5 : Hid (Below w.heap.size w x5) := Lib.hid (HB4.out.grown hg5 (by have := HB4.out.size; omega) (fun b e => by have := HYS.out b e; have := HSZ.out; omega))
            have HP5 := Lib.hid (HP4.out.grown hg5 (fun e => by have := HYS.out _ e.symm; omega))
            have HR5 := Lib.hid (HR4.out.grown hg5 (fun e => by have := HYS.out _ e.symm; have := HRS.out; omega))
            have hown6 : x5.ownsRow u3.heap.size 85 2 v' (insAt Y.n.props k ⟨nm, ⟨#[]⟩⟩).length ((insAt Y.n.props k ⟨nm, ⟨#[]⟩⟩).flatMap propCells) := by rw [hil]; exact hown5
            have HOLN := Lib.hid hown6
            have HO6 := Lib.hid (HO4.out.setProps hjl hY (insAt Y.n.props k ⟨nm, ⟨#[]⟩⟩) v' hg5 (hat5.imp (fun h => h) .inr) hown6)
            have HB6 := Lib.hid (HB5.out.setCell (p := ⟨g, j * 7 + 4, none⟩) (by have := HSZ.out; show w.heap.size ≤ g; omega) v')
            have HP6 := Lib.hid (HP5.out.far (p := ⟨g, j * 7 + 4, none⟩) (by show p ≠ g; omega) v')
            have HR6 := Lib.hid (HR5.out.far (p := ⟨g, j * 7 + 4, none⟩) (by have := HRS.out; show w.heap.size + 1 ≠ g; omega) v')
            obtain ⟨b1, c1, hv', _, _, hb1, hb1w⟩ := own_some hown5 (by omega)
            have HIL := Lib.hid hil
            have HV : Hid (b1 ≠ p ∧ b1 ≠ w.heap.size + 1 ∧ w.heap.size ≤ b1) := Lib.hid (by
              have h1 := HRS.out; have h2 := HSZ.out
              have hlt4 := HP4.out.lt
              refine ⟨fun e => ?_, by omega, by omega⟩
              rcases hat5 with e2 | ⟨b2, e2, hb2⟩
              · have := HYS.out b1 (by rw [← e2, hv']; rfl); omega
              · rw [hv'] at e2
                have hbb : b1 = b2 := by injection e2
                omega)
            subst hv'
            have hgx5 : g < x5.heap.size := by have := hg5.size; omega
            clear hgg hY hown5 hown6 hg5 hat5 hil
            have HWE : Hid (∃ z, z = x5.setCell ⟨g, j * 7 + 4, none⟩ (.slice (some ⟨b1, 0, none⟩) (Y.n.props.length + 1) c1)) := Lib.hid ⟨_, rfl⟩
            go_upto_region 14 with fail
            obtain ⟨x6, hx6⟩ := HWE.out
            rw [← hx6] at HO6 HB6 HP6 HR6
            (try rw [← hx6])
            have hgx6 : g < x6.heap.size := by rw [hx6]; simpa using hgx5
            have hb16 : b1 < x6.heap.size := by rw [hx6]; simpa using hb1w
            clear hx6 HWE c4 z4 HOLN HB4 HP4 HR4 HO4 HOL4
            obtain ⟨Y2, hY2⟩ : ∃ Y2 : LN, Y2 = ⟨{ Y.n with props := insAt Y.n.props k ⟨nm, ⟨#[]⟩⟩ }, .slice (some ⟨b1, 0, none⟩) (Y.n.props.length + 1) c1, Y.k, Y.r⟩ := ⟨_, rfl⟩
            rw [← hY2] at HO6
            have hjl2 : j < (l.set j Y2).length := by simpa using hjl
            have hYY : (l.set j Y2)[j] = Y2 := List.getElem_set_self _
            have hm2 : Y2 ∈ l.set j Y2 := List.mem_iff_getElem.2 ⟨j, hjl2, hYY⟩
            have hY2n : Y2.n.props = insAt Y.n.props k ⟨nm, ⟨#[]⟩⟩ := by rw [hY2]
            have hY2p : Y2.p = .slice (some ⟨b1, 0, none⟩) Y2.n.props.length c1 := by rw [hY2n, HIL.out, hY2]
            have c4 := HO6.out.cell (i := j) (j := 4) hjl2 (by omega)
            rw [hYY] at c4
            simp [LN.cells, nodeCellsA] at c4
            rw [hY2p, hY2n, HIL.out] at c4
            have hol := (HO6.out.lists Y2 hm2).p
            rw [hY2p, hY2n, HIL.out] at hol
            have hk1 : k < (insAt Y.n.props k ⟨nm, ⟨#[]⟩⟩).length := by rw [HIL.out]; omega
            have hk2 : (k : Int) < (Y.n.props.length : Int) + 1 := by omega
            have hk3 : k < Y.n.props.length + 1 := by omega
            have hat : (insAt Y.n.props k ⟨nm, ⟨#[]⟩⟩)[k] = ⟨nm, ⟨#[]⟩⟩ := insAt_at hkl _
            have d1 := own_cell hol (k * 2 + 1) (by omega)
            rw [flat_at propCells_len _ k 1 hk1 (by omega), hat] at d1
            simp [propCells] at d1
            have z1 := own_frozen hol (k * 2 + 1)
            have HO7 := Lib.hid (HO6.out.setInProps hjl2 hYY hY2p (k := k) (by rw [hY2n]; exact hk1) (r := 1) (by omega) (.string val) ⟨nm, val⟩ (by
              have : Y2.n.props[k]'(by rw [hY2n]; exact hk1) = ⟨nm, ⟨#[]⟩⟩ := by simp only [hY2n]; exact hat
              rw [this]; rfl))
            have HB7 := Lib.hid (HB6.out.setCell (p := ⟨b1, k * 2 + 1, none⟩) HV.out.2.2 (.string val))
            have HP7 := Lib.hid (HP6.out.far (p := ⟨b1, k * 2 + 1, none⟩) (Ne.symm HV.out.1) (.string val))
            have HR7 := Lib.hid (HR6.out.far (p := ⟨b1, k * 2 + 1, none⟩) (Ne.symm HV.out.2.1) (.string val))
            have HM7 : Hid (((l.set j Y2).set j ⟨{ Y2.n with props := Y2.n.props.set k ⟨nm, val⟩ }, Y2.p, Y2.k, Y2.r⟩).map LN.n = m.nodes.set j ((putN nm val) m.nodes[j])) := Lib.hid (by
              rw [List.set_set, List.map_set, HLM.out, HYN.out.2, hY2n, insAt_set hkl, setK_ins HSN.out HCUT.out HN.out, hY2]; rfl)
            have HWE : Hid (∃ z, z = x6.setCell ⟨b1, k * 2 + 1, none⟩ (.string val)) := Lib.hid ⟨_, rfl⟩
            clear hol hYY hm2 hY2p hat hY2n
            go_upto_region 15 with fail
            obtain ⟨x7, hx7⟩ := HWE.out
            rw [← hx7] at HO7 HB7 HP7 HR7
            (try rw [← hx7])
            clear hx7 HWE c4 d1 z1
            have p0 := HP7.out.cell 0; have p1 := HP7.out.cell 1
            have hplt := HP7.out.lt
            simp at p0 p1
            have t0 := HR7.out.frozen 0; have t1 := HR7.out.frozen 1
            have r0 := HR7.out.cell 0; have r1 := HR7.out.cell 1
            have hrlt := HR7.out.lt
            simp at r0 r1
            go_wp2_with fail
            have hyS := (HR7.out.set_ 0 (.int .i64 m.next)).set_ 1 (.slice (some ⟨g, 0, none⟩) m.nodes.length cv)
            have f0 := hyS.cell 0; have f1 := hyS.cell 1
            simp at f0 f1
            have HBW := Lib.hid ((HB7.out.setCell (p := ⟨w.heap.size + 1, 0, none⟩) (by show w.heap.size ≤ w.heap.size + 1; omega) (.int .i64 m.next)).setCell (p := ⟨w.heap.size + 1, 1, none⟩) (by show w.heap.size ≤ w.heap.size + 1; omega) (.slice (some ⟨g, 0, none⟩) m.nodes.length cv))
            refine bodyPost_ret (v := .tuple #[.agg #[.int .i64 m.next, .slice (some ⟨g, 0, none⟩) m.nodes.length cv], .int .i64 0]) (by simp [results, Try.results39, go_sem, f0, f1]) rfl ⟨⟨_, rfl, Or.inr ⟨E.out, _, _, rfl, (HO7.out.keep (fun b h1 _ => ?_)).weaken HSZ.out, j, HJ1.out.1, HJ1.out.2, ?_⟩⟩, HBW.out⟩
            · have := HRS.out
              exact (Below.heap_setCell _ _ _ _ (by show b ≠ w.heap.size + 1; omega)).trans (Below.heap_setCell _ _ _ _ (by show b ≠ w.heap.size + 1; omega))
            · exact HM7.out
          · obtain ⟨hk1, hkn⟩ := HIFF.out.1 rfl
            obtain ⟨b0, c0, e0, _, _, hb0, hb0w⟩ := own_some HOL3.out (by omega)
            rw [HAP.out] at e0
            injection e0 with e1 _ e2
            subst e1; subst e2
            have hk2 : (k : Int) < (Y.n.props.length : Int) := by omega
            have hol := HOL3.out
            rw [HAP.out] at hol
            have d1 := own_cell hol (k * 2 + 1) (by omega)
            rw [flat_at propCells_len _ k 1 hk1 (by omega)] at d1
            simp [propCells] at d1
            have z1 := own_frozen hol (k * 2 + 1)
            have HYB0 := HYS.out b0 (by rw [HAP.out]; rfl)
            obtain ⟨hjl, hY⟩ := HY.out
            have HO7 := Lib.hid (HO3.out.setInProps hjl hY HAP.out (k := k) hk1 (r := 1) (by omega) (.string val) ⟨nm, val⟩ (by rw [show nm = Y.n.props[k].name from hkn.symm]; rfl))
            have HB7 := Lib.hid (HB3.out.setCell (p := ⟨b0, k * 2 + 1, none⟩) (by have := HSZ.out; show w.heap.size ≤ b0; omega) (.string val))
            have HP7 := Lib.hid (HP3.out.far (p := ⟨b0, k * 2 + 1, none⟩) (by show p ≠ b0; omega) (.string val))
            have HR7 := Lib.hid (HR3.out.far (p := ⟨b0, k * 2 + 1, none⟩) (by have := HRS.out; show w.heap.size + 1 ≠ b0; omega) (.string val))
            have HM7 : Hid ((l.set j ⟨{ Y.n with props := Y.n.props.set k ⟨nm, val⟩ }, Y.p, Y.k, Y.r⟩).map LN.n = m.nodes.set j ((putN nm val) m.nodes[j])) := Lib.hid (by
              rw [List.map_set, HLM.out, HYN.out.2, setK_set HSN.out HCUT.out hk1 hkn]; rfl)
            have HWE : Hid (∃ z, z = x3.setCell ⟨b0, k * 2 + 1, none⟩ (.string val)) := Lib.hid ⟨_, rfl⟩
            clear hol hY hkn
            go_upto_region 15 with fail
            obtain ⟨x7, hx7⟩ := HWE.out
            rw [← hx7] at HO7 HB7 HP7 HR7
            (try rw [← hx7])
            clear hx7 HWE c4 z4 d1 z1
            have p0 := HP7.out.cell 0; have p1 := HP7.out.cell 1
            have hplt := HP7.out.lt
            simp at p0 p1
            have t0 := HR7.out.frozen 0; have t1 := HR7.out.frozen 1
            have r0 := HR7.out.cell 0; have r1 := HR7.out.cell 1
            have hrlt := HR7.out.lt
            simp at r0 r1
            go_wp2_with fail
            have hyS := (HR7.out.set_ 0 (.int .i64 m.next)).set_ 1 (.slice (some ⟨g, 0, none⟩) m.nodes.length cv)
            have f0 := hyS.cell 0; have f1 := hyS.cell 1
            simp at f0 f1
            have HBW := Lib.hid ((HB7.out.setCell (p := ⟨w.heap.size + 1, 0, none⟩) (by show w.heap.size ≤ w.heap.size + 1; omega) (.int .i64 m.next)).setCell (p := ⟨w.heap.size + 1, 1, none⟩) (by show w.heap.size ≤ w.heap.size + 1; omega) (.slice (some ⟨g, 0, none⟩) m.nodes.length cv))
            refine bodyPost_ret (v := .tuple #[.agg #[.int .i64 m.next, .slice (some ⟨g, 0, none⟩) m.nodes.length cv], .int .i64 0]) (by simp [results, Try.results39, go_sem, f0, f1]) rfl ⟨⟨_, rfl, Or.inr ⟨E.out, _, _, rfl, (HO7.out.keep (fun b h1 _ => ?_)).weaken HSZ.out, j, HJ1.out.1, HJ1.out.2, ?_⟩⟩, HBW.out⟩
            · have := HRS.out
              exact (Below.heap_setCell _ _ _ _ (by show b ≠ w.heap.size + 1; omega)).trans (Below.heap_setCell _ _ _ _ (by show b ≠ w.heap.size + 1; omega))
            · exact HM7.out
        · have HAT := Lib.hid hj2
          have E := Lib.hid (show EE = 20 from HEE.out.symm.trans (setE_node HCM.out HW.out hlg (by rw [hj2]; omega)))
          clear hj1 hj2
          go_enter Try.func39, Try.ntmps39
          go_wp2_with fail
          (try rw [HU0.out])
          refine (HC2.out).mono ?_
          rintro _ u1 ⟨rfl, hb⟩
          have HB1 := Lib.hid (HB0.out.trans (hb.mono HB0.out.size))
          have HM1 := Lib.hid (HM0.out.below hb HM0.out.lt)
          have HR1 := Lib.hid (HR0.out.below hb HR0.out.lt)
          clear hb
          go_wp2_with fail
          refine (aword_is hns HW.out u1).mono ?_
          rintro _ u2 ⟨rfl, hb⟩
          have HB2 := Lib.hid (HB1.out.trans (hb.mono HB1.out.size))
          have HM2 := Lib.hid (HM1.out.below hb HM1.out.lt)
          have HR2 := Lib.hid (HR1.out.below hb HR1.out.lt)
          clear hb
          have m0 := HM2.out.cell 0; have m1 := HM2.out.cell 1
          have hmlt := HM2.out.lt
          simp at m0 m1
          go_wp2_with fail
          refine (int_is HAT.out (place_any A c m.next id m.nodes u2 F (fun b hb => Nat.lt_of_lt_of_le (hF b hb) HB2.out.size) (HH.out.keep ENode.stays (Keep.below HB2.out hF) (fun _ h => h)) HS.out hid (by omega))).mono ?_
          rintro _ u3 ⟨rfl, hb⟩
          have HB3 := Lib.hid (HB2.out.trans (hb.mono HB2.out.size))
          have HM3 := Lib.hid (HM2.out.below hb HM2.out.lt)
          have HR3 := Lib.hid (HR2.out.below hb HR2.out.lt)
          clear hb
          clear m0 m1 hmlt
          have t0 := HR3.out.frozen 0; have t1 := HR3.out.frozen 1
          have r0 := HR3.out.cell 0; have r1 := HR3.out.cell 1
          have hrlt := HR3.out.lt
          simp at r0 r1
          go_wp2_with fail
          have hyS := (HR3.out.set_ 0 (.int .i64 0)).set_ 1 (.slice none 0 0)
          have f0 := hyS.cell 0; have f1 := hyS.cell 1
          simp at f0 f1
          have HBW := Lib.hid ((HB3.out.setCell (p := ⟨w.heap.size + 1, 0, none⟩) (by show w.heap.size ≤ w.heap.size + 1; omega) (.int .i64 0)).setCell (p := ⟨w.heap.size + 1, 1, none⟩) (by show w.heap.size ≤ w.heap.size + 1; omega) (.slice none 0 0))
          exact bodyPost_ret (v := .tuple #[.agg #[.int .i64 0, .slice none 0 0], .int .i64 (20)]) (by simp [results, Try.results39, go_sem, f0, f1]) rfl ⟨⟨_, rfl, Or.inl ⟨by rw [E.out]; decide, by rw [E.out]⟩⟩, HBW.out⟩
  · have HC2 := Lib.hid (int_is (checkI_no hc) HC.out)
    have E := Lib.hid (show EE = 29 from HEE.out.symm.trans (setE_check hc))
    clear hc HC
    go_enter Try.func39, Try.ntmps39
    go_wp2_with fail
    (try rw [HU0.out])
    refine (HC2.out).mono ?_
    rintro _ u1 ⟨rfl, hb⟩
    have HB1 := Lib.hid (HB0.out.trans (hb.mono HB0.out.size))
    have HM1 := Lib.hid (HM0.out.below hb HM0.out.lt)
    have HR1 := Lib.hid (HR0.out.below hb HR0.out.lt)
    clear hb
    have t0 := HR1.out.frozen 0; have t1 := HR1.out.frozen 1
    have r0 := HR1.out.cell 0; have r1 := HR1.out.cell 1
    have hrlt := HR1.out.lt
    simp at r0 r1
    go_wp2_with fail
    have hyS := (HR1.out.set_ 0 (.int .i64 0)).set_ 1 (.slice none 0 0)
    have f0 := hyS.cell 0; have f1 := hyS.cell 1
    simp at f0 f1
    have HBW := Lib.hid ((HB1.out.setCell (p := ⟨w.heap.size + 1, 0, none⟩) (by show w.heap.size ≤ w.heap.size + 1; omega) (.int .i64 0)).setCell (p := ⟨w.heap.size + 1, 1, none⟩) (by show w.heap.size ≤ w.heap.size + 1; omega) (.slice none 0 0))
    exact bodyPost_ret (v := .tuple #[.agg #[.int .i64 0, .slice none 0 0], .int .i64 (29)]) (by simp [results, Try.results39, go_sem, f0, f1]) rfl ⟨⟨_, rfl, Or.inl ⟨by rw [E.out]; decide, by rw [E.out]⟩⟩, HBW.out⟩

set_option maxRecDepth 100000 in
set_option maxHeartbeats 4000000 in
theorem aimA_any (A : Option Addr) (c : Nat) (m : AModel) (w : World) (F : Nat → Prop) (hF : ∀ b, F b → b < w.heap.size) (h : RowOf 7 ENode w F A m.nodes) (hz : ∀ x ∈ m.nodes, NodeOK x) (hz' : ∀ x ∈ m.nodes, LensOK x) (hl : m.nodes.length ≤ 9223372036854775807) (id : Int) (hid : InR id) (nm : ByteArray) (hns : nm.size ≤ 9223372036854775807) (tg : Int) (htg : InR tg) :
    Calls Try.prog 43 #[.agg #[.int .i64 m.next, .slice A m.nodes.length c], .int .i64 id, .string nm, .int .i64 tg] w fun e w' => (∃ v, e = .returned v ∧ SetAs w' w.heap.size m id (setE m nm False (atI m.nodes id < 0 ∨ atI m.nodes tg < 0)) (aimN nm tg) v) ∧ Below w.heap.size w w' := by
  obtain ⟨EE, hEE⟩ : ∃ EE, setE m nm False (atI m.nodes id < 0 ∨ atI m.nodes tg < 0) = EE := ⟨_, rfl⟩
  rw [hEE]
  have HEE := Lib.hid hEE
  clear hEE
  have HBA : Hid (Below w.heap.size w ((w.alloc (.cells #[.int .i64 m.next, .slice A m.nodes.length c] 24)).alloc (.cells #[.int .i64 0, .slice none 0 0] 24))) := Lib.hid ((((Below.refl w.heap.size w).alloc (Nat.le_refl _) _).alloc (by simp) _))
  have HC := Lib.hid (check_any A c m _ F (fun b hb => Nat.lt_of_lt_of_le (hF b hb) HBA.out.size) (h.keep ENode.stays (Keep.below HBA.out hF) (fun _ h => h)) hz hl)
  have HM0 : Hid (Blk ((w.alloc (.cells #[.int .i64 m.next, .slice A m.nodes.length c] 24)).alloc (.cells #[.int .i64 0, .slice none 0 0] 24)) w.heap.size 24 #[.int .i64 m.next, .slice A m.nodes.length c]) := Lib.hid (((Blk.new w _ _).alloc _))
  have HR0 : Hid (Blk ((w.alloc (.cells #[.int .i64 m.next, .slice A m.nodes.length c] 24)).alloc (.cells #[.int .i64 0, .slice none 0 0] 24)) (w.heap.size + 1) 24 #[.int .i64 0, .slice none 0 0]) := Lib.hid (Blk.new' (by simp))
  have HH := Lib.hid h; have HZ := Lib.hid hz; have HZ' := Lib.hid hz'
  clear h hz hz'
  obtain ⟨u0, hu0⟩ : ∃ u : World, (w.alloc (.cells #[.int .i64 m.next, .slice A m.nodes.length c] 24)).alloc (.cells #[.int .i64 0, .slice none 0 0] 24) = u := ⟨_, rfl⟩
  rw [hu0] at HBA HC HM0 HR0
  have HU0 := Lib.hid hu0
  clear hu0
  have HB0 := HBA
  by_cases hc : CheckM m
  · have HC2 := Lib.hid (int_is (checkI_yes hc) HC.out)
    have HCM := Lib.hid hc
    have HS := Lib.hid hc.1.srtB
    have hl4 : m.nodes.length ≤ 4096 := hc.1.1.2.2
    have hnx : 1 ≤ m.next ∧ m.next ≤ 1048577 := ⟨hc.1.1.1, hc.1.1.2.1⟩
    clear hc HC
    rcases hwc : wordA nm with _ | _
    · have E := Lib.hid (show EE = 2 from HEE.out.symm.trans (setE_word HCM.out hwc))
      have HW := Lib.hid hwc
      clear hwc
      go_enter Try.func43, Try.ntmps43
      go_wp2_with fail
      (try rw [HU0.out])
      refine (HC2.out).mono ?_
      rintro _ u1 ⟨rfl, hb⟩
      have HB1 := Lib.hid (HB0.out.trans (hb.mono HB0.out.size))
      have HM1 := Lib.hid (HM0.out.below hb HM0.out.lt)
      have HR1 := Lib.hid (HR0.out.below hb HR0.out.lt)
      clear hb
      go_wp2_with fail
      refine (aword_is hns HW.out u1).mono ?_
      rintro _ u2 ⟨rfl, hb⟩
      have HB2 := Lib.hid (HB1.out.trans (hb.mono HB1.out.size))
      have HM2 := Lib.hid (HM1.out.below hb HM1.out.lt)
      have HR2 := Lib.hid (HR1.out.below hb HR1.out.lt)
      clear hb
      have t0 := HR2.out.frozen 0; have t1 := HR2.out.frozen 1
      have r0 := HR2.out.cell 0; have r1 := HR2.out.cell 1
      have hrlt := HR2.out.lt
      simp at r0 r1
      go_wp2_with fail
      have hyS := (HR2.out.set_ 0 (.int .i64 0)).set_ 1 (.slice none 0 0)
      have f0 := hyS.cell 0; have f1 := hyS.cell 1
      simp at f0 f1
      have HBW := Lib.hid ((HB2.out.setCell (p := ⟨w.heap.size + 1, 0, none⟩) (by show w.heap.size ≤ w.heap.size + 1; omega) (.int .i64 0)).setCell (p := ⟨w.heap.size + 1, 1, none⟩) (by show w.heap.size ≤ w.heap.size + 1; omega) (.slice none 0 0))
      exact bodyPost_ret (v := .tuple #[.agg #[.int .i64 0, .slice none 0 0], .int .i64 (2)]) (by simp [results, Try.results43, go_sem, f0, f1]) rfl ⟨⟨_, rfl, Or.inl ⟨by rw [E.out]; decide, by rw [E.out]⟩⟩, HBW.out⟩
    · have HW := Lib.hid hwc
      clear hwc
      rcases atI_cases m.nodes id with ⟨j, hj, hj1, hj2⟩ | ⟨hj1, hj2⟩
      · have HAT := Lib.hid hj2
        have g4 : decide ((j : Int) < 0) = false := decide_eq_false (by omega)
        rcases atI_cases m.nodes tg with ⟨jt, hjt, hjt1, hjt2⟩ | ⟨hjt1, hjt2⟩
        · have HATT := Lib.hid hjt2
          have g5 : decide ((jt : Int) < 0) = false := decide_eq_false (by omega)
          have E := Lib.hid (show EE = 0 from HEE.out.symm.trans (setE_ok HCM.out HW.out (fun h => h) (by rw [hj2, hjt2]; omega)))
          clear hj2 hjt2 hjt1
          go_enter Try.func43, Try.ntmps43
          go_wp2_with fail
          (try rw [HU0.out])
          refine (HC2.out).mono ?_
          rintro _ u1 ⟨rfl, hb⟩
          have HB1 := Lib.hid (HB0.out.trans (hb.mono HB0.out.size))
          have HM1 := Lib.hid (HM0.out.below hb HM0.out.lt)
          have HR1 := Lib.hid (HR0.out.below hb HR0.out.lt)
          clear hb
          go_wp2_with fail
          refine (aword_is hns HW.out u1).mono ?_
          rintro _ u2 ⟨rfl, hb⟩
          have HB2 := Lib.hid (HB1.out.trans (hb.mono HB1.out.size))
          have HM2 := Lib.hid (HM1.out.below hb HM1.out.lt)
          have HR2 := Lib.hid (HR1.out.below hb HR1.out.lt)
          clear hb
          have m0 := HM2.out.cell 0; have m1 := HM2.out.cell 1
          have hmlt := HM2.out.lt
          simp at m0 m1
          go_wp2_with fail
          refine (int_is HAT.out (place_any A c m.next id m.nodes u2 F (fun b hb => Nat.lt_of_lt_of_le (hF b hb) HB2.out.size) (HH.out.keep ENode.stays (Keep.below HB2.out hF) (fun _ h => h)) HS.out hid (by omega))).mono ?_
          rintro _ u3 ⟨rfl, hb⟩
          have HB3 := Lib.hid (HB2.out.trans (hb.mono HB2.out.size))
          have HM3 := Lib.hid (HM2.out.below hb HM2.out.lt)
          have HR3 := Lib.hid (HR2.out.below hb HR2.out.lt)
          clear hb
          clear m0 m1 hmlt
          have m0 := HM3.out.cell 0; have m1 := HM3.out.cell 1
          have hmlt := HM3.out.lt
          simp at m0 m1
          go_wp2_with fail
          refine (int_is HATT.out (place_any A c m.next tg m.nodes u3 F (fun b hb => Nat.lt_of_lt_of_le (hF b hb) HB3.out.size) (HH.out.keep ENode.stays (Keep.below HB3.out hF) (fun _ h => h)) HS.out htg (by omega))).mono ?_
          rintro _ u4 ⟨rfl, hb⟩
          have HB4 := Lib.hid (HB3.out.trans (hb.mono HB3.out.size))
          have HM4 := Lib.hid (HM3.out.below hb HM3.out.lt)
          have HR4 := Lib.hid (HR3.out.below hb HR3.out.lt)
          clear hb
          clear m0 m1 hmlt
          have m0 := HM4.out.cell 0; have m1 := HM4.out.cell 1
          have hmlt := HM4.out.lt
          simp at m0 m1
          go_wp2_with fail
          refine (twinA_any A c m u4 F (fun b hb => Nat.lt_of_lt_of_le (hF b hb) HB4.out.size) (HH.out.keep ENode.stays (Keep.below HB4.out hF) (fun _ h => h)) HZ'.out (by omega)).mono ?_
          rintro _ u5 ⟨vt, rfl, l, hown, hlm, hb⟩
          have HB5 := Lib.hid (HB4.out.trans (hb.mono HB4.out.size))
          have HM5 := Lib.hid (HM4.out.below hb HM4.out.lt)
          have HR5 := Lib.hid (HR4.out.below hb HR4.out.lt)
          have HSZ := Lib.hid HB4.out.size
          have hll : l.length = m.nodes.length := by rw [← hlm]; simp
          have hjl : j < l.length := by omega
          obtain ⟨g, cv, rfl, hnc, hcm, hgb, hgw⟩ := own_some hown.row (by omega)
          obtain ⟨Y, hY⟩ : ∃ Y, l[j] = Y := ⟨_, rfl⟩
          have hYn : m.nodes[j] = Y.n := by
            have h1 : (l.map LN.n)[j]? = some Y.n := by rw [List.getElem?_map, List.getElem?_eq_getElem hjl, hY]; rfl
            rw [hlm, List.getElem?_eq_getElem hj] at h1
            injection h1
          rw [hll] at hown hnc ⊢
          have HO := Lib.hid hown; have HLM := Lib.hid hlm
          have HY := Lib.hid (show ∃ h : j < l.length, l[j]'h = Y from ⟨hjl, hY⟩)
          have HYN := Lib.hid (show ∃ h : j < m.nodes.length, m.nodes[j]'h = Y.n from ⟨hj, hYn⟩)
          have HJ1 := Lib.hid (show ∃ h : j < m.nodes.length, (m.nodes[j]'h).id = id from ⟨hj, hj1⟩)
          have HSN : Hid (SrtN ARef.role Y.n.refs) := Lib.hid (by rw [← hYn]; exact refs_srt (HCM.out.2.1 _ (List.getElem_mem hj)).2.2.2.2.2)
          have hLN : Y.n.refs.length ≤ 5864062014634 := by
            have := HZ'.out m.nodes[j] (List.getElem_mem hj)
            rw [hYn] at this
            unfold LensOK at this
            omega
          have HRS : Hid (w.heap.size + 1 < u4.heap.size) := Lib.hid HR4.out.lt
          clear hb hown hlm hll hjl hY hYn hj1 m0 m1 hmlt
          have m0 := HM5.out.cell 0; have m1 := HM5.out.cell 1
          have hmlt := HM5.out.lt
          simp at m0 m1
          go_upto_region 8 with fail
          obtain ⟨p, hp⟩ : ∃ p, u5.heap.size = p := ⟨_, rfl⟩
          obtain ⟨x1, hx1⟩ : ∃ z : World, u5.alloc (.cells #[.int .i64 m.next, .slice (some ⟨g, 0, none⟩) m.nodes.length cv] 24) = z := ⟨_, rfl⟩
          have HX : Hid (Below u5.heap.size u5 x1) := Lib.hid (by rw [← hx1]; exact (Below.refl _ _).alloc (Nat.le_refl _) _)
          have HP1 : Hid (Blk x1 p 24 #[.int .i64 m.next, .slice (some ⟨g, 0, none⟩) m.nodes.length cv]) := Lib.hid (by rw [← hx1, ← hp]; exact Blk.new _ _ _)
          have HO1 := Lib.hid (HO.out.below HX.out)
          have HB1x := Lib.hid (HB5.out.trans (HX.out.mono HB5.out.size))
          have HR1x := Lib.hid (HR5.out.below HX.out HR5.out.lt)
          have HYB : Hid (∀ b, some b ∈ Y.blocks → u4.heap.size ≤ b ∧ b < p) := Lib.hid (fun b hb => by
            rw [← hp]
            obtain ⟨h1, h2⟩ := HY.out
            exact (HO.out.lists Y (by rw [← h2]; exact List.getElem_mem h1)).lt b hb)
          have hgp : g < p := by omega
          have hpw : w.heap.size + 1 < p := by have := HRS.out; omega
          (try rw [hx1])
          (try rw [hp])
          clear hx1 hp m0 m1 hmlt HO HX hgw
          have p0 := HP1.out.cell 0; have p1 := HP1.out.cell 1
          have hplt := HP1.out.lt
          simp at p0 p1
          have hj0 : (0 : Int) ≤ j := by omega
          have hj1 : (j : Int) < m.nodes.length := by omega
          have CP := Lib.hid (fun (d : Nat) (os : Array Obj) => Calls.regrown_of (w := x1) (d := d) (os := os) (by
            have ho := HO1.out.below (below_regrown x1 d os)
            have := place_any (some ⟨g, 0, none⟩) cv m.next id m.nodes (Sort.grow (redrawn x1 d) os) (fun b => u4.heap.size ≤ b ∧ b < (Sort.grow (redrawn x1 d) os).heap.size) (fun b hb => hb.2) (by rw [← HLM.out]; exact ho.rowOf (fun b h1 h2 => ⟨h1, h2⟩)) HS.out hid (by omega)
            rw [HAT.out] at this; exact this))
          have k0 := cell_regrown p0; have k1 := cell_regrown p1
          clear p0 p1
          refine wp_region_quiet_below (by kernel_rfl) (by kernel_rfl) ?_
          repeat (first | go_big_quiet_step (exact CP.out _ _) | quiet_step (exact CP.out _ _))
          refine wpQuiet_nil ?_
          intro _ hw'
          obtain ⟨⟨dq, osq⟩, hw''⟩ := hw'
          subst hw''
          have hbr := below_regrown x1 dq osq
          have HB2 := Lib.hid (HB1x.out.trans (hbr.mono HB1x.out.size))
          have HP2 := Lib.hid (HP1.out.below hbr hplt)
          have HR2 := Lib.hid (HR1x.out.below hbr HR1x.out.lt)
          have HO2 := Lib.hid (HO1.out.below hbr)
          have hbx2 : p < (Sort.grow (redrawn x1 dq) osq).heap.size := Nat.lt_of_lt_of_le hplt hbr.size
          clear k0 k1 CP hbr
          obtain ⟨x2, hu⟩ : ∃ z : World, Sort.grow (redrawn x1 dq) osq = z := ⟨_, rfl⟩
          rw [hu] at HB2 HP2 HR2 HO2 hbx2 ⊢
          clear hu hplt HO1 HP1 HB1x HR1x
          have hgx2 : g < x2.heap.size := by omega
          obtain ⟨hjl, hY⟩ := HY.out
          have hYm : Y ∈ l := by rw [← hY]; exact List.getElem_mem hjl
          have c4 := HO2.out.cell (i := j) (j := 6) hjl (by omega)
          rw [hY] at c4
          simp [LN.cells, nodeCellsA] at c4
          have z4 := HO2.out.frozen (j * 7 + 6)
          have hOL := (HO2.out.lists Y hYm).r
          obtain ⟨Ap, cp, hAp⟩ := own_shape hOL
          have HPR := Lib.hid (IsRow.of_own (F := fun b => b < x2.heap.size) refCells_len hOL (own_at hOL (fun b _ h => h)))
          have HOL := Lib.hid hOL
          have HAP := Lib.hid hAp
          have HYS : Hid (∀ b, Y.r.ownBlock = some b → u4.heap.size ≤ b ∧ b < p) := Lib.hid (fun b hb => HYB.out b (by simp [LN.blocks, hb]))
          have HGY : Hid (Y.r.ownBlock ≠ some g) := Lib.hid (fun e => HO2.out.row_ne hYm (b := g) (by rw [← e]; simp [LN.blocks]) rfl)
          rw [hAp] at c4
          clear hY hYm hOL hAp
          have HSK := Lib.hid (seekRef_any Ap cp nm Y.n.refs x2 (fun b => b < x2.heap.size) (fun b h => h) (by
            obtain ⟨A', c', e, _, _, h3⟩ := HPR.out
            rw [HAP.out] at e
            injection e with e1
            subst e1
            exact h3) HSN.out (by omega))
          go_wp2_with fail
          refine HSK.out.mono ?_
          rintro _ x3 ⟨k, b, rfl, hcut, hiff, hb⟩
          have HCUT := Lib.hid hcut; have HIFF := Lib.hid hiff
          have hkl := hcut.1
          have HB3 := Lib.hid (HB2.out.trans (hb.mono HB2.out.size))
          have HP3 := Lib.hid (HP2.out.below hb hbx2)
          have HR3 := Lib.hid (HR2.out.below hb HR2.out.lt)
          have HO3 := Lib.hid (HO2.out.below hb)
          have hgx3 : g < x3.heap.size := Nat.lt_of_lt_of_le hgx2 hb.size
          have hpx3 : p < x3.heap.size := Nat.lt_of_lt_of_le hbx2 hb.size
          have HOL3 := Lib.hid (own_keep HOL.out fun b e => hb.block b (HOL.out.lt b e).2)
          clear HSK hcut hiff hb c4 z4 HB2 HP2 HR2 HO2 HPR
          obtain ⟨hjl, hY⟩ := HY.out
          have hYm : Y ∈ l := by rw [← hY]; exact List.getElem_mem hjl
          have c4 := HO3.out.cell (i := j) (j := 6) hjl (by omega)
          rw [hY] at c4
          simp [LN.cells, nodeCellsA] at c4
          rw [HAP.out] at c4
          have z4 := HO3.out.frozen (j * 7 + 6)
          have k0 : (0 : Int) ≤ k := by omega
          clear hY hYm
          cases b
          · have HN : Hid (¬ ∃ h : k < Y.n.refs.length, (Y.n.refs[k]'h).role = nm) := Lib.hid (fun e => by have := HIFF.out.2 e; cases this)
            obtain ⟨q, hq⟩ : ∃ q, x3.heap.size = q := ⟨_, rfl⟩
            have HB4 := Lib.hid (HB3.out.alloc HB3.out.size (.cells #[.string nm, .int .i64 0] 82))
            have HQ4 : Hid (Blk (x3.alloc (.cells #[.string nm, .int .i64 0] 82)) q 82 (refCells (⟨nm, 0⟩ : ARef)).toArray) := Lib.hid (by rw [← hq]; exact Blk.new _ _ _)
            have HP4 := Lib.hid (HP3.out.alloc (.cells #[.string nm, .int .i64 0] 82))
            have HR4 := Lib.hid (HR3.out.alloc (.cells #[.string nm, .int .i64 0] 82))
            have HO4 := Lib.hid (HO3.out.below ((Below.refl x3.heap.size x3).alloc (Nat.le_refl _) (.cells #[.string nm, .int .i64 0] 82)))
            have HOL4 := Lib.hid (own_keep (w' := x3.alloc (.cells #[.string nm, .int .i64 0] 82)) HOL3.out fun b e => heap_alloc_old x3 _ (HOL3.out.lt b e).2)
            have hqp : p < q := by omega
            go_wp2_with fail
            (try rw [hq])
            obtain ⟨x4, hx4⟩ : ∃ z : World, x3.alloc (.cells #[.string nm, .int .i64 0] 82) = z := ⟨_, rfl⟩
            have hgx4 : g < x4.heap.size := by rw [← hx4]; simp; omega
            have hux4 : u4.heap.size ≤ x4.heap.size := by omega
            rw [hx4] at HB4 HQ4 HP4 HR4 HO4 HOL4 ⊢
            clear hx4 hq c4 z4 HB3 HP3 HR3 HO3 HOL3
            refine (insRef_any (.slice Ap Y.n.refs.length cp) Y.n.refs k ⟨nm, 0⟩ q x4 u4.heap.size (by rw [← HAP.out]; exact HOL4.out) HQ4.out (by rw [← HAP.out]; intro e; have := HYS.out _ e; omega) (by omega) hux4 hkl).mono ?_
            rintro _ x5 ⟨v', rfl, hown5, hg5, hat5⟩
            rw [← HAP.out] at hg5 hat5
            have hil : (insAt Y.n.refs k ⟨nm, 0⟩).length = Y.n.refs.length + 1 := insAt_len hkl _
            have hgg : x5.heap[g]? = x4.heap[g]? := hg5.block g hgx4 (fun e => HGY.out e.symm)
            obtain ⟨hjl, hY⟩ := HY.out
            have c4 : x5.cell? ⟨g, j * 7 + 6, none⟩ = some Y.r := by
              have h := HO4.out.cell (i := j) (j := 6) hjl (by omega)
              rw [hY] at h
              rw [World.cell?_of_block (w := x4) (a := ⟨g, j * 7 + 6, none⟩) hgg, h]
              simp [LN.cells, nodeCellsA]
            have z4 : x5.frozen? ⟨g, j * 7 + 6, none⟩ = false := by
              rw [World.frozen?_of_block (w := x4) (a := ⟨g, j * 7 + 6, none⟩) hgg]; exact HO4.out.frozen _
            have HB5 : Hid (Below w.heap.size w x5) := Lib.hid (HB4.out.grown hg5 (by have := HB4.out.size; omega) (fun b e => by have := HYS.out b e; have := HSZ.out; omega))
            have HP5 := Lib.hid (HP4.out.grown hg5 (fun e => by have := HYS.out _ e.symm; omega))
            have HR5 := Lib.hid (HR4.out.grown hg5 (fun e => by have := HYS.out _ e.symm; have := HRS.out; omega))
            have hown6 : x5.ownsRow u4.heap.size 82 2 v' (insAt Y.n.refs k ⟨nm, 0⟩).length ((insAt Y.n.refs k ⟨nm, 0⟩).flatMap refCells) := by rw [hil]; exact hown5
            have HOLN := Lib.hid hown6
            have HO6 := Lib.hid (HO4.out.setRefs hjl hY (insAt Y.n.refs k ⟨nm, 0⟩) v' hg5 (hat5.imp (fun h => h) .inr) hown6)
            have HB6 := Lib.hid (HB5.out.setCell (p := ⟨g, j * 7 + 6, none⟩) (by have := HSZ.out; show w.heap.size ≤ g; omega) v')
            have HP6 := Lib.hid (HP5.out.far (p := ⟨g, j * 7 + 6, none⟩) (by show p ≠ g; omega) v')
            have HR6 := Lib.hid (HR5.out.far (p := ⟨g, j * 7 + 6, none⟩) (by have := HRS.out; show w.heap.size + 1 ≠ g; omega) v')
            obtain ⟨b1, c1, hv', _, _, hb1, hb1w⟩ := own_some hown5 (by omega)
            have HIL := Lib.hid hil
            have HV : Hid (b1 ≠ p ∧ b1 ≠ w.heap.size + 1 ∧ w.heap.size ≤ b1) := Lib.hid (by
              have h1 := HRS.out; have h2 := HSZ.out
              have hlt4 := HP4.out.lt
              refine ⟨fun e => ?_, by omega, by omega⟩
              rcases hat5 with e2 | ⟨b2, e2, hb2⟩
              · have := HYS.out b1 (by rw [← e2, hv']; rfl); omega
              · rw [hv'] at e2
                have hbb : b1 = b2 := by injection e2
                omega)
            subst hv'
            have hgx5 : g < x5.heap.size := by have := hg5.size; omega
            clear hgg hY hown5 hown6 hg5 hat5 hil
            have HWE : Hid (∃ z, z = x5.setCell ⟨g, j * 7 + 6, none⟩ (.slice (some ⟨b1, 0, none⟩) (Y.n.refs.length + 1) c1)) := Lib.hid ⟨_, rfl⟩
            go_upto_region 12 with fail
            obtain ⟨x6, hx6⟩ := HWE.out
            rw [← hx6] at HO6 HB6 HP6 HR6
            (try rw [← hx6])
            have hgx6 : g < x6.heap.size := by rw [hx6]; simpa using hgx5
            have hb16 : b1 < x6.heap.size := by rw [hx6]; simpa using hb1w
            clear hx6 HWE c4 z4 HOLN HB4 HP4 HR4 HO4 HOL4
            obtain ⟨Y2, hY2⟩ : ∃ Y2 : LN, Y2 = ⟨{ Y.n with refs := insAt Y.n.refs k ⟨nm, 0⟩ }, Y.p, Y.k, .slice (some ⟨b1, 0, none⟩) (Y.n.refs.length + 1) c1⟩ := ⟨_, rfl⟩
            rw [← hY2] at HO6
            have hjl2 : j < (l.set j Y2).length := by simpa using hjl
            have hYY : (l.set j Y2)[j] = Y2 := List.getElem_set_self _
            have hm2 : Y2 ∈ l.set j Y2 := List.mem_iff_getElem.2 ⟨j, hjl2, hYY⟩
            have hY2n : Y2.n.refs = insAt Y.n.refs k ⟨nm, 0⟩ := by rw [hY2]
            have hY2p : Y2.r = .slice (some ⟨b1, 0, none⟩) Y2.n.refs.length c1 := by rw [hY2n, HIL.out, hY2]
            have c4 := HO6.out.cell (i := j) (j := 6) hjl2 (by omega)
            rw [hYY] at c4
            simp [LN.cells, nodeCellsA] at c4
            rw [hY2p, hY2n, HIL.out] at c4
            have hol := (HO6.out.lists Y2 hm2).r
            rw [hY2p, hY2n, HIL.out] at hol
            have hk1 : k < (insAt Y.n.refs k ⟨nm, 0⟩).length := by rw [HIL.out]; omega
            have hk2 : (k : Int) < (Y.n.refs.length : Int) + 1 := by omega
            have hk3 : k < Y.n.refs.length + 1 := by omega
            have hat : (insAt Y.n.refs k ⟨nm, 0⟩)[k] = ⟨nm, 0⟩ := insAt_at hkl _
            have d1 := own_cell hol (k * 2 + 1) (by omega)
            rw [flat_at refCells_len _ k 1 hk1 (by omega), hat] at d1
            simp [refCells] at d1
            have z1 := own_frozen hol (k * 2 + 1)
            have HO7 := Lib.hid (HO6.out.setInRefs hjl2 hYY hY2p (k := k) (by rw [hY2n]; exact hk1) (r := 1) (by omega) (.int .i64 tg) ⟨nm, tg⟩ (by
              have : Y2.n.refs[k]'(by rw [hY2n]; exact hk1) = ⟨nm, 0⟩ := by simp only [hY2n]; exact hat
              rw [this]; rfl))
            have HB7 := Lib.hid (HB6.out.setCell (p := ⟨b1, k * 2 + 1, none⟩) HV.out.2.2 (.int .i64 tg))
            have HP7 := Lib.hid (HP6.out.far (p := ⟨b1, k * 2 + 1, none⟩) (Ne.symm HV.out.1) (.int .i64 tg))
            have HR7 := Lib.hid (HR6.out.far (p := ⟨b1, k * 2 + 1, none⟩) (Ne.symm HV.out.2.1) (.int .i64 tg))
            have HM7 : Hid (((l.set j Y2).set j ⟨{ Y2.n with refs := Y2.n.refs.set k ⟨nm, tg⟩ }, Y2.p, Y2.k, Y2.r⟩).map LN.n = m.nodes.set j ((aimN nm tg) m.nodes[j])) := Lib.hid (by
              rw [List.set_set, List.map_set, HLM.out, HYN.out.2, hY2n, insAt_set hkl, setK_ins HSN.out HCUT.out HN.out, hY2]; rfl)
            have HWE : Hid (∃ z, z = x6.setCell ⟨b1, k * 2 + 1, none⟩ (.int .i64 tg)) := Lib.hid ⟨_, rfl⟩
            clear hol hYY hm2 hY2p hat hY2n
            go_upto_region 13 with fail
            obtain ⟨x7, hx7⟩ := HWE.out
            rw [← hx7] at HO7 HB7 HP7 HR7
            (try rw [← hx7])
            clear hx7 HWE c4 d1 z1
            have p0 := HP7.out.cell 0; have p1 := HP7.out.cell 1
            have hplt := HP7.out.lt
            simp at p0 p1
            have t0 := HR7.out.frozen 0; have t1 := HR7.out.frozen 1
            have r0 := HR7.out.cell 0; have r1 := HR7.out.cell 1
            have hrlt := HR7.out.lt
            simp at r0 r1
            go_wp2_with fail
            have hyS := (HR7.out.set_ 0 (.int .i64 m.next)).set_ 1 (.slice (some ⟨g, 0, none⟩) m.nodes.length cv)
            have f0 := hyS.cell 0; have f1 := hyS.cell 1
            simp at f0 f1
            have HBW := Lib.hid ((HB7.out.setCell (p := ⟨w.heap.size + 1, 0, none⟩) (by show w.heap.size ≤ w.heap.size + 1; omega) (.int .i64 m.next)).setCell (p := ⟨w.heap.size + 1, 1, none⟩) (by show w.heap.size ≤ w.heap.size + 1; omega) (.slice (some ⟨g, 0, none⟩) m.nodes.length cv))
            refine bodyPost_ret (v := .tuple #[.agg #[.int .i64 m.next, .slice (some ⟨g, 0, none⟩) m.nodes.length cv], .int .i64 0]) (by simp [results, Try.results43, go_sem, f0, f1]) rfl ⟨⟨_, rfl, Or.inr ⟨E.out, _, _, rfl, (HO7.out.keep (fun b h1 _ => ?_)).weaken HSZ.out, j, HJ1.out.1, HJ1.out.2, ?_⟩⟩, HBW.out⟩
            · have := HRS.out
              exact (Below.heap_setCell _ _ _ _ (by show b ≠ w.heap.size + 1; omega)).trans (Below.heap_setCell _ _ _ _ (by show b ≠ w.heap.size + 1; omega))
            · exact HM7.out
          · obtain ⟨hk1, hkn⟩ := HIFF.out.1 rfl
            obtain ⟨b0, c0, e0, _, _, hb0, hb0w⟩ := own_some HOL3.out (by omega)
            rw [HAP.out] at e0
            injection e0 with e1 _ e2
            subst e1; subst e2
            have hk2 : (k : Int) < (Y.n.refs.length : Int) := by omega
            have hol := HOL3.out
            rw [HAP.out] at hol
            have d1 := own_cell hol (k * 2 + 1) (by omega)
            rw [flat_at refCells_len _ k 1 hk1 (by omega)] at d1
            simp [refCells] at d1
            have z1 := own_frozen hol (k * 2 + 1)
            have HYB0 := HYS.out b0 (by rw [HAP.out]; rfl)
            obtain ⟨hjl, hY⟩ := HY.out
            have HO7 := Lib.hid (HO3.out.setInRefs hjl hY HAP.out (k := k) hk1 (r := 1) (by omega) (.int .i64 tg) ⟨nm, tg⟩ (by rw [show nm = Y.n.refs[k].role from hkn.symm]; rfl))
            have HB7 := Lib.hid (HB3.out.setCell (p := ⟨b0, k * 2 + 1, none⟩) (by have := HSZ.out; show w.heap.size ≤ b0; omega) (.int .i64 tg))
            have HP7 := Lib.hid (HP3.out.far (p := ⟨b0, k * 2 + 1, none⟩) (by show p ≠ b0; omega) (.int .i64 tg))
            have HR7 := Lib.hid (HR3.out.far (p := ⟨b0, k * 2 + 1, none⟩) (by have := HRS.out; show w.heap.size + 1 ≠ b0; omega) (.int .i64 tg))
            have HM7 : Hid ((l.set j ⟨{ Y.n with refs := Y.n.refs.set k ⟨nm, tg⟩ }, Y.p, Y.k, Y.r⟩).map LN.n = m.nodes.set j ((aimN nm tg) m.nodes[j])) := Lib.hid (by
              rw [List.map_set, HLM.out, HYN.out.2, setK_set HSN.out HCUT.out hk1 hkn]; rfl)
            have HWE : Hid (∃ z, z = x3.setCell ⟨b0, k * 2 + 1, none⟩ (.int .i64 tg)) := Lib.hid ⟨_, rfl⟩
            clear hol hY hkn
            go_upto_region 13 with fail
            obtain ⟨x7, hx7⟩ := HWE.out
            rw [← hx7] at HO7 HB7 HP7 HR7
            (try rw [← hx7])
            clear hx7 HWE c4 z4 d1 z1
            have p0 := HP7.out.cell 0; have p1 := HP7.out.cell 1
            have hplt := HP7.out.lt
            simp at p0 p1
            have t0 := HR7.out.frozen 0; have t1 := HR7.out.frozen 1
            have r0 := HR7.out.cell 0; have r1 := HR7.out.cell 1
            have hrlt := HR7.out.lt
            simp at r0 r1
            go_wp2_with fail
            have hyS := (HR7.out.set_ 0 (.int .i64 m.next)).set_ 1 (.slice (some ⟨g, 0, none⟩) m.nodes.length cv)
            have f0 := hyS.cell 0; have f1 := hyS.cell 1
            simp at f0 f1
            have HBW := Lib.hid ((HB7.out.setCell (p := ⟨w.heap.size + 1, 0, none⟩) (by show w.heap.size ≤ w.heap.size + 1; omega) (.int .i64 m.next)).setCell (p := ⟨w.heap.size + 1, 1, none⟩) (by show w.heap.size ≤ w.heap.size + 1; omega) (.slice (some ⟨g, 0, none⟩) m.nodes.length cv))
            refine bodyPost_ret (v := .tuple #[.agg #[.int .i64 m.next, .slice (some ⟨g, 0, none⟩) m.nodes.length cv], .int .i64 0]) (by simp [results, Try.results43, go_sem, f0, f1]) rfl ⟨⟨_, rfl, Or.inr ⟨E.out, _, _, rfl, (HO7.out.keep (fun b h1 _ => ?_)).weaken HSZ.out, j, HJ1.out.1, HJ1.out.2, ?_⟩⟩, HBW.out⟩
            · have := HRS.out
              exact (Below.heap_setCell _ _ _ _ (by show b ≠ w.heap.size + 1; omega)).trans (Below.heap_setCell _ _ _ _ (by show b ≠ w.heap.size + 1; omega))
            · exact HM7.out
        · have HATT := Lib.hid hjt2
          have E := Lib.hid (show EE = 20 from HEE.out.symm.trans (setE_node HCM.out HW.out (fun h => h) (by rw [hjt2]; omega)))
          clear hj1 hj2 hjt1 hjt2
          go_enter Try.func43, Try.ntmps43
          go_wp2_with fail
          (try rw [HU0.out])
          refine (HC2.out).mono ?_
          rintro _ u1 ⟨rfl, hb⟩
          have HB1 := Lib.hid (HB0.out.trans (hb.mono HB0.out.size))
          have HM1 := Lib.hid (HM0.out.below hb HM0.out.lt)
          have HR1 := Lib.hid (HR0.out.below hb HR0.out.lt)
          clear hb
          go_wp2_with fail
          refine (aword_is hns HW.out u1).mono ?_
          rintro _ u2 ⟨rfl, hb⟩
          have HB2 := Lib.hid (HB1.out.trans (hb.mono HB1.out.size))
          have HM2 := Lib.hid (HM1.out.below hb HM1.out.lt)
          have HR2 := Lib.hid (HR1.out.below hb HR1.out.lt)
          clear hb
          have m0 := HM2.out.cell 0; have m1 := HM2.out.cell 1
          have hmlt := HM2.out.lt
          simp at m0 m1
          go_wp2_with fail
          refine (int_is HAT.out (place_any A c m.next id m.nodes u2 F (fun b hb => Nat.lt_of_lt_of_le (hF b hb) HB2.out.size) (HH.out.keep ENode.stays (Keep.below HB2.out hF) (fun _ h => h)) HS.out hid (by omega))).mono ?_
          rintro _ u3 ⟨rfl, hb⟩
          have HB3 := Lib.hid (HB2.out.trans (hb.mono HB2.out.size))
          have HM3 := Lib.hid (HM2.out.below hb HM2.out.lt)
          have HR3 := Lib.hid (HR2.out.below hb HR2.out.lt)
          clear hb
          clear m0 m1 hmlt
          have m0 := HM3.out.cell 0; have m1 := HM3.out.cell 1
          have hmlt := HM3.out.lt
          simp at m0 m1
          go_wp2_with fail
          refine (int_is HATT.out (place_any A c m.next tg m.nodes u3 F (fun b hb => Nat.lt_of_lt_of_le (hF b hb) HB3.out.size) (HH.out.keep ENode.stays (Keep.below HB3.out hF) (fun _ h => h)) HS.out htg (by omega))).mono ?_
          rintro _ u4 ⟨rfl, hb⟩
          have HB4 := Lib.hid (HB3.out.trans (hb.mono HB3.out.size))
          have HM4 := Lib.hid (HM3.out.below hb HM3.out.lt)
          have HR4 := Lib.hid (HR3.out.below hb HR3.out.lt)
          clear hb
          clear m0 m1 hmlt
          have t0 := HR4.out.frozen 0; have t1 := HR4.out.frozen 1
          have r0 := HR4.out.cell 0; have r1 := HR4.out.cell 1
          have hrlt := HR4.out.lt
          simp at r0 r1
          go_wp2_with fail
          have hyS := (HR4.out.set_ 0 (.int .i64 0)).set_ 1 (.slice none 0 0)
          have f0 := hyS.cell 0; have f1 := hyS.cell 1
          simp at f0 f1
          have HBW := Lib.hid ((HB4.out.setCell (p := ⟨w.heap.size + 1, 0, none⟩) (by show w.heap.size ≤ w.heap.size + 1; omega) (.int .i64 0)).setCell (p := ⟨w.heap.size + 1, 1, none⟩) (by show w.heap.size ≤ w.heap.size + 1; omega) (.slice none 0 0))
          exact bodyPost_ret (v := .tuple #[.agg #[.int .i64 0, .slice none 0 0], .int .i64 (20)]) (by simp [results, Try.results43, go_sem, f0, f1]) rfl ⟨⟨_, rfl, Or.inl ⟨by rw [E.out]; decide, by rw [E.out]⟩⟩, HBW.out⟩
      · have HAT := Lib.hid hj2
        have E := Lib.hid (show EE = 20 from HEE.out.symm.trans (setE_node HCM.out HW.out (fun h => h) (by rw [hj2]; omega)))
        clear hj1 hj2
        go_enter Try.func43, Try.ntmps43
        go_wp2_with fail
        (try rw [HU0.out])
        refine (HC2.out).mono ?_
        rintro _ u1 ⟨rfl, hb⟩
        have HB1 := Lib.hid (HB0.out.trans (hb.mono HB0.out.size))
        have HM1 := Lib.hid (HM0.out.below hb HM0.out.lt)
        have HR1 := Lib.hid (HR0.out.below hb HR0.out.lt)
        clear hb
        go_wp2_with fail
        refine (aword_is hns HW.out u1).mono ?_
        rintro _ u2 ⟨rfl, hb⟩
        have HB2 := Lib.hid (HB1.out.trans (hb.mono HB1.out.size))
        have HM2 := Lib.hid (HM1.out.below hb HM1.out.lt)
        have HR2 := Lib.hid (HR1.out.below hb HR1.out.lt)
        clear hb
        have m0 := HM2.out.cell 0; have m1 := HM2.out.cell 1
        have hmlt := HM2.out.lt
        simp at m0 m1
        go_wp2_with fail
        refine (int_is HAT.out (place_any A c m.next id m.nodes u2 F (fun b hb => Nat.lt_of_lt_of_le (hF b hb) HB2.out.size) (HH.out.keep ENode.stays (Keep.below HB2.out hF) (fun _ h => h)) HS.out hid (by omega))).mono ?_
        rintro _ u3 ⟨rfl, hb⟩
        have HB3 := Lib.hid (HB2.out.trans (hb.mono HB2.out.size))
        have HM3 := Lib.hid (HM2.out.below hb HM2.out.lt)
        have HR3 := Lib.hid (HR2.out.below hb HR2.out.lt)
        clear hb
        clear m0 m1 hmlt
        have t0 := HR3.out.frozen 0; have t1 := HR3.out.frozen 1
        have r0 := HR3.out.cell 0; have r1 := HR3.out.cell 1
        have hrlt := HR3.out.lt
        simp at r0 r1
        go_wp2_with fail
        have hyS := (HR3.out.set_ 0 (.int .i64 0)).set_ 1 (.slice none 0 0)
        have f0 := hyS.cell 0; have f1 := hyS.cell 1
        simp at f0 f1
        have HBW := Lib.hid ((HB3.out.setCell (p := ⟨w.heap.size + 1, 0, none⟩) (by show w.heap.size ≤ w.heap.size + 1; omega) (.int .i64 0)).setCell (p := ⟨w.heap.size + 1, 1, none⟩) (by show w.heap.size ≤ w.heap.size + 1; omega) (.slice none 0 0))
        exact bodyPost_ret (v := .tuple #[.agg #[.int .i64 0, .slice none 0 0], .int .i64 (20)]) (by simp [results, Try.results43, go_sem, f0, f1]) rfl ⟨⟨_, rfl, Or.inl ⟨by rw [E.out]; decide, by rw [E.out]⟩⟩, HBW.out⟩
  · have HC2 := Lib.hid (int_is (checkI_no hc) HC.out)
    have E := Lib.hid (show EE = 29 from HEE.out.symm.trans (setE_check hc))
    clear hc HC
    go_enter Try.func43, Try.ntmps43
    go_wp2_with fail
    (try rw [HU0.out])
    refine (HC2.out).mono ?_
    rintro _ u1 ⟨rfl, hb⟩
    have HB1 := Lib.hid (HB0.out.trans (hb.mono HB0.out.size))
    have HM1 := Lib.hid (HM0.out.below hb HM0.out.lt)
    have HR1 := Lib.hid (HR0.out.below hb HR0.out.lt)
    clear hb
    have t0 := HR1.out.frozen 0; have t1 := HR1.out.frozen 1
    have r0 := HR1.out.cell 0; have r1 := HR1.out.cell 1
    have hrlt := HR1.out.lt
    simp at r0 r1
    go_wp2_with fail
    have hyS := (HR1.out.set_ 0 (.int .i64 0)).set_ 1 (.slice none 0 0)
    have f0 := hyS.cell 0; have f1 := hyS.cell 1
    simp at f0 f1
    have HBW := Lib.hid ((HB1.out.setCell (p := ⟨w.heap.size + 1, 0, none⟩) (by show w.heap.size ≤ w.heap.size + 1; omega) (.int .i64 0)).setCell (p := ⟨w.heap.size + 1, 1, none⟩) (by show w.heap.size ≤ w.heap.size + 1; omega) (.slice none 0 0))
    exact bodyPost_ret (v := .tuple #[.agg #[.int .i64 0, .slice none 0 0], .int .i64 (29)]) (by simp [results, Try.results43, go_sem, f0, f1]) rfl ⟨⟨_, rfl, Or.inl ⟨by rw [E.out]; decide, by rw [E.out]⟩⟩, HBW.out⟩
end Go.Proofs.Ytmafhaadcjgcbaa
end
section
namespace Go.Proofs.Ytmafhaadcjgcbaa
open Go Go.RowKit

set_option maxRecDepth 100000 in
set_option maxHeartbeats 4000000 in
theorem addA_any (A : Option Addr) (c : Nat) (m : AModel) (w : World) (F : Nat → Prop) (hF : ∀ b, F b → b < w.heap.size) (h : RowOf 7 ENode w F A m.nodes) (hz : ∀ x ∈ m.nodes, NodeOK x) (hz' : ∀ x ∈ m.nodes, LensOK x) (hl : m.nodes.length ≤ 9223372036854775807) (parent : Int) (hpr : InR parent) (role : ByteArray) (hrs : role.size ≤ 9223372036854775807) (a : Int) (ha : InR a) (concept : ByteArray) (hcs : concept.size ≤ 9223372036854775807) :
    Calls Try.prog 37 #[.agg #[.int .i64 m.next, .slice A m.nodes.length c], .int .i64 parent, .string role, .int .i64 a, .string concept] w fun e w' => (∃ v, e = .returned v ∧ AddAs w' w.heap.size m parent role a concept v) ∧ Below w.heap.size w w' := by
  have HBA := Lib.hid (((Below.refl w.heap.size w).alloc (Nat.le_refl _) (.cells #[.int .i64 m.next, .slice A m.nodes.length c] 24)).alloc (by simp) (.cells #[.int .i64 0, .slice none 0 0] 24))
  have HC := Lib.hid (check_any A c m _ F (fun b hb => Nat.lt_of_lt_of_le (hF b hb) HBA.out.size) (h.keep ENode.stays (Keep.below HBA.out hF) (fun _ h => h)) hz hl)
  have HM0 := Lib.hid ((Blk.new w 24 #[.int .i64 m.next, .slice A m.nodes.length c]).alloc (.cells #[.int .i64 0, .slice none 0 0] 24))
  have HR0 := Lib.hid (Blk.new' (w := w.alloc (.cells #[.int .i64 m.next, .slice A m.nodes.length c] 24)) (g := w.heap.size + 1) (t := 24) (cs := #[.int .i64 0, .slice none 0 0]) (by simp))
  have HH := Lib.hid h; have HZ := Lib.hid hz; have HZ' := Lib.hid hz'
  clear h hz hz'
  obtain ⟨u0, hu0⟩ : ∃ u : World, (w.alloc (.cells #[.int .i64 m.next, .slice A m.nodes.length c] 24)).alloc (.cells #[.int .i64 0, .slice none 0 0] 24) = u := ⟨_, rfl⟩
  rw [hu0] at HBA HC HM0 HR0
  have HU0 := Lib.hid hu0
  clear hu0
  have HB0 := HBA
  by_cases hc : CheckM m
  · have HC2 := Lib.hid (int_is (checkI_yes hc) HC.out)
    have HCM := Lib.hid hc
    have HT := Lib.hid hc.tree
    have HS := Lib.hid hc.1.srtB
    have HK4 := Lib.hid hc.kids4
    have hl4 : m.nodes.length ≤ 4096 := hc.1.1.2.2
    have hnx : 1 ≤ m.next ∧ m.next ≤ 1048577 := ⟨hc.1.1.1, hc.1.1.2.1⟩
    clear hc HC
    rcases hwc : wordA concept with _ | _
    · have E := Lib.hid (addE_word (parent := parent) (role := role) (a := a) (concept := concept) HCM.out (Or.inl hwc))
      have HW := Lib.hid hwc
      clear hwc
      go_enter Try.func37, Try.ntmps37
      go_wp2_with fail
      (try rw [HU0.out])
      refine (HC2.out).mono ?_
      rintro _ u1 ⟨rfl, hb⟩
      have HB1 := Lib.hid (HB0.out.trans (hb.mono HB0.out.size))
      have HM1 := Lib.hid (HM0.out.below hb HM0.out.lt)
      have HR1 := Lib.hid (HR0.out.below hb HR0.out.lt)
      clear hb
      go_wp2_with fail
      refine (aword_is hcs HW.out u1).mono ?_
      rintro _ u2 ⟨rfl, hb⟩
      have HB2 := Lib.hid (HB1.out.trans (hb.mono HB1.out.size))
      have HM2 := Lib.hid (HM1.out.below hb HM1.out.lt)
      have HR2 := Lib.hid (HR1.out.below hb HR1.out.lt)
      clear hb
      have t0 := HR2.out.frozen 0; have t1 := HR2.out.frozen 1
      have r0 := HR2.out.cell 0; have r1 := HR2.out.cell 1
      have hrlt := HR2.out.lt
      simp at r0 r1
      go_wp2_with fail
      have hyS := (HR2.out.set_ 0 (.int .i64 0)).set_ 1 (.slice none 0 0)
      have f0 := hyS.cell 0; have f1 := hyS.cell 1
      simp at f0 f1
      have HBW := Lib.hid ((HB2.out.setCell (p := ⟨w.heap.size + 1, 0, none⟩) (Nat.le_succ _) (.int .i64 0)).setCell (p := ⟨w.heap.size + 1, 1, none⟩) (Nat.le_succ _) (.slice none 0 0))
      exact bodyPost_ret (v := .tuple #[.agg #[.int .i64 0, .slice none 0 0], .int .i64 0, .int .i64 (2)]) (by simp [results, Try.results37, go_sem, f0, f1]) rfl ⟨⟨_, rfl, Or.inl ⟨_, by decide, E.out, rfl⟩⟩, HBW.out⟩
    · have HWC := Lib.hid hwc
      clear hwc
      by_cases hp0 : parent = 0
      · subst hp0
        have g0 : ((0 : Int) != 0) = false := by decide
        by_cases hre : rootE role a = 0
        · have HRE := Lib.hid hre
          have HR00 : Hid (role = ⟨#[]⟩) := Lib.hid (by
            unfold rootE at hre
            split at hre
            · rename_i h
              obtain ⟨⟨l⟩⟩ := role
              have := h.1
              have h2 : l.length = 0 := this
              rw [List.length_eq_zero_iff.1 h2]
            · cases hre)
          have E0 := Lib.hid (show addE m 0 role a concept = if m.nodes.length = 4096 ∨ 1048576 < m.next then 4 else 0 by rw [addE_root HCM.out HWC.out, if_neg (fun e => e hre)])
          clear hre
          go_enter Try.func37, Try.ntmps37
          go_wp2_with fail
          (try rw [HU0.out])
          refine (HC2.out).mono ?_
          rintro _ u1 ⟨rfl, hb⟩
          have HB1 := Lib.hid (HB0.out.trans (hb.mono HB0.out.size))
          have HM1 := Lib.hid (HM0.out.below hb HM0.out.lt)
          have HR1 := Lib.hid (HR0.out.below hb HR0.out.lt)
          clear hb
          go_wp2_with fail
          refine (aword_is hcs HWC.out u1).mono ?_
          rintro _ u2 ⟨rfl, hb⟩
          have HB2 := Lib.hid (HB1.out.trans (hb.mono HB1.out.size))
          have HM2 := Lib.hid (HM1.out.below hb HM1.out.lt)
          have HR2 := Lib.hid (HR1.out.below hb HR1.out.lt)
          clear hb
          have m0 := HM2.out.cell 0; have m1 := HM2.out.cell 1
          have hmlt := HM2.out.lt
          simp at m0 m1
          go_wp2_with fail
          refine (int_is HRE.out (goalRoot_any m.next A m.nodes.length c u2 role a 1)).mono ?_
          rintro _ u3 ⟨rfl, hb⟩
          have HB3 := Lib.hid (HB2.out.trans (hb.mono HB2.out.size))
          have HM3 := Lib.hid (HM2.out.below hb HM2.out.lt)
          have HR3 := Lib.hid (HR2.out.below hb HR2.out.lt)
          clear hb
          clear m0 m1 hmlt
          by_cases hfl : m.nodes.length = 4096
          · have E := Lib.hid (show addE m 0 role a concept = 4 by rw [E0.out, if_pos (Or.inl hfl)])
            have hq1 : ((m.nodes.length : Int) == 4096) = true := by rw [hfl]; rfl
            have hq2 : decide ((4096 : Int) ≤ (m.nodes.length : Int)) = true := decide_eq_true (by omega)
            clear hfl
            have m0 := HM3.out.cell 0; have m1 := HM3.out.cell 1
            have hmlt := HM3.out.lt
            simp at m0 m1
            have t0 := HR3.out.frozen 0; have t1 := HR3.out.frozen 1
            have r0 := HR3.out.cell 0; have r1 := HR3.out.cell 1
            have hrlt := HR3.out.lt
            simp at r0 r1
            go_wp2_with fail
            have hyS := (HR3.out.set_ 0 (.int .i64 0)).set_ 1 (.slice none 0 0)
            have f0 := hyS.cell 0; have f1 := hyS.cell 1
            simp at f0 f1
            have HBW := Lib.hid ((HB3.out.setCell (p := ⟨w.heap.size + 1, 0, none⟩) (Nat.le_succ _) (.int .i64 0)).setCell (p := ⟨w.heap.size + 1, 1, none⟩) (Nat.le_succ _) (.slice none 0 0))
            exact bodyPost_ret (v := .tuple #[.agg #[.int .i64 0, .slice none 0 0], .int .i64 0, .int .i64 (4)]) (by simp [results, Try.results37, go_sem, f0, f1]) rfl ⟨⟨_, rfl, Or.inl ⟨_, by decide, E.out, rfl⟩⟩, HBW.out⟩
          · have hq1 : ((m.nodes.length : Int) == 4096) = false := beq_eq_false_iff_ne.2 (by omega)
            have hq2 : decide ((4096 : Int) ≤ (m.nodes.length : Int)) = false := decide_eq_false (by omega)
            by_cases hfn : 1048576 < m.next
            · have E := Lib.hid (show addE m 0 role a concept = 4 by rw [E0.out, if_pos (Or.inr hfn)])
              have hq3 : decide ((1048576 : Int) < m.next) = true := decide_eq_true hfn
              clear hfn
              have m0 := HM3.out.cell 0; have m1 := HM3.out.cell 1
              have hmlt := HM3.out.lt
              simp at m0 m1
              have t0 := HR3.out.frozen 0; have t1 := HR3.out.frozen 1
              have r0 := HR3.out.cell 0; have r1 := HR3.out.cell 1
              have hrlt := HR3.out.lt
              simp at r0 r1
              go_wp2_with fail
              have hyS := (HR3.out.set_ 0 (.int .i64 0)).set_ 1 (.slice none 0 0)
              have f0 := hyS.cell 0; have f1 := hyS.cell 1
              simp at f0 f1
              have HBW := Lib.hid ((HB3.out.setCell (p := ⟨w.heap.size + 1, 0, none⟩) (Nat.le_succ _) (.int .i64 0)).setCell (p := ⟨w.heap.size + 1, 1, none⟩) (Nat.le_succ _) (.slice none 0 0))
              exact bodyPost_ret (v := .tuple #[.agg #[.int .i64 0, .slice none 0 0], .int .i64 0, .int .i64 (4)]) (by simp [results, Try.results37, go_sem, f0, f1]) rfl ⟨⟨_, rfl, Or.inl ⟨_, by decide, E.out, rfl⟩⟩, HBW.out⟩
            · have hq3 : decide ((1048576 : Int) < m.next) = false := decide_eq_false hfn
              have E := Lib.hid (show addE m 0 role a concept = 0 by rw [E0.out, if_neg (by omega)])
              have hnx2 : m.next ≤ 1048576 := by omega
              have m0 := HM3.out.cell 0; have m1 := HM3.out.cell 1
              have hmlt := HM3.out.lt
              simp at m0 m1
              go_wp2_with fail
              refine (twinA_any A c m u3 F (fun b hb => Nat.lt_of_lt_of_le (hF b hb) HB3.out.size) (HH.out.keep ENode.stays (Keep.below HB3.out hF) (fun _ h => h)) HZ'.out (by omega)).mono ?_
              rintro _ u4 ⟨vt, rfl, l, hown, hlm, hb⟩
              have HB4 := Lib.hid (HB3.out.trans (hb.mono HB3.out.size))
              have HM4 := Lib.hid (HM3.out.below hb HM3.out.lt)
              have HR4 := Lib.hid (HR3.out.below hb HR3.out.lt)
              have HSZ := Lib.hid HB3.out.size
              have HO := Lib.hid hown; have HLM := Lib.hid hlm
              have hll : l.length = m.nodes.length := by rw [← hlm]; simp
              have HLX := Lib.hid hll
              have hlb : l.length ≤ 4096 := by omega
              clear hll
              have hRS := HR3.out.lt
              have hbs := hb.size
              obtain ⟨Av, cv, rfl⟩ := own_shape hown.row
              clear hb hown hlm m0 m1 hmlt
              have m0 := HM4.out.cell 0; have m1 := HM4.out.cell 1
              have hmlt := HM4.out.lt
              simp at m0 m1
              go_upto_region 13 with fail
              obtain ⟨p, hp⟩ : ∃ p, u4.heap.size = p := ⟨_, rfl⟩
              obtain ⟨x1, hx1⟩ : ∃ z : World, u4.alloc (.cells #[.int .i64 m.next, .slice Av l.length cv] 24) = z := ⟨_, rfl⟩
              have HX : Hid (Below u4.heap.size u4 x1) := Lib.hid (by rw [← hx1]; exact (Below.refl _ _).alloc (Nat.le_refl _) _)
              have HP : Hid (Blk x1 p 24 #[.int .i64 m.next, .slice Av l.length cv]) := Lib.hid (by rw [← hx1, ← hp]; exact Blk.new _ _ _)
              have HOx := Lib.hid (HO.out.below HX.out)
              have HBx := Lib.hid (HB4.out.trans (HX.out.mono HB4.out.size))
              have HMx := Lib.hid (HM4.out.below HX.out HM4.out.lt)
              have HRx := Lib.hid (HR4.out.below HX.out HR4.out.lt)
              have HPL : Hid (∀ b, some b ∈ ((Value.slice Av l.length cv).ownBlock :: allBlocks l) → b < p) := Lib.hid (fun b hb => by rw [← hp]; exact (HO.out.lt b hb).2)
              have hpw : w.heap.size + 1 < p := by have := HR4.out.lt; omega
              (try rw [hx1])
              (try rw [hp])
              clear hx1 m0 m1 hmlt HO
              have hup : u3.heap.size ≤ p := by omega
              clear hp
              have p0 := HP.out.cell 0; have p1 := HP.out.cell 1
              have z0 := HP.out.frozen 0; have z1 := HP.out.frozen 1
              have hplt := HP.out.lt
              simp at p0 p1
              have m0 := HMx.out.cell 0; have m1 := HMx.out.cell 1
              have hmlt := HMx.out.lt
              simp at m0 m1
              have hw1 : IntKind.i64.wrap (m.next + 1) = m.next + 1 := by rw [IntKind.wrap_i64]; omega
              have HP2 := Lib.hid (HP.out.set_ 0 (.int .i64 (m.next + 1)))
              have HB2x := Lib.hid (HBx.out.setCell (p := ⟨p, 0, none⟩) (by show w.heap.size ≤ p; omega) (.int .i64 (m.next + 1)))
              have HM2x := Lib.hid (HMx.out.far (p := ⟨p, 0, none⟩) (by show w.heap.size ≠ p; omega) (.int .i64 (m.next + 1)))
              have HR2x := Lib.hid (HRx.out.far (p := ⟨p, 0, none⟩) (by show w.heap.size + 1 ≠ p; omega) (.int .i64 (m.next + 1)))
              have HO2x : Hid (OwnM (x1.setCell ⟨p, 0, none⟩ (.int .i64 (m.next + 1))) u3.heap.size (.slice Av l.length cv) l) := Lib.hid ⟨own_keep HOx.out.row fun b e => Below.heap_setCell _ _ _ _ (by have := HPL.out b (by rw [← e]; exact List.mem_cons_self ..); show b ≠ p; omega), fun y hy => (HOx.out.lists y hy).keep fun b hb => Below.heap_setCell _ _ _ _ (by have := HPL.out b (List.mem_cons_of_mem _ (mem_all hy hb)); show b ≠ p; omega), HOx.out.dis⟩
              have HWE : Hid (∃ z, z = x1.setCell ⟨p, 0, none⟩ (.int .i64 (m.next + 1))) := Lib.hid ⟨_, rfl⟩
              have hsx : p < (x1.setCell ⟨p, 0, none⟩ (.int .i64 (m.next + 1))).heap.size := by simpa using hplt
              simp only [Array.setIfInBounds] at HP2
              go_upto_region 15 with fail
              obtain ⟨x2, hx2⟩ := HWE.out
              rw [← hx2] at HP2 HB2x HM2x HR2x HO2x hsx
              (try rw [← hx2])
              clear hx2 HWE p0 p1 z0 z1 hplt m0 m1 hmlt HP HBx HMx HRx HOx
              have HP2' : Hid (Blk x2 p 24 #[.int .i64 (m.next + 1), .slice Av l.length cv]) := Lib.hid (by simpa using HP2.out)
              clear HP2
              have HP := HP2'; have HBx := HB2x; have HMx := HM2x; have HRx := HR2x; have HOx := HO2x
              clear HP2' HB2x HM2x HR2x HO2x
              have p0 := HP.out.cell 0; have p1 := HP.out.cell 1
              have z0 := HP.out.frozen 0; have z1 := HP.out.frozen 1
              have hplt := HP.out.lt
              simp at p0 p1
              obtain ⟨q, hq⟩ : ∃ q, x2.heap.size = q := ⟨_, rfl⟩
              have HQ : Hid (Blk (x2.alloc (.cells #[.int .i64 m.next, .string concept, .int .i64 0, .string ⟨#[]⟩, .slice none 0 0, .slice none 0 0, .slice none 0 0] 38)) q 38 #[.int .i64 m.next, .string concept, .int .i64 0, .string ⟨#[]⟩, .slice none 0 0, .slice none 0 0, .slice none 0 0]) := Lib.hid (by rw [← hq]; exact Blk.new _ _ _)
              have HOq := Lib.hid (HOx.out.below ((Below.refl x2.heap.size x2).alloc (Nat.le_refl _) (.cells #[.int .i64 m.next, .string concept, .int .i64 0, .string ⟨#[]⟩, .slice none 0 0, .slice none 0 0, .slice none 0 0] 38)))
              have HPq := Lib.hid (HP.out.alloc (.cells #[.int .i64 m.next, .string concept, .int .i64 0, .string ⟨#[]⟩, .slice none 0 0, .slice none 0 0, .slice none 0 0] 38))
              have hqs : u3.heap.size ≤ x2.heap.size := by omega
              have HBq := Lib.hid (HBx.out.alloc HBx.out.size (.cells #[.int .i64 m.next, .string concept, .int .i64 0, .string ⟨#[]⟩, .slice none 0 0, .slice none 0 0, .slice none 0 0] 38))
              have HMq := Lib.hid (HMx.out.alloc (.cells #[.int .i64 m.next, .string concept, .int .i64 0, .string ⟨#[]⟩, .slice none 0 0, .slice none 0 0, .slice none 0 0] 38))
              have HRq := Lib.hid (HRx.out.alloc (.cells #[.int .i64 m.next, .string concept, .int .i64 0, .string ⟨#[]⟩, .slice none 0 0, .slice none 0 0, .slice none 0 0] 38))
              go_wp2_with (at_builtin; refine wpList_append_from _ rfl (.tmp 70) (.tmp 74) 22 rfl u3.heap.size 38 Try.underlying22 node_info rfl (by omega) (.slice Av l.length cv) l.length (l.flatMap LN.cells) (by first | rfl | simp [Act.eval]) HOq.out.row (some ⟨x2.heap.size, 0, none⟩) 1 1 (LN.cells (⟨newN m concept 0 ⟨#[]⟩, .slice none 0 0, .slice none 0 0, .slice none 0 0⟩ : LN)) (by first | rfl | simp [Act.eval]) rfl (by simp) (fun ad e => by cases e; rw [hq]; exact news_cells HQ.out) (fun u hu => by simp only [LN.cells, nodeCellsA, newN, List.mem_cons, List.not_mem_nil, or_false] at hu; rcases hu with rfl | rfl | rfl | rfl | rfl | rfl | rfl <;> rfl) (by unfold maxLen; omega) (by omega) (by simp; omega) ?_)
              intro A6 c6 w6 own6 hg6 hat6
              have hrow := fun k (e : (Value.slice Av l.length cv).ownBlock = some k) => HPL.out k (by rw [← e]; exact List.mem_cons_self ..)
              have hrow2 := fun k (e : (Value.slice Av l.length cv).ownBlock = some k) => (HOq.out.row.lt k e).1
              have HW6 := Lib.hid (HOq.out.push (x := (⟨newN m concept 0 ⟨#[]⟩, .slice none 0 0, .slice none 0 0, .slice none 0 0⟩ : LN)) ⟨World.ownsRow_nil _ _ _ _, OwnI.nil _ _, World.ownsRow_nil _ _ _ _⟩ (fun b => by simp [LN.blocks, Value.ownBlock]) (fun b hb => by simp [LN.blocks, Value.ownBlock] at hb) own6 hg6 (by rcases hat6 with e | e; exact .inl e; exact .inr (by rw [e]; simp [hq])))
              have HB6 := Lib.hid (HBq.out.grown hg6 (by simp; have := HBx.out.size; omega) (fun k e => by have := hrow2 k e; have := HSZ.out; omega))
              have HP6 := Lib.hid (HPq.out.grown hg6 (fun e => by have := hrow _ e.symm; omega))
              have HM6 := Lib.hid (HMq.out.grown hg6 (fun e => by have := hrow2 _ e.symm; have := HSZ.out; omega))
              have HR6 := Lib.hid (HRq.out.grown hg6 (fun e => by have := hrow2 _ e.symm; omega))
              have HAT : Hid (∀ b, some b ∈ ((Value.slice A6 (l.length + 1) c6).ownBlock :: allBlocks (l ++ [(⟨newN m concept 0 ⟨#[]⟩, .slice none 0 0, .slice none 0 0, .slice none 0 0⟩ : LN)])) → b ≠ p) := Lib.hid (fun b hb e => by
                subst e
                rcases List.mem_cons.1 hb with hb | hb
                · rcases hat6 with e | e
                  · have := hrow b (by rw [← e]; exact hb.symm); omega
                  · have h2 := hb.trans e
                    injection h2 with h2
                    (try simp at h2)
                    omega
                · rw [all_append, List.mem_append] at hb
                  rcases hb with hb | hb
                  · have := HPL.out b (List.mem_cons_of_mem _ hb); omega
                  · simp [allBlocks, LN.blocks, Value.ownBlock] at hb)
              have hs6 := hg6.size
              clear own6 hg6 hat6 hrow hrow2 p0 p1 z0 z1
              have p0 := HP6.out.cell 0; have p1 := HP6.out.cell 1
              have z0 := HP6.out.frozen 0; have z1 := HP6.out.frozen 1
              have hplt6 := HP6.out.lt
              simp at p0 p1
              have HP7 := Lib.hid (HP6.out.set_ 1 (.slice A6 (l.length + 1) c6))
              have HB7 := Lib.hid (HB6.out.setCell (p := ⟨p, 1, none⟩) (by show w.heap.size ≤ p; omega) (.slice A6 (l.length + 1) c6))
              have HM7 := Lib.hid (HM6.out.far (p := ⟨p, 1, none⟩) (by show w.heap.size ≠ p; omega) (.slice A6 (l.length + 1) c6))
              have HR7 := Lib.hid (HR6.out.far (p := ⟨p, 1, none⟩) (by show w.heap.size + 1 ≠ p; omega) (.slice A6 (l.length + 1) c6))
              have HO7 : Hid (OwnM (w6.setCell ⟨p, 1, none⟩ (.slice A6 (l.length + 1) c6)) u3.heap.size (.slice A6 (l.length + 1) c6) (l ++ [(⟨newN m concept 0 ⟨#[]⟩, .slice none 0 0, .slice none 0 0, .slice none 0 0⟩ : LN)])) := Lib.hid ⟨own_keep HW6.out.row fun b e => Below.heap_setCell _ _ _ _ (HAT.out b (by rw [← e]; exact List.mem_cons_self ..)), fun y hy => (HW6.out.lists y hy).keep fun b hb => Below.heap_setCell _ _ _ _ (HAT.out b (List.mem_cons_of_mem _ (mem_all hy hb))), HW6.out.dis⟩
              have HWE : Hid (∃ z, z = w6.setCell ⟨p, 1, none⟩ (.slice A6 (l.length + 1) c6)) := Lib.hid ⟨_, rfl⟩
              have hs7 : u3.heap.size ≤ (w6.setCell ⟨p, 1, none⟩ (.slice A6 (l.length + 1) c6)).heap.size := by simp at hs6 ⊢; omega
              go_upto_region 16 with fail
              obtain ⟨x3, hx3⟩ := HWE.out
              rw [← hx3] at HP7 HB7 HM7 HR7 HO7 hs7
              (try rw [← hx3])
              clear hx3 HWE p0 p1 z0 z1 hplt6 HP6 HB6 HM6 HR6 HW6 hs6 HQ HOq HPq HBq HMq HRq hq HP HBx HMx HRx HOx
              have HP8 : Hid (Blk x3 p 24 #[.int .i64 (m.next + 1), .slice A6 (l.length + 1) c6]) := Lib.hid (by simpa using HP7.out)
              clear HP7
              have hll := HLX.out
              have HMAP : Hid ((l ++ [(⟨newN m concept 0 ⟨#[]⟩, .slice none 0 0, .slice none 0 0, .slice none 0 0⟩ : LN)]).map LN.n = m.nodes ++ [newN m concept 0 ⟨#[]⟩]) := Lib.hid (by rw [List.map_append, HLM.out]; rfl)
              have HLL := Lib.hid (show (l ++ [(⟨newN m concept 0 ⟨#[]⟩, .slice none 0 0, .slice none 0 0, .slice none 0 0⟩ : LN)]).length = l.length + 1 by simp)
              have p0 := HP8.out.cell 0; have p1 := HP8.out.cell 1
              have hplt := HP8.out.lt
              simp at p0 p1
              have HSR := Lib.hid (more_srt (n0 := newN m concept 0 ⟨#[]⟩) HCM.out hnx2 rfl)
              have HCL := Lib.hid (more_closed (n0 := newN m concept 0 ⟨#[]⟩) HCM.out rfl)
              have HKR := Lib.hid (more_kids (n0 := newN m concept 0 ⟨#[]⟩) (fun x hx => (HZ.out x hx).2.2) rfl)
              have HHG := Lib.hid (hangRoot_any (m.next + 1) (.slice A6 (l.length + 1) c6) (l ++ [(⟨newN m concept 0 ⟨#[]⟩, .slice none 0 0, .slice none 0 0, .slice none 0 0⟩ : LN)]) x3 u3.heap.size _ (fun _ h => h) HO7.out hs7 (by rw [HMAP.out]; exact HSR.out) (by rw [HLL.out]; omega) l.length (by rw [HLL.out]; omega) (⟨newN m concept 0 ⟨#[]⟩, .slice none 0 0, .slice none 0 0, .slice none 0 0⟩ : LN) (by simp) role a)
              have HHG2 := HHG.out
              rw [show ((⟨newN m concept 0 ⟨#[]⟩, .slice none 0 0, .slice none 0 0, .slice none 0 0⟩ : LN)).n.id = m.next from rfl] at HHG2
              have HHG3 := Lib.hid HHG2
              clear HHG HHG2 hll
              go_wp2_with fail
              refine HHG3.out.mono ?_
              rintro _ x5 ⟨rfl, l2, hown2, hmap2, hk5⟩
              have HB10 := Lib.hid (HB7.out.trans (hk5.toBelow (B := w.heap.size) HB7.out.size (fun b hb => by have := (HO7.out.lt b hb).1; have := HSZ.out; omega)))
              have HRA := Lib.hid (hk5.blk HR7.out (fun hb => by have := (HO7.out.lt _ hb).1; omega))
              have HPA := Lib.hid (hk5.blk HP8.out (fun hb => HAT.out _ hb rfl))
              have HMA := Lib.hid (hk5.blk HM7.out (fun hb => by have := (HO7.out.lt _ hb).1; omega))
              have HOW2 := Lib.hid hown2
              have HMAP2 := Lib.hid hmap2
              clear hown2 hmap2 hk5 p0 p1 hplt HHG3
              have p0 := HPA.out.cell 0; have p1 := HPA.out.cell 1
              have hplt := HPA.out.lt
              simp at p0 p1
              have t0 := HRA.out.frozen 0; have t1 := HRA.out.frozen 1
              have r0 := HRA.out.cell 0; have r1 := HRA.out.cell 1
              have hrlt := HRA.out.lt
              simp at r0 r1
              go_wp2_with fail
              have HRZ := HRA; have HBZ := HB10; have HOZ := HOW2
              have hyS := (HRZ.out.set_ 0 (.int .i64 (m.next + 1))).set_ 1 (.slice A6 (l.length + 1) c6)
              have f0 := hyS.cell 0; have f1 := hyS.cell 1
              simp at f0 f1
              have HBW := Lib.hid ((HBZ.out.setCell (p := ⟨w.heap.size + 1, 0, none⟩) (Nat.le_succ _) (.int .i64 (m.next + 1))).setCell (p := ⟨w.heap.size + 1, 1, none⟩) (Nat.le_succ _) (.slice A6 (l.length + 1) c6))
              refine bodyPost_ret (v := .tuple #[.agg #[.int .i64 (m.next + 1), .slice A6 (l.length + 1) c6], .int .i64 m.next, .int .i64 0]) (by simp [results, Try.results37, go_sem, f0, f1]) rfl ⟨⟨_, rfl, Or.inr ⟨E.out, _, l2, rfl, ?_, ?_⟩⟩, HBW.out⟩
              · refine (HOZ.out.keep (fun b h1 _ => ?_)).weaken HSZ.out
                exact (Below.heap_setCell _ _ _ _ (by show b ≠ w.heap.size + 1; omega)).trans (Below.heap_setCell _ _ _ _ (by show b ≠ w.heap.size + 1; omega))
              · exact Or.inl ⟨rfl, by rw [HMAP2.out, HMAP.out, HLX.out, set_last]; unfold addRoot newN; rw [HR00.out]⟩
        · have hr22 : rootE role a = 22 := by unfold rootE at hre ⊢; split at hre; exact absurd rfl hre; rw [if_neg (by assumption)]
          have E2 := Lib.hid (show addE m 0 role a concept = 22 by rw [addE_root HCM.out HWC.out, if_pos hre, hr22])
          have HR22 := Lib.hid hr22
          clear hre hr22
          go_enter Try.func37, Try.ntmps37
          go_wp2_with fail
          (try rw [HU0.out])
          refine (HC2.out).mono ?_
          rintro _ u1 ⟨rfl, hb⟩
          have HB1 := Lib.hid (HB0.out.trans (hb.mono HB0.out.size))
          have HM1 := Lib.hid (HM0.out.below hb HM0.out.lt)
          have HR1 := Lib.hid (HR0.out.below hb HR0.out.lt)
          clear hb
          go_wp2_with fail
          refine (aword_is hcs HWC.out u1).mono ?_
          rintro _ u2 ⟨rfl, hb⟩
          have HB2 := Lib.hid (HB1.out.trans (hb.mono HB1.out.size))
          have HM2 := Lib.hid (HM1.out.below hb HM1.out.lt)
          have HR2 := Lib.hid (HR1.out.below hb HR1.out.lt)
          clear hb
          have m0 := HM2.out.cell 0; have m1 := HM2.out.cell 1
          have hmlt := HM2.out.lt
          simp at m0 m1
          go_wp2_with fail
          refine (int_is HR22.out (goalRoot_any m.next A m.nodes.length c u2 role a 1)).mono ?_
          rintro _ u3 ⟨rfl, hb⟩
          have HB3 := Lib.hid (HB2.out.trans (hb.mono HB2.out.size))
          have HM3 := Lib.hid (HM2.out.below hb HM2.out.lt)
          have HR3 := Lib.hid (HR2.out.below hb HR2.out.lt)
          clear hb
          clear m0 m1 hmlt
          have t0 := HR3.out.frozen 0; have t1 := HR3.out.frozen 1
          have r0 := HR3.out.cell 0; have r1 := HR3.out.cell 1
          have hrlt := HR3.out.lt
          simp at r0 r1
          go_wp2_with fail
          have hyS := (HR3.out.set_ 0 (.int .i64 0)).set_ 1 (.slice none 0 0)
          have f0 := hyS.cell 0; have f1 := hyS.cell 1
          simp at f0 f1
          have HBW := Lib.hid ((HB3.out.setCell (p := ⟨w.heap.size + 1, 0, none⟩) (Nat.le_succ _) (.int .i64 0)).setCell (p := ⟨w.heap.size + 1, 1, none⟩) (Nat.le_succ _) (.slice none 0 0))
          exact bodyPost_ret (v := .tuple #[.agg #[.int .i64 0, .slice none 0 0], .int .i64 0, .int .i64 (22)]) (by simp [results, Try.results37, go_sem, f0, f1]) rfl ⟨⟨_, rfl, Or.inl ⟨_, by decide, E2.out, rfl⟩⟩, HBW.out⟩
      · have g0 : (parent != 0) = true := bne_iff_ne.2 hp0
        rcases hwr : wordA role with _ | _
        · have E := Lib.hid (addE_word (parent := parent) (role := role) (a := a) (concept := concept) HCM.out (Or.inr ⟨hp0, hwr⟩))
          have HWR2 := Lib.hid hwr
          clear hwr
          go_enter Try.func37, Try.ntmps37
          go_wp2_with fail
          (try rw [HU0.out])
          refine (HC2.out).mono ?_
          rintro _ u1 ⟨rfl, hb⟩
          have HB1 := Lib.hid (HB0.out.trans (hb.mono HB0.out.size))
          have HM1 := Lib.hid (HM0.out.below hb HM0.out.lt)
          have HR1 := Lib.hid (HR0.out.below hb HR0.out.lt)
          clear hb
          go_wp2_with fail
          refine (aword_is hcs HWC.out u1).mono ?_
          rintro _ u2 ⟨rfl, hb⟩
          have HB2 := Lib.hid (HB1.out.trans (hb.mono HB1.out.size))
          have HM2 := Lib.hid (HM1.out.below hb HM1.out.lt)
          have HR2 := Lib.hid (HR1.out.below hb HR1.out.lt)
          clear hb
          go_wp2_with fail
          refine (aword_is hrs HWR2.out u2).mono ?_
          rintro _ u3 ⟨rfl, hb⟩
          have HB3 := Lib.hid (HB2.out.trans (hb.mono HB2.out.size))
          have HM3 := Lib.hid (HM2.out.below hb HM2.out.lt)
          have HR3 := Lib.hid (HR2.out.below hb HR2.out.lt)
          clear hb
          have t0 := HR3.out.frozen 0; have t1 := HR3.out.frozen 1
          have r0 := HR3.out.cell 0; have r1 := HR3.out.cell 1
          have hrlt := HR3.out.lt
          simp at r0 r1
          go_wp2_with fail
          have hyS := (HR3.out.set_ 0 (.int .i64 0)).set_ 1 (.slice none 0 0)
          have f0 := hyS.cell 0; have f1 := hyS.cell 1
          simp at f0 f1
          have HBW := Lib.hid ((HB3.out.setCell (p := ⟨w.heap.size + 1, 0, none⟩) (Nat.le_succ _) (.int .i64 0)).setCell (p := ⟨w.heap.size + 1, 1, none⟩) (Nat.le_succ _) (.slice none 0 0))
          exact bodyPost_ret (v := .tuple #[.agg #[.int .i64 0, .slice none 0 0], .int .i64 0, .int .i64 (2)]) (by simp [results, Try.results37, go_sem, f0, f1]) rfl ⟨⟨_, rfl, Or.inl ⟨_, by decide, E.out, rfl⟩⟩, HBW.out⟩
        · have HWR2 := Lib.hid hwr
          clear hwr
          rcases atI_cases m.nodes parent with ⟨jp, hjp, hj1, hj2⟩ | ⟨hj1, hj2⟩
          · obtain ⟨y, hy⟩ : ∃ y, m.nodes[jp] = y := ⟨_, rfl⟩
            have hym : y ∈ m.nodes := by rw [← hy]; exact List.getElem_mem hjp
            have hyi : y.id = parent := by rw [← hy]; exact hj1
            subst hyi
            have HYE := Lib.hid hy; have HYm := Lib.hid hym; have HAT2 := Lib.hid hj2
            obtain ⟨d, hd6, hd⟩ := HT.out.dep y hym
            have HD := Lib.hid hd
            have g4 : decide ((jp : Int) < 0) = false := decide_eq_false (by omega)
            have EK := Lib.hid (addE_kid (role := role) (a := a) (concept := concept) HCM.out HWC.out hym HWR2.out hd)
            clear hy hym hj1 hj2 hd
            rcases hsp : spotI y.kids (inL m y role) a with _ | i
            · have E := Lib.hid (show addE m y.id role a concept = 22 by rw [EK.out, hsp]; rfl)
              have HKE := Lib.hid (show kidE (spotI y.kids (inL m y role) a) d 1 = 22 by rw [hsp]; rfl)
              clear hsp EK
              go_enter Try.func37, Try.ntmps37
              go_wp2_with fail
              (try rw [HU0.out])
              refine (HC2.out).mono ?_
              rintro _ u1 ⟨rfl, hb⟩
              have HB1 := Lib.hid (HB0.out.trans (hb.mono HB0.out.size))
              have HM1 := Lib.hid (HM0.out.below hb HM0.out.lt)
              have HR1 := Lib.hid (HR0.out.below hb HR0.out.lt)
              clear hb
              go_wp2_with fail
              refine (aword_is hcs HWC.out u1).mono ?_
              rintro _ u2 ⟨rfl, hb⟩
              have HB2 := Lib.hid (HB1.out.trans (hb.mono HB1.out.size))
              have HM2 := Lib.hid (HM1.out.below hb HM1.out.lt)
              have HR2 := Lib.hid (HR1.out.below hb HR1.out.lt)
              clear hb
              go_wp2_with fail
              refine (aword_is hrs HWR2.out u2).mono ?_
              rintro _ u3 ⟨rfl, hb⟩
              have HB3 := Lib.hid (HB2.out.trans (hb.mono HB2.out.size))
              have HM3 := Lib.hid (HM2.out.below hb HM2.out.lt)
              have HR3 := Lib.hid (HR2.out.below hb HR2.out.lt)
              clear hb
              have m0 := HM3.out.cell 0; have m1 := HM3.out.cell 1
              have hmlt := HM3.out.lt
              simp at m0 m1
              go_wp2_with fail
              refine (int_is HAT2.out (place_any A c m.next y.id m.nodes u3 F (fun b hb => Nat.lt_of_lt_of_le (hF b hb) HB3.out.size) (HH.out.keep ENode.stays (Keep.below HB3.out hF) (fun _ h => h)) HS.out hpr (by omega))).mono ?_
              rintro _ u4 ⟨rfl, hb⟩
              have HB4 := Lib.hid (HB3.out.trans (hb.mono HB3.out.size))
              have HM4 := Lib.hid (HM3.out.below hb HM3.out.lt)
              have HR4 := Lib.hid (HR3.out.below hb HR3.out.lt)
              clear hb
              clear m0 m1 hmlt
              have m0 := HM4.out.cell 0; have m1 := HM4.out.cell 1
              have hmlt := HM4.out.lt
              simp at m0 m1
              go_wp2_with fail
              refine (int_is HKE.out (goalKid_any A c m u4 F (fun b hb => Nat.lt_of_lt_of_le (hF b hb) HB4.out.size) (HH.out.keep ENode.stays (Keep.below HB4.out hF) (fun _ h => h)) HT.out HS.out (fun x hx => (HZ.out x hx).2.1) (fun x hx => (HZ.out x hx).2.2) (by omega) jp hjp y HYE.out (HK4.out y HYm.out) role a ha d HD.out hd6 1 ⟨by omega, by omega⟩)).mono ?_
              rintro _ u5 ⟨rfl, hb⟩
              have HB5 := Lib.hid (HB4.out.trans (hb.mono HB4.out.size))
              have HM5 := Lib.hid (HM4.out.below hb HM4.out.lt)
              have HR5 := Lib.hid (HR4.out.below hb HR4.out.lt)
              clear hb
              clear m0 m1 hmlt
              have t0 := HR5.out.frozen 0; have t1 := HR5.out.frozen 1
              have r0 := HR5.out.cell 0; have r1 := HR5.out.cell 1
              have hrlt := HR5.out.lt
              simp at r0 r1
              go_wp2_with fail
              have hyS := (HR5.out.set_ 0 (.int .i64 0)).set_ 1 (.slice none 0 0)
              have f0 := hyS.cell 0; have f1 := hyS.cell 1
              simp at f0 f1
              have HBW := Lib.hid ((HB5.out.setCell (p := ⟨w.heap.size + 1, 0, none⟩) (Nat.le_succ _) (.int .i64 0)).setCell (p := ⟨w.heap.size + 1, 1, none⟩) (Nat.le_succ _) (.slice none 0 0))
              exact bodyPost_ret (v := .tuple #[.agg #[.int .i64 0, .slice none 0 0], .int .i64 0, .int .i64 (22)]) (by simp [results, Try.results37, go_sem, f0, f1]) rfl ⟨⟨_, rfl, Or.inl ⟨_, by decide, E.out, rfl⟩⟩, HBW.out⟩
            · by_cases hdd : 64 < (d : Int) + 1
              · have E := Lib.hid (show addE m y.id role a concept = 23 by rw [EK.out, hsp, kidE_deep hdd]; rfl)
                have HKE := Lib.hid (show kidE (spotI y.kids (inL m y role) a) d 1 = 23 by rw [hsp, kidE_deep hdd])
                clear hsp EK hdd
                go_enter Try.func37, Try.ntmps37
                go_wp2_with fail
                (try rw [HU0.out])
                refine (HC2.out).mono ?_
                rintro _ u1 ⟨rfl, hb⟩
                have HB1 := Lib.hid (HB0.out.trans (hb.mono HB0.out.size))
                have HM1 := Lib.hid (HM0.out.below hb HM0.out.lt)
                have HR1 := Lib.hid (HR0.out.below hb HR0.out.lt)
                clear hb
                go_wp2_with fail
                refine (aword_is hcs HWC.out u1).mono ?_
                rintro _ u2 ⟨rfl, hb⟩
                have HB2 := Lib.hid (HB1.out.trans (hb.mono HB1.out.size))
                have HM2 := Lib.hid (HM1.out.below hb HM1.out.lt)
                have HR2 := Lib.hid (HR1.out.below hb HR1.out.lt)
                clear hb
                go_wp2_with fail
                refine (aword_is hrs HWR2.out u2).mono ?_
                rintro _ u3 ⟨rfl, hb⟩
                have HB3 := Lib.hid (HB2.out.trans (hb.mono HB2.out.size))
                have HM3 := Lib.hid (HM2.out.below hb HM2.out.lt)
                have HR3 := Lib.hid (HR2.out.below hb HR2.out.lt)
                clear hb
                have m0 := HM3.out.cell 0; have m1 := HM3.out.cell 1
                have hmlt := HM3.out.lt
                simp at m0 m1
                go_wp2_with fail
                refine (int_is HAT2.out (place_any A c m.next y.id m.nodes u3 F (fun b hb => Nat.lt_of_lt_of_le (hF b hb) HB3.out.size) (HH.out.keep ENode.stays (Keep.below HB3.out hF) (fun _ h => h)) HS.out hpr (by omega))).mono ?_
                rintro _ u4 ⟨rfl, hb⟩
                have HB4 := Lib.hid (HB3.out.trans (hb.mono HB3.out.size))
                have HM4 := Lib.hid (HM3.out.below hb HM3.out.lt)
                have HR4 := Lib.hid (HR3.out.below hb HR3.out.lt)
                clear hb
                clear m0 m1 hmlt
                have m0 := HM4.out.cell 0; have m1 := HM4.out.cell 1
                have hmlt := HM4.out.lt
                simp at m0 m1
                go_wp2_with fail
                refine (int_is HKE.out (goalKid_any A c m u4 F (fun b hb => Nat.lt_of_lt_of_le (hF b hb) HB4.out.size) (HH.out.keep ENode.stays (Keep.below HB4.out hF) (fun _ h => h)) HT.out HS.out (fun x hx => (HZ.out x hx).2.1) (fun x hx => (HZ.out x hx).2.2) (by omega) jp hjp y HYE.out (HK4.out y HYm.out) role a ha d HD.out hd6 1 ⟨by omega, by omega⟩)).mono ?_
                rintro _ u5 ⟨rfl, hb⟩
                have HB5 := Lib.hid (HB4.out.trans (hb.mono HB4.out.size))
                have HM5 := Lib.hid (HM4.out.below hb HM4.out.lt)
                have HR5 := Lib.hid (HR4.out.below hb HR4.out.lt)
                clear hb
                clear m0 m1 hmlt
                have t0 := HR5.out.frozen 0; have t1 := HR5.out.frozen 1
                have r0 := HR5.out.cell 0; have r1 := HR5.out.cell 1
                have hrlt := HR5.out.lt
                simp at r0 r1
                go_wp2_with fail
                have hyS := (HR5.out.set_ 0 (.int .i64 0)).set_ 1 (.slice none 0 0)
                have f0 := hyS.cell 0; have f1 := hyS.cell 1
                simp at f0 f1
                have HBW := Lib.hid ((HB5.out.setCell (p := ⟨w.heap.size + 1, 0, none⟩) (Nat.le_succ _) (.int .i64 0)).setCell (p := ⟨w.heap.size + 1, 1, none⟩) (Nat.le_succ _) (.slice none 0 0))
                exact bodyPost_ret (v := .tuple #[.agg #[.int .i64 0, .slice none 0 0], .int .i64 0, .int .i64 (23)]) (by simp [results, Try.results37, go_sem, f0, f1]) rfl ⟨⟨_, rfl, Or.inl ⟨_, by decide, E.out, rfl⟩⟩, HBW.out⟩
              · have E0 := Lib.hid (show addE m y.id role a concept = if m.nodes.length = 4096 ∨ 1048576 < m.next then 4 else 0 by rw [EK.out, hsp, kidE_ok hdd]; rfl)
                have HKE := Lib.hid (show kidE (spotI y.kids (inL m y role) a) d 1 = 0 by rw [hsp, kidE_ok hdd])
                have hi0 := (spotI_le inL_sub hsp).1
                obtain ⟨i0, hi0'⟩ : ∃ i0 : Nat, i = i0 := ⟨i.toNat, by omega⟩
                subst hi0'
                have HSPI := Lib.hid hsp
                clear hsp EK hdd
                go_enter Try.func37, Try.ntmps37
                go_wp2_with fail
                (try rw [HU0.out])
                refine (HC2.out).mono ?_
                rintro _ u1 ⟨rfl, hb⟩
                have HB1 := Lib.hid (HB0.out.trans (hb.mono HB0.out.size))
                have HM1 := Lib.hid (HM0.out.below hb HM0.out.lt)
                have HR1 := Lib.hid (HR0.out.below hb HR0.out.lt)
                clear hb
                go_wp2_with fail
                refine (aword_is hcs HWC.out u1).mono ?_
                rintro _ u2 ⟨rfl, hb⟩
                have HB2 := Lib.hid (HB1.out.trans (hb.mono HB1.out.size))
                have HM2 := Lib.hid (HM1.out.below hb HM1.out.lt)
                have HR2 := Lib.hid (HR1.out.below hb HR1.out.lt)
                clear hb
                go_wp2_with fail
                refine (aword_is hrs HWR2.out u2).mono ?_
                rintro _ u3 ⟨rfl, hb⟩
                have HB3 := Lib.hid (HB2.out.trans (hb.mono HB2.out.size))
                have HM3 := Lib.hid (HM2.out.below hb HM2.out.lt)
                have HR3 := Lib.hid (HR2.out.below hb HR2.out.lt)
                clear hb
                have m0 := HM3.out.cell 0; have m1 := HM3.out.cell 1
                have hmlt := HM3.out.lt
                simp at m0 m1
                go_wp2_with fail
                refine (int_is HAT2.out (place_any A c m.next y.id m.nodes u3 F (fun b hb => Nat.lt_of_lt_of_le (hF b hb) HB3.out.size) (HH.out.keep ENode.stays (Keep.below HB3.out hF) (fun _ h => h)) HS.out hpr (by omega))).mono ?_
                rintro _ u4 ⟨rfl, hb⟩
                have HB4 := Lib.hid (HB3.out.trans (hb.mono HB3.out.size))
                have HM4 := Lib.hid (HM3.out.below hb HM3.out.lt)
                have HR4 := Lib.hid (HR3.out.below hb HR3.out.lt)
                clear hb
                clear m0 m1 hmlt
                have m0 := HM4.out.cell 0; have m1 := HM4.out.cell 1
                have hmlt := HM4.out.lt
                simp at m0 m1
                go_wp2_with fail
                refine (int_is HKE.out (goalKid_any A c m u4 F (fun b hb => Nat.lt_of_lt_of_le (hF b hb) HB4.out.size) (HH.out.keep ENode.stays (Keep.below HB4.out hF) (fun _ h => h)) HT.out HS.out (fun x hx => (HZ.out x hx).2.1) (fun x hx => (HZ.out x hx).2.2) (by omega) jp hjp y HYE.out (HK4.out y HYm.out) role a ha d HD.out hd6 1 ⟨by omega, by omega⟩)).mono ?_
                rintro _ u5 ⟨rfl, hb⟩
                have HB5 := Lib.hid (HB4.out.trans (hb.mono HB4.out.size))
                have HM5 := Lib.hid (HM4.out.below hb HM4.out.lt)
                have HR5 := Lib.hid (HR4.out.below hb HR4.out.lt)
                clear hb
                clear m0 m1 hmlt
                by_cases hfl : m.nodes.length = 4096
                · have E := Lib.hid (show addE m y.id role a concept = 4 by rw [E0.out, if_pos (Or.inl hfl)])
                  have hq1 : ((m.nodes.length : Int) == 4096) = true := by rw [hfl]; rfl
                  have hq2 : decide ((4096 : Int) ≤ (m.nodes.length : Int)) = true := decide_eq_true (by omega)
                  clear hfl
                  have m0 := HM5.out.cell 0; have m1 := HM5.out.cell 1
                  have hmlt := HM5.out.lt
                  simp at m0 m1
                  have t0 := HR5.out.frozen 0; have t1 := HR5.out.frozen 1
                  have r0 := HR5.out.cell 0; have r1 := HR5.out.cell 1
                  have hrlt := HR5.out.lt
                  simp at r0 r1
                  go_wp2_with fail
                  have hyS := (HR5.out.set_ 0 (.int .i64 0)).set_ 1 (.slice none 0 0)
                  have f0 := hyS.cell 0; have f1 := hyS.cell 1
                  simp at f0 f1
                  have HBW := Lib.hid ((HB5.out.setCell (p := ⟨w.heap.size + 1, 0, none⟩) (Nat.le_succ _) (.int .i64 0)).setCell (p := ⟨w.heap.size + 1, 1, none⟩) (Nat.le_succ _) (.slice none 0 0))
                  exact bodyPost_ret (v := .tuple #[.agg #[.int .i64 0, .slice none 0 0], .int .i64 0, .int .i64 (4)]) (by simp [results, Try.results37, go_sem, f0, f1]) rfl ⟨⟨_, rfl, Or.inl ⟨_, by decide, E.out, rfl⟩⟩, HBW.out⟩
                · have hq1 : ((m.nodes.length : Int) == 4096) = false := beq_eq_false_iff_ne.2 (by omega)
                  have hq2 : decide ((4096 : Int) ≤ (m.nodes.length : Int)) = false := decide_eq_false (by omega)
                  by_cases hfn : 1048576 < m.next
                  · have E := Lib.hid (show addE m y.id role a concept = 4 by rw [E0.out, if_pos (Or.inr hfn)])
                    have hq3 : decide ((1048576 : Int) < m.next) = true := decide_eq_true hfn
                    clear hfn
                    have m0 := HM5.out.cell 0; have m1 := HM5.out.cell 1
                    have hmlt := HM5.out.lt
                    simp at m0 m1
                    have t0 := HR5.out.frozen 0; have t1 := HR5.out.frozen 1
                    have r0 := HR5.out.cell 0; have r1 := HR5.out.cell 1
                    have hrlt := HR5.out.lt
                    simp at r0 r1
                    go_wp2_with fail
                    have hyS := (HR5.out.set_ 0 (.int .i64 0)).set_ 1 (.slice none 0 0)
                    have f0 := hyS.cell 0; have f1 := hyS.cell 1
                    simp at f0 f1
                    have HBW := Lib.hid ((HB5.out.setCell (p := ⟨w.heap.size + 1, 0, none⟩) (Nat.le_succ _) (.int .i64 0)).setCell (p := ⟨w.heap.size + 1, 1, none⟩) (Nat.le_succ _) (.slice none 0 0))
                    exact bodyPost_ret (v := .tuple #[.agg #[.int .i64 0, .slice none 0 0], .int .i64 0, .int .i64 (4)]) (by simp [results, Try.results37, go_sem, f0, f1]) rfl ⟨⟨_, rfl, Or.inl ⟨_, by decide, E.out, rfl⟩⟩, HBW.out⟩
                  · have hq3 : decide ((1048576 : Int) < m.next) = false := decide_eq_false hfn
                    have E := Lib.hid (show addE m y.id role a concept = 0 by rw [E0.out, if_neg (by omega)])
                    have hnx2 : m.next ≤ 1048576 := by omega
                    have m0 := HM5.out.cell 0; have m1 := HM5.out.cell 1
                    have hmlt := HM5.out.lt
                    simp at m0 m1
                    go_wp2_with fail
                    refine (twinA_any A c m u5 F (fun b hb => Nat.lt_of_lt_of_le (hF b hb) HB5.out.size) (HH.out.keep ENode.stays (Keep.below HB5.out hF) (fun _ h => h)) HZ'.out (by omega)).mono ?_
                    rintro _ u6 ⟨vt, rfl, l, hown, hlm, hb⟩
                    have HB6 := Lib.hid (HB5.out.trans (hb.mono HB5.out.size))
                    have HM6 := Lib.hid (HM5.out.below hb HM5.out.lt)
                    have HR6 := Lib.hid (HR5.out.below hb HR5.out.lt)
                    have HSZ := Lib.hid HB5.out.size
                    have HO := Lib.hid hown; have HLM := Lib.hid hlm
                    have hll : l.length = m.nodes.length := by rw [← hlm]; simp
                    have HLX := Lib.hid hll
                    have hlb : l.length ≤ 4096 := by omega
                    clear hll
                    have hRS := HR5.out.lt
                    have hbs := hb.size
                    obtain ⟨Av, cv, rfl⟩ := own_shape hown.row
                    clear hb hown hlm m0 m1 hmlt
                    have m0 := HM6.out.cell 0; have m1 := HM6.out.cell 1
                    have hmlt := HM6.out.lt
                    simp at m0 m1
                    go_upto_region 13 with fail
                    obtain ⟨p, hp⟩ : ∃ p, u6.heap.size = p := ⟨_, rfl⟩
                    obtain ⟨x1, hx1⟩ : ∃ z : World, u6.alloc (.cells #[.int .i64 m.next, .slice Av l.length cv] 24) = z := ⟨_, rfl⟩
                    have HX : Hid (Below u6.heap.size u6 x1) := Lib.hid (by rw [← hx1]; exact (Below.refl _ _).alloc (Nat.le_refl _) _)
                    have HP : Hid (Blk x1 p 24 #[.int .i64 m.next, .slice Av l.length cv]) := Lib.hid (by rw [← hx1, ← hp]; exact Blk.new _ _ _)
                    have HOx := Lib.hid (HO.out.below HX.out)
                    have HBx := Lib.hid (HB6.out.trans (HX.out.mono HB6.out.size))
                    have HMx := Lib.hid (HM6.out.below HX.out HM6.out.lt)
                    have HRx := Lib.hid (HR6.out.below HX.out HR6.out.lt)
                    have HPL : Hid (∀ b, some b ∈ ((Value.slice Av l.length cv).ownBlock :: allBlocks l) → b < p) := Lib.hid (fun b hb => by rw [← hp]; exact (HO.out.lt b hb).2)
                    have hpw : w.heap.size + 1 < p := by have := HR6.out.lt; omega
                    (try rw [hx1])
                    (try rw [hp])
                    clear hx1 m0 m1 hmlt HO
                    have hup : u5.heap.size ≤ p := by omega
                    clear hp
                    have p0 := HP.out.cell 0; have p1 := HP.out.cell 1
                    have z0 := HP.out.frozen 0; have z1 := HP.out.frozen 1
                    have hplt := HP.out.lt
                    simp at p0 p1
                    have m0 := HMx.out.cell 0; have m1 := HMx.out.cell 1
                    have hmlt := HMx.out.lt
                    simp at m0 m1
                    have hw1 : IntKind.i64.wrap (m.next + 1) = m.next + 1 := by rw [IntKind.wrap_i64]; omega
                    have HP2 := Lib.hid (HP.out.set_ 0 (.int .i64 (m.next + 1)))
                    have HB2x := Lib.hid (HBx.out.setCell (p := ⟨p, 0, none⟩) (by show w.heap.size ≤ p; omega) (.int .i64 (m.next + 1)))
                    have HM2x := Lib.hid (HMx.out.far (p := ⟨p, 0, none⟩) (by show w.heap.size ≠ p; omega) (.int .i64 (m.next + 1)))
                    have HR2x := Lib.hid (HRx.out.far (p := ⟨p, 0, none⟩) (by show w.heap.size + 1 ≠ p; omega) (.int .i64 (m.next + 1)))
                    have HO2x : Hid (OwnM (x1.setCell ⟨p, 0, none⟩ (.int .i64 (m.next + 1))) u5.heap.size (.slice Av l.length cv) l) := Lib.hid ⟨own_keep HOx.out.row fun b e => Below.heap_setCell _ _ _ _ (by have := HPL.out b (by rw [← e]; exact List.mem_cons_self ..); show b ≠ p; omega), fun y hy => (HOx.out.lists y hy).keep fun b hb => Below.heap_setCell _ _ _ _ (by have := HPL.out b (List.mem_cons_of_mem _ (mem_all hy hb)); show b ≠ p; omega), HOx.out.dis⟩
                    have HWE : Hid (∃ z, z = x1.setCell ⟨p, 0, none⟩ (.int .i64 (m.next + 1))) := Lib.hid ⟨_, rfl⟩
                    have hsx : p < (x1.setCell ⟨p, 0, none⟩ (.int .i64 (m.next + 1))).heap.size := by simpa using hplt
                    simp only [Array.setIfInBounds] at HP2
                    go_upto_region 15 with fail
                    obtain ⟨x2, hx2⟩ := HWE.out
                    rw [← hx2] at HP2 HB2x HM2x HR2x HO2x hsx
                    (try rw [← hx2])
                    clear hx2 HWE p0 p1 z0 z1 hplt m0 m1 hmlt HP HBx HMx HRx HOx
                    have HP2' : Hid (Blk x2 p 24 #[.int .i64 (m.next + 1), .slice Av l.length cv]) := Lib.hid (by simpa using HP2.out)
                    clear HP2
                    have HP := HP2'; have HBx := HB2x; have HMx := HM2x; have HRx := HR2x; have HOx := HO2x
                    clear HP2' HB2x HM2x HR2x HO2x
                    have p0 := HP.out.cell 0; have p1 := HP.out.cell 1
                    have z0 := HP.out.frozen 0; have z1 := HP.out.frozen 1
                    have hplt := HP.out.lt
                    simp at p0 p1
                    obtain ⟨q, hq⟩ : ∃ q, x2.heap.size = q := ⟨_, rfl⟩
                    have HQ : Hid (Blk (x2.alloc (.cells #[.int .i64 m.next, .string concept, .int .i64 0, .string ⟨#[]⟩, .slice none 0 0, .slice none 0 0, .slice none 0 0] 38)) q 38 #[.int .i64 m.next, .string concept, .int .i64 0, .string ⟨#[]⟩, .slice none 0 0, .slice none 0 0, .slice none 0 0]) := Lib.hid (by rw [← hq]; exact Blk.new _ _ _)
                    have HOq := Lib.hid (HOx.out.below ((Below.refl x2.heap.size x2).alloc (Nat.le_refl _) (.cells #[.int .i64 m.next, .string concept, .int .i64 0, .string ⟨#[]⟩, .slice none 0 0, .slice none 0 0, .slice none 0 0] 38)))
                    have HPq := Lib.hid (HP.out.alloc (.cells #[.int .i64 m.next, .string concept, .int .i64 0, .string ⟨#[]⟩, .slice none 0 0, .slice none 0 0, .slice none 0 0] 38))
                    have hqs : u5.heap.size ≤ x2.heap.size := by omega
                    have HBq := Lib.hid (HBx.out.alloc HBx.out.size (.cells #[.int .i64 m.next, .string concept, .int .i64 0, .string ⟨#[]⟩, .slice none 0 0, .slice none 0 0, .slice none 0 0] 38))
                    have HMq := Lib.hid (HMx.out.alloc (.cells #[.int .i64 m.next, .string concept, .int .i64 0, .string ⟨#[]⟩, .slice none 0 0, .slice none 0 0, .slice none 0 0] 38))
                    have HRq := Lib.hid (HRx.out.alloc (.cells #[.int .i64 m.next, .string concept, .int .i64 0, .string ⟨#[]⟩, .slice none 0 0, .slice none 0 0, .slice none 0 0] 38))
                    go_wp2_with (at_builtin; refine wpList_append_from _ rfl (.tmp 70) (.tmp 74) 22 rfl u5.heap.size 38 Try.underlying22 node_info rfl (by omega) (.slice Av l.length cv) l.length (l.flatMap LN.cells) (by first | rfl | simp [Act.eval]) HOq.out.row (some ⟨x2.heap.size, 0, none⟩) 1 1 (LN.cells (⟨newN m concept 0 ⟨#[]⟩, .slice none 0 0, .slice none 0 0, .slice none 0 0⟩ : LN)) (by first | rfl | simp [Act.eval]) rfl (by simp) (fun ad e => by cases e; rw [hq]; exact news_cells HQ.out) (fun u hu => by simp only [LN.cells, nodeCellsA, newN, List.mem_cons, List.not_mem_nil, or_false] at hu; rcases hu with rfl | rfl | rfl | rfl | rfl | rfl | rfl <;> rfl) (by unfold maxLen; omega) (by omega) (by simp; omega) ?_)
                    intro A6 c6 w6 own6 hg6 hat6
                    have hrow := fun k (e : (Value.slice Av l.length cv).ownBlock = some k) => HPL.out k (by rw [← e]; exact List.mem_cons_self ..)
                    have hrow2 := fun k (e : (Value.slice Av l.length cv).ownBlock = some k) => (HOq.out.row.lt k e).1
                    have HW6 := Lib.hid (HOq.out.push (x := (⟨newN m concept 0 ⟨#[]⟩, .slice none 0 0, .slice none 0 0, .slice none 0 0⟩ : LN)) ⟨World.ownsRow_nil _ _ _ _, OwnI.nil _ _, World.ownsRow_nil _ _ _ _⟩ (fun b => by simp [LN.blocks, Value.ownBlock]) (fun b hb => by simp [LN.blocks, Value.ownBlock] at hb) own6 hg6 (by rcases hat6 with e | e; exact .inl e; exact .inr (by rw [e]; simp [hq])))
                    have HB6 := Lib.hid (HBq.out.grown hg6 (by simp; have := HBx.out.size; omega) (fun k e => by have := hrow2 k e; have := HSZ.out; omega))
                    have HP6 := Lib.hid (HPq.out.grown hg6 (fun e => by have := hrow _ e.symm; omega))
                    have HM6 := Lib.hid (HMq.out.grown hg6 (fun e => by have := hrow2 _ e.symm; have := HSZ.out; omega))
                    have HR6 := Lib.hid (HRq.out.grown hg6 (fun e => by have := hrow2 _ e.symm; omega))
                    have HAT : Hid (∀ b, some b ∈ ((Value.slice A6 (l.length + 1) c6).ownBlock :: allBlocks (l ++ [(⟨newN m concept 0 ⟨#[]⟩, .slice none 0 0, .slice none 0 0, .slice none 0 0⟩ : LN)])) → b ≠ p) := Lib.hid (fun b hb e => by
                      subst e
                      rcases List.mem_cons.1 hb with hb | hb
                      · rcases hat6 with e | e
                        · have := hrow b (by rw [← e]; exact hb.symm); omega
                        · have h2 := hb.trans e
                          injection h2 with h2
                          (try simp at h2)
                          omega
                      · rw [all_append, List.mem_append] at hb
                        rcases hb with hb | hb
                        · have := HPL.out b (List.mem_cons_of_mem _ hb); omega
                        · simp [allBlocks, LN.blocks, Value.ownBlock] at hb)
                    have hs6 := hg6.size
                    clear own6 hg6 hat6 hrow hrow2 p0 p1 z0 z1
                    have p0 := HP6.out.cell 0; have p1 := HP6.out.cell 1
                    have z0 := HP6.out.frozen 0; have z1 := HP6.out.frozen 1
                    have hplt6 := HP6.out.lt
                    simp at p0 p1
                    have HP7 := Lib.hid (HP6.out.set_ 1 (.slice A6 (l.length + 1) c6))
                    have HB7 := Lib.hid (HB6.out.setCell (p := ⟨p, 1, none⟩) (by show w.heap.size ≤ p; omega) (.slice A6 (l.length + 1) c6))
                    have HM7 := Lib.hid (HM6.out.far (p := ⟨p, 1, none⟩) (by show w.heap.size ≠ p; omega) (.slice A6 (l.length + 1) c6))
                    have HR7 := Lib.hid (HR6.out.far (p := ⟨p, 1, none⟩) (by show w.heap.size + 1 ≠ p; omega) (.slice A6 (l.length + 1) c6))
                    have HO7 : Hid (OwnM (w6.setCell ⟨p, 1, none⟩ (.slice A6 (l.length + 1) c6)) u5.heap.size (.slice A6 (l.length + 1) c6) (l ++ [(⟨newN m concept 0 ⟨#[]⟩, .slice none 0 0, .slice none 0 0, .slice none 0 0⟩ : LN)])) := Lib.hid ⟨own_keep HW6.out.row fun b e => Below.heap_setCell _ _ _ _ (HAT.out b (by rw [← e]; exact List.mem_cons_self ..)), fun y hy => (HW6.out.lists y hy).keep fun b hb => Below.heap_setCell _ _ _ _ (HAT.out b (List.mem_cons_of_mem _ (mem_all hy hb))), HW6.out.dis⟩
                    have HWE : Hid (∃ z, z = w6.setCell ⟨p, 1, none⟩ (.slice A6 (l.length + 1) c6)) := Lib.hid ⟨_, rfl⟩
                    have hs7 : u5.heap.size ≤ (w6.setCell ⟨p, 1, none⟩ (.slice A6 (l.length + 1) c6)).heap.size := by simp at hs6 ⊢; omega
                    go_upto_region 16 with fail
                    obtain ⟨x3, hx3⟩ := HWE.out
                    rw [← hx3] at HP7 HB7 HM7 HR7 HO7 hs7
                    (try rw [← hx3])
                    clear hx3 HWE p0 p1 z0 z1 hplt6 HP6 HB6 HM6 HR6 HW6 hs6 HQ HOq HPq HBq HMq HRq hq HP HBx HMx HRx HOx
                    have HP8 : Hid (Blk x3 p 24 #[.int .i64 (m.next + 1), .slice A6 (l.length + 1) c6]) := Lib.hid (by simpa using HP7.out)
                    clear HP7
                    have hll := HLX.out
                    have HMAP : Hid ((l ++ [(⟨newN m concept 0 ⟨#[]⟩, .slice none 0 0, .slice none 0 0, .slice none 0 0⟩ : LN)]).map LN.n = m.nodes ++ [newN m concept 0 ⟨#[]⟩]) := Lib.hid (by rw [List.map_append, HLM.out]; rfl)
                    have HLL := Lib.hid (show (l ++ [(⟨newN m concept 0 ⟨#[]⟩, .slice none 0 0, .slice none 0 0, .slice none 0 0⟩ : LN)]).length = l.length + 1 by simp)
                    have p0 := HP8.out.cell 0; have p1 := HP8.out.cell 1
                    have hplt := HP8.out.lt
                    simp at p0 p1
                    have HSR := Lib.hid (more_srt (n0 := newN m concept 0 ⟨#[]⟩) HCM.out hnx2 rfl)
                    have HCL := Lib.hid (more_closed (n0 := newN m concept 0 ⟨#[]⟩) HCM.out rfl)
                    have HKR := Lib.hid (more_kids (n0 := newN m concept 0 ⟨#[]⟩) (fun x hx => (HZ.out x hx).2.2) rfl)
                    obtain ⟨Yl, hYl⟩ : ∃ Yl, (l ++ [(⟨newN m concept 0 ⟨#[]⟩, .slice none 0 0, .slice none 0 0, .slice none 0 0⟩ : LN)])[jp]? = some Yl := ⟨_, List.getElem?_eq_getElem (by rw [HLL.out]; omega)⟩
                    have HYl := Lib.hid hYl
                    have HYn : Hid (Yl.n = y) := Lib.hid (by
                      have h1 : ((l ++ [(⟨newN m concept 0 ⟨#[]⟩, .slice none 0 0, .slice none 0 0, .slice none 0 0⟩ : LN)]).map LN.n)[jp]? = some Yl.n := by rw [List.getElem?_map, hYl]; rfl
                      rw [HMAP.out, List.getElem?_append_left hjp, List.getElem?_eq_getElem hjp, HYE.out] at h1
                      injection h1 with h1; exact h1.symm)
                    clear hYl
                    have HHG := Lib.hid (hangKid_any (m.next + 1) (.slice A6 (l.length + 1) c6) (l ++ [(⟨newN m concept 0 ⟨#[]⟩, .slice none 0 0, .slice none 0 0, .slice none 0 0⟩ : LN)]) x3 u5.heap.size _ (fun _ h => h) HO7.out hs7 (by rw [HMAP.out]; exact HSR.out) (by rw [HMAP.out]; exact HKR.out) (by rw [HLL.out]; omega) l.length (by rw [HLL.out]; omega) (⟨newN m concept 0 ⟨#[]⟩, .slice none 0 0, .slice none 0 0, .slice none 0 0⟩ : LN) (by simp) jp (by rw [HLL.out]; omega) Yl (by have h9 := HYl.out; rw [List.getElem?_eq_getElem (by rw [HLL.out]; omega)] at h9; injection h9) (by omega) role a ha (by rw [HYn.out, HMAP.out, hll, set_last]; exact more_closed (n0 := newN m concept y.id role) HCM.out rfl) (i0 : Int) (by rw [HYn.out, HMAP.out, hll, set_last, show ({ newN m concept 0 ⟨#[]⟩ with parent := y.id, role := role } : ANode) = newN m concept y.id role from rfl, more_inL HCM.out hnx2 rfl HYm.out]; exact HSPI.out) (by rw [HYn.out]; exact HK4.out y HYm.out))
                    have HHG2 := HHG.out
                    rw [show ((⟨newN m concept 0 ⟨#[]⟩, .slice none 0 0, .slice none 0 0, .slice none 0 0⟩ : LN)).n.id = m.next from rfl, HYn.out] at HHG2
                    have HHG3 := Lib.hid HHG2
                    clear HHG HHG2 hll
                    go_wp2_with fail
                    refine HHG3.out.mono ?_
                    rintro _ x5 ⟨rfl, l2, hown2, hmap2, hk5⟩
                    have HB10 := Lib.hid (HB7.out.trans (hk5.toBelow (B := w.heap.size) HB7.out.size (fun b hb => by have := (HO7.out.lt b hb).1; have := HSZ.out; omega)))
                    have HRA := Lib.hid (hk5.blk HR7.out (fun hb => by have := (HO7.out.lt _ hb).1; omega))
                    have HPA := Lib.hid (hk5.blk HP8.out (fun hb => HAT.out _ hb rfl))
                    have HMA := Lib.hid (hk5.blk HM7.out (fun hb => by have := (HO7.out.lt _ hb).1; omega))
                    have HOW2 := Lib.hid hown2
                    have HMAP2 := Lib.hid hmap2
                    clear hown2 hmap2 hk5 p0 p1 hplt HHG3
                    have p0 := HPA.out.cell 0; have p1 := HPA.out.cell 1
                    have hplt := HPA.out.lt
                    simp at p0 p1
                    have t0 := HRA.out.frozen 0; have t1 := HRA.out.frozen 1
                    have r0 := HRA.out.cell 0; have r1 := HRA.out.cell 1
                    have hrlt := HRA.out.lt
                    simp at r0 r1
                    go_wp2_with fail
                    have HRZ := HRA; have HBZ := HB10; have HOZ := HOW2
                    have hyS := (HRZ.out.set_ 0 (.int .i64 (m.next + 1))).set_ 1 (.slice A6 (l.length + 1) c6)
                    have f0 := hyS.cell 0; have f1 := hyS.cell 1
                    simp at f0 f1
                    have HBW := Lib.hid ((HBZ.out.setCell (p := ⟨w.heap.size + 1, 0, none⟩) (Nat.le_succ _) (.int .i64 (m.next + 1))).setCell (p := ⟨w.heap.size + 1, 1, none⟩) (Nat.le_succ _) (.slice A6 (l.length + 1) c6))
                    refine bodyPost_ret (v := .tuple #[.agg #[.int .i64 (m.next + 1), .slice A6 (l.length + 1) c6], .int .i64 m.next, .int .i64 0]) (by simp [results, Try.results37, go_sem, f0, f1]) rfl ⟨⟨_, rfl, Or.inr ⟨E.out, _, l2, rfl, ?_, ?_⟩⟩, HBW.out⟩
                    · refine (HOZ.out.keep (fun b h1 _ => ?_)).weaken HSZ.out
                      exact (Below.heap_setCell _ _ _ _ (by show b ≠ w.heap.size + 1; omega)).trans (Below.heap_setCell _ _ _ _ (by show b ≠ w.heap.size + 1; omega))
                    · exact Or.inr ⟨by omega, jp, hjp, by rw [HYE.out], i0, by rw [HYE.out]; exact HSPI.out, by rw [HMAP2.out, HMAP.out, HYE.out]; unfold addKid; rw [HLX.out, set_last, set_old _ _ _ hjp]; rfl⟩
          · have E := Lib.hid (addE_node (role := role) (a := a) (concept := concept) HCM.out HWC.out hp0 HWR2.out (by rw [hj2]; omega))
            have HAT2 := Lib.hid hj2
            clear hj1 hj2
            go_enter Try.func37, Try.ntmps37
            go_wp2_with fail
            (try rw [HU0.out])
            refine (HC2.out).mono ?_
            rintro _ u1 ⟨rfl, hb⟩
            have HB1 := Lib.hid (HB0.out.trans (hb.mono HB0.out.size))
            have HM1 := Lib.hid (HM0.out.below hb HM0.out.lt)
            have HR1 := Lib.hid (HR0.out.below hb HR0.out.lt)
            clear hb
            go_wp2_with fail
            refine (aword_is hcs HWC.out u1).mono ?_
            rintro _ u2 ⟨rfl, hb⟩
            have HB2 := Lib.hid (HB1.out.trans (hb.mono HB1.out.size))
            have HM2 := Lib.hid (HM1.out.below hb HM1.out.lt)
            have HR2 := Lib.hid (HR1.out.below hb HR1.out.lt)
            clear hb
            go_wp2_with fail
            refine (aword_is hrs HWR2.out u2).mono ?_
            rintro _ u3 ⟨rfl, hb⟩
            have HB3 := Lib.hid (HB2.out.trans (hb.mono HB2.out.size))
            have HM3 := Lib.hid (HM2.out.below hb HM2.out.lt)
            have HR3 := Lib.hid (HR2.out.below hb HR2.out.lt)
            clear hb
            have m0 := HM3.out.cell 0; have m1 := HM3.out.cell 1
            have hmlt := HM3.out.lt
            simp at m0 m1
            go_wp2_with fail
            refine (int_is HAT2.out (place_any A c m.next parent m.nodes u3 F (fun b hb => Nat.lt_of_lt_of_le (hF b hb) HB3.out.size) (HH.out.keep ENode.stays (Keep.below HB3.out hF) (fun _ h => h)) HS.out hpr (by omega))).mono ?_
            rintro _ u4 ⟨rfl, hb⟩
            have HB4 := Lib.hid (HB3.out.trans (hb.mono HB3.out.size))
            have HM4 := Lib.hid (HM3.out.below hb HM3.out.lt)
            have HR4 := Lib.hid (HR3.out.below hb HR3.out.lt)
            clear hb
            clear m0 m1 hmlt
            have t0 := HR4.out.frozen 0; have t1 := HR4.out.frozen 1
            have r0 := HR4.out.cell 0; have r1 := HR4.out.cell 1
            have hrlt := HR4.out.lt
            simp at r0 r1
            go_wp2_with fail
            have hyS := (HR4.out.set_ 0 (.int .i64 0)).set_ 1 (.slice none 0 0)
            have f0 := hyS.cell 0; have f1 := hyS.cell 1
            simp at f0 f1
            have HBW := Lib.hid ((HB4.out.setCell (p := ⟨w.heap.size + 1, 0, none⟩) (Nat.le_succ _) (.int .i64 0)).setCell (p := ⟨w.heap.size + 1, 1, none⟩) (Nat.le_succ _) (.slice none 0 0))
            exact bodyPost_ret (v := .tuple #[.agg #[.int .i64 0, .slice none 0 0], .int .i64 0, .int .i64 (20)]) (by simp [results, Try.results37, go_sem, f0, f1]) rfl ⟨⟨_, rfl, Or.inl ⟨_, by decide, E.out, rfl⟩⟩, HBW.out⟩
  · have HC2 := Lib.hid (int_is (checkI_no hc) HC.out)
    have E := Lib.hid (addE_check (parent := parent) (role := role) (a := a) (concept := concept) hc)
    clear hc HC
    go_enter Try.func37, Try.ntmps37
    go_wp2_with fail
    (try rw [HU0.out])
    refine (HC2.out).mono ?_
    rintro _ u1 ⟨rfl, hb⟩
    have HB1 := Lib.hid (HB0.out.trans (hb.mono HB0.out.size))
    have HM1 := Lib.hid (HM0.out.below hb HM0.out.lt)
    have HR1 := Lib.hid (HR0.out.below hb HR0.out.lt)
    clear hb
    have t0 := HR1.out.frozen 0; have t1 := HR1.out.frozen 1
    have r0 := HR1.out.cell 0; have r1 := HR1.out.cell 1
    have hrlt := HR1.out.lt
    simp at r0 r1
    go_wp2_with fail
    have hyS := (HR1.out.set_ 0 (.int .i64 0)).set_ 1 (.slice none 0 0)
    have f0 := hyS.cell 0; have f1 := hyS.cell 1
    simp at f0 f1
    have HBW := Lib.hid ((HB1.out.setCell (p := ⟨w.heap.size + 1, 0, none⟩) (Nat.le_succ _) (.int .i64 0)).setCell (p := ⟨w.heap.size + 1, 1, none⟩) (Nat.le_succ _) (.slice none 0 0))
    exact bodyPost_ret (v := .tuple #[.agg #[.int .i64 0, .slice none 0 0], .int .i64 0, .int .i64 (29)]) (by simp [results, Try.results37, go_sem, f0, f1]) rfl ⟨⟨_, rfl, Or.inl ⟨_, by decide, E.out, rfl⟩⟩, HBW.out⟩
end Go.Proofs.Ytmafhaadcjgcbaa
end
section
/- arena.Remove -/
namespace Go.Proofs.Ytmafhaadcjgcbaa
open Go Go.RowKit

theorem KeepO.ownI {O : Nat → Prop} {a w : World} {base : Nat} {v : Value} {l : List Int} (h : KeepO O a w) (ho : OwnI a base v l) (hO : ∀ b, v.ownBlock = some b → ¬ O b) : OwnI w base v l := own_keep ho (fun b e => h.block b (ho.lt b e).2 (hO b e))
set_option maxRecDepth 100000 in
set_option maxHeartbeats 8000000 in
theorem removeA_any (A : Option Addr) (c : Nat) (m : AModel) (w : World) (F : Nat → Prop) (hF : ∀ b, F b → b < w.heap.size) (h : RowOf 7 ENode w F A m.nodes) (hz : ∀ x ∈ m.nodes, NodeOK x) (hz' : ∀ x ∈ m.nodes, LensOK x) (hl : m.nodes.length ≤ 9223372036854775807) (id : Int) (hid : InR id) :
    Calls Try.prog 51 #[.agg #[.int .i64 m.next, .slice A m.nodes.length c], .int .i64 id] w fun e w' => (∃ v, e = .returned v ∧ ResOwn w' w.heap.size m.next (removeE m id) (removeL m id) v) ∧ Below w.heap.size w w' := by
  obtain ⟨EE, hEE⟩ : ∃ EE, removeE m id = EE := ⟨_, rfl⟩
  obtain ⟨LL, hLL⟩ : ∃ LL, removeL m id = LL := ⟨_, rfl⟩
  rw [hEE, hLL]
  have HEE := Lib.hid hEE; have HLL := Lib.hid hLL
  clear hEE hLL
  have HH := Lib.hid h; have HZ := Lib.hid hz; have HZ' := Lib.hid hz'; have HLB := Lib.hid hl
  obtain ⟨n, hn⟩ : ∃ n, m.nodes.length = n := ⟨_, rfl⟩
  have HN := Lib.hid hn
  rw [hn] at hl ⊢
  clear h hz hz' hn
  obtain ⟨u0, hu0⟩ : ∃ u : World, (w.alloc (.cells #[.int .i64 m.next, .slice A n c] 24)).alloc (.cells #[.int .i64 0, .slice none 0 0] 24) = u := ⟨_, rfl⟩
  have HM : Hid (Blk u0 w.heap.size 24 #[.int .i64 m.next, .slice A n c]) := Lib.hid (by rw [← hu0]; exact (Blk.new w _ _).alloc _)
  have HR : Hid (Blk u0 (w.heap.size + 1) 24 #[.int .i64 0, .slice none 0 0]) := Lib.hid (by rw [← hu0]; exact Blk.new' (by simp))
  have hb : Below w.heap.size w u0 := by rw [← hu0]; exact ((Below.refl w.heap.size w).alloc (Nat.le_refl _) _).alloc (by simp) _
  have HU0 := Lib.hid hu0
  clear hu0
  have HB_w : Hid (Below w.heap.size w u0) := Lib.hid hb
  clear hb
  have HC := Lib.hid (check_any A c m u0 F (fun b hb => Nat.lt_of_lt_of_le (hF b hb) HB_w.out.size) (HH.out.keep ENode.stays (Keep.below HB_w.out hF) (fun _ h => h)) HZ.out HLB.out)
  rw [HN.out] at HC
  have HCC : Hid (Calls Try.prog 13 #[.agg #[.int .i64 m.next, .slice A n c]] u0 fun e w' => e = .returned (.int .i64 (checkI m)) ∧ Below u0.heap.size u0 w') := HC
  clear HC
  by_cases hc : CheckM m
  rotate_left 1
  · have HC2 := Lib.hid (int_is (checkI_no hc) HCC.out)
    have E := Lib.hid (show EE = 29 from HEE.out.symm.trans (removeE_check hc))
    clear hc HCC
    go_enter Try.func51, Try.ntmps51
    go_wp2_with fail
    (try rw [HU0.out])
    refine HC2.out.mono ?_
    rintro _ u1 ⟨rfl, hb⟩
    replace HB_w : Hid (Below w.heap.size w u1) := Lib.hid (HB_w.out.trans (hb.mono HB_w.out.size))
    replace HM := Lib.hid (HM.out.below hb HM.out.lt)
    replace HR := Lib.hid (HR.out.below hb HR.out.lt)
    clear hb HU0 HC2
    have t0 := HR.out.frozen 0; have t1 := HR.out.frozen 1
    have r0 := HR.out.cell 0; have r1 := HR.out.cell 1
    have hrlt := HR.out.lt
    simp at r0 r1
    go_wp2_with fail
    have hyS := (HR.out.set_ 0 (.int .i64 0)).set_ 1 (.slice none 0 0)
    have f0 := hyS.cell 0; have f1 := hyS.cell 1
    simp at f0 f1
    have HBW := Lib.hid ((HB_w.out.setCell (p := ⟨w.heap.size + 1, 0, none⟩) (by show w.heap.size ≤ w.heap.size + 1; omega) (.int .i64 0)).setCell (p := ⟨w.heap.size + 1, 1, none⟩) (by show w.heap.size ≤ w.heap.size + 1; omega) (.slice none 0 0))
    exact bodyPost_ret (v := .tuple #[.agg #[.int .i64 0, .slice none 0 0], .int .i64 (29)]) (by simp [results, Try.results51, go_sem, f0, f1]) rfl ⟨⟨_, rfl, Or.inl ⟨by rw [E.out]; decide, by rw [E.out]⟩⟩, HBW.out⟩
  have HC2 := Lib.hid (int_is (checkI_yes hc) HCC.out)
  have HCM := Lib.hid hc
  have HS := Lib.hid hc.1.srtB
  have hl4 : n ≤ 4096 := by rw [← HN.out]; exact hc.1.1.2.2
  have HRK : Hid (∀ x ∈ m.nodes, ∀ k ∈ x.kids, InR k) := Lib.hid (fun x hx => (HZ.out x hx).2.2)
  clear hc HCC HLB
  rcases atI_cases m.nodes id with ⟨j, hj, hj1, hj2⟩ | ⟨hj1, hj2⟩
  rotate_left 1
  · have HAT := Lib.hid hj2
    have E := Lib.hid (show EE = 20 from HEE.out.symm.trans (removeE_node HCM.out (by rw [hj2]; omega)))
    clear hj1 hj2
    go_enter Try.func51, Try.ntmps51
    go_wp2_with fail
    (try rw [HU0.out])
    refine HC2.out.mono ?_
    rintro _ u1 ⟨rfl, hb⟩
    replace HB_w : Hid (Below w.heap.size w u1) := Lib.hid (HB_w.out.trans (hb.mono HB_w.out.size))
    replace HM := Lib.hid (HM.out.below hb HM.out.lt)
    replace HR := Lib.hid (HR.out.below hb HR.out.lt)
    clear hb HU0 HC2
    have HMc0 := HM.out.cell 0
    have HMc1 := HM.out.cell 1
    have HMlt := HM.out.lt
    simp at HMc0 HMc1
    have HPL := Lib.hid (place_any A c m.next id m.nodes u1 F (fun b hb => Nat.lt_of_lt_of_le (hF b hb) HB_w.out.size) (HH.out.keep ENode.stays (Keep.below HB_w.out hF) (fun _ h => h)) HS.out hid (by rw [HN.out]; omega))
    rw [HAT.out, HN.out] at HPL
    go_wp2_with fail
    refine (HPL.out).mono ?_
    rintro _ u2 ⟨rfl, hb⟩
    replace HB_w : Hid (Below w.heap.size w u2) := Lib.hid (HB_w.out.trans (hb.mono HB_w.out.size))
    replace HM := Lib.hid (HM.out.below hb HM.out.lt)
    replace HR := Lib.hid (HR.out.below hb HR.out.lt)
    clear hb
    clear HPL HMc0 HMc1 HMlt
    have g4 : decide ((-1 : Int) < 0) = true := by decide
    have t0 := HR.out.frozen 0; have t1 := HR.out.frozen 1
    have r0 := HR.out.cell 0; have r1 := HR.out.cell 1
    have hrlt := HR.out.lt
    simp at r0 r1
    go_wp2_with fail
    have hyS := (HR.out.set_ 0 (.int .i64 0)).set_ 1 (.slice none 0 0)
    have f0 := hyS.cell 0; have f1 := hyS.cell 1
    simp at f0 f1
    have HBW := Lib.hid ((HB_w.out.setCell (p := ⟨w.heap.size + 1, 0, none⟩) (by show w.heap.size ≤ w.heap.size + 1; omega) (.int .i64 0)).setCell (p := ⟨w.heap.size + 1, 1, none⟩) (by show w.heap.size ≤ w.heap.size + 1; omega) (.slice none 0 0))
    exact bodyPost_ret (v := .tuple #[.agg #[.int .i64 0, .slice none 0 0], .int .i64 (20)]) (by simp [results, Try.results51, go_sem, f0, f1]) rfl ⟨⟨_, rfl, Or.inl ⟨by rw [E.out]; decide, by rw [E.out]⟩⟩, HBW.out⟩
  have HAT := Lib.hid hj2
  have g4 : decide ((j : Int) < 0) = false := decide_eq_false (by omega)
  obtain ⟨x, hx⟩ : ∃ x, m.nodes[j] = x := ⟨_, rfl⟩
  have HX : Hid (x ∈ m.nodes ∧ x.id = id) := Lib.hid ⟨by rw [← hx]; exact List.getElem_mem hj, by rw [← hx]; exact hj1⟩
  have HXO : Hid (nodeOf m id = x) := Lib.hid (by rw [← HX.out.2]; exact HCM.out.tree.nodeOf HX.out.1)
  have E := Lib.hid (show EE = 0 from HEE.out.symm.trans (removeE_ok HCM.out (by rw [hj2]; omega)))
  obtain ⟨LB, hLB⟩ : ∃ L, belowL m id = L := ⟨_, rfl⟩
  have HLBE := Lib.hid hLB
  have hlb : LB.length ≤ 4096 := by have := HCM.out.tree.below_len HX.out.1; rw [HX.out.2, hLB, HN.out] at this; omega
  clear hj1 hj2 hx hLB
  go_enter Try.func51, Try.ntmps51
  go_wp2_with fail
  (try rw [HU0.out])
  refine HC2.out.mono ?_
  rintro _ u1 ⟨rfl, hb⟩
  replace HB_w : Hid (Below w.heap.size w u1) := Lib.hid (HB_w.out.trans (hb.mono HB_w.out.size))
  replace HM := Lib.hid (HM.out.below hb HM.out.lt)
  replace HR := Lib.hid (HR.out.below hb HR.out.lt)
  clear hb HU0 HC2
  have HMc0 := HM.out.cell 0
  have HMc1 := HM.out.cell 1
  have HMlt := HM.out.lt
  simp at HMc0 HMc1
  have HPL := Lib.hid (place_any A c m.next id m.nodes u1 F (fun b hb => Nat.lt_of_lt_of_le (hF b hb) HB_w.out.size) (HH.out.keep ENode.stays (Keep.below HB_w.out hF) (fun _ h => h)) HS.out hid (by rw [HN.out]; omega))
  rw [HAT.out, HN.out] at HPL
  go_wp2_with fail
  refine (HPL.out).mono ?_
  rintro _ u2 ⟨rfl, hb⟩
  replace HB_w : Hid (Below w.heap.size w u2) := Lib.hid (HB_w.out.trans (hb.mono HB_w.out.size))
  replace HM := Lib.hid (HM.out.below hb HM.out.lt)
  replace HR := Lib.hid (HR.out.below hb HR.out.lt)
  clear hb
  clear HPL HMc0 HMc1 HMlt
  have HSM : Hid (∀ w', Blk w' w.heap.size 24 #[.int .i64 m.next, .slice A n c] → w'.cell? ⟨w.heap.size, 0, none⟩ = some (.int .i64 m.next) ∧ w'.cell? ⟨w.heap.size, 1, none⟩ = some (.slice A n c)) := Lib.hid (fun w' h => by
    have a := h.cell 0; have b := h.cell 1
    simp at a b
    exact ⟨a, b⟩)
  have HUD := Lib.hid (fun (w' : World) (hb : Below w.heap.size w w') => under_any A c m w' F (fun b hb2 => Nat.lt_of_lt_of_le (hF b hb2) hb.size) (HH.out.keep ENode.stays (Keep.below hb hF) (fun _ h => h)) HCM.out.tree HS.out HRK.out (by rw [HN.out]; omega) x HX.out.1)
  rw [HN.out, HX.out.2, HLBE.out] at HUD
  have HMc0 := HM.out.cell 0
  have HMc1 := HM.out.cell 1
  have HMlt := HM.out.lt
  simp at HMc0 HMc1
  go_wp2_with fail
  refine (HUD.out _ HB_w.out).mono ?_
  rintro _ u3 ⟨vl, rfl, hown, hb⟩
  obtain ⟨Al, cl, rfl⟩ := hown.shape
  have HOI : Hid (OwnI u3 (w.heap.size + 2) (.slice Al LB.length cl) LB) := Lib.hid (hown.weaken (by have := HR.out.lt; omega))
  replace HB_w : Hid (Below w.heap.size w u3) := Lib.hid (HB_w.out.trans (hb.mono HB_w.out.size))
  replace HM := Lib.hid (HM.out.below hb HM.out.lt)
  replace HR := Lib.hid (HR.out.below hb HR.out.lt)
  clear hown hb HUD HSM HMc0 HMc1 HMlt
  have HOI1 := Lib.hid (OwnI.alloc HOI.out (.cells #[.int .i64 id] 3))
  have HR3 := HR.out.lt
  go_wp2_with (at_builtin; refine wpList_pushI rfl (.tmp 19) (.tmp 21) rfl ?a1 HOI1.out id u3.heap.size ?a2 ?a3 ?a4 ?a5 ?a6)
  case a1 => rfl
  case a2 => rfl
  case a3 => exact Blk.new _ _ _
  case a4 => omega
  case a5 => simp; omega
  case a6 =>
    intro A2 c2 u4 own2 hg2 _
    have hga : Below u3.heap.size u3 (u3.alloc (.cells #[.int .i64 id] 3)) := (Below.refl _ _).alloc (Nat.le_refl _) _
    replace HB_w : Hid (Below w.heap.size w u4) := Lib.hid ((HB_w.out.trans (hga.mono HB_w.out.size)).grown hg2 (by have := HB_w.out.size; have := hga.size; omega) (fun k e => by have := (HOI.out.lt k e).1; omega))
    replace HM := Lib.hid ((HM.out.below hga HM.out.lt).grown hg2 (fun e => by have := (HOI.out.lt _ e.symm).1; omega))
    replace HR := Lib.hid ((HR.out.below hga HR.out.lt).grown hg2 (fun e => by have := (HOI.out.lt _ e.symm).1; omega))
    have HOA := Lib.hid own2
    have HBO : Hid (Below u4.heap.size u4 u4) := Lib.hid (Below.refl _ _)
    clear own2 hg2 hga HOI HOI1 HR3
    obtain ⟨g, hgs⟩ : ∃ g, u4.heap.size = g := ⟨_, rfl⟩
    have HGG := Lib.hid hgs
    clear hgs
    obtain ⟨u1, hu⟩ : ∃ u : World, u4.alloc (.cells #[.slice A2 (LB.length + 1) c2] 35) = u := ⟨_, rfl⟩
    have HBU : Below u4.heap.size u4 u1 := by rw [← hu]; exact (Below.refl _ _).alloc (Nat.le_refl _) _
    have HG : Hid (Blk u1 u4.heap.size 35 #[.slice A2 (LB.length + 1) c2]) := Lib.hid (by rw [← hu]; exact Blk.new _ _ _)
    have HUE := Lib.hid hu
    clear hu
    replace HB_w : Hid (Below w.heap.size w u1) := Lib.hid (HB_w.out.trans (HBU.mono HB_w.out.size))
    replace HM := Lib.hid (HM.out.below HBU HM.out.lt)
    replace HR := Lib.hid (HR.out.below HBU HR.out.lt)
    clear HBU
    have hown : OwnI u1 (w.heap.size + 2) (.slice A2 (LB.length + 1) c2) (LB ++ [id]) := OwnI.below HOA.out (show Below u4.heap.size u4 u1 from by rw [← HUE.out]; exact (Below.refl _ _).alloc (Nat.le_refl _) _)
    have HNE : Hid (∀ k, (Value.slice A2 (LB.length + 1) c2).ownBlock = some k → k ≠ g) := Lib.hid (fun k e => by have := (HOA.out.lt k e).2; have := HGG.out; omega)
    rw [HGG.out] at HG
    have hlen : (LB ++ [id]).length = LB.length + 1 := by simp
    obtain ⟨GS, hGS⟩ : ∃ z, (LB ++ [id]).mergeSort (fun x y => decide (x ≤ y)) = z := ⟨_, rfl⟩
    have HSO := Lib.hid (sortOwn_any (.slice A2 (LB.length + 1) c2) (LB ++ [id]) u1 (w.heap.size + 2) hown (by rw [hlen]; omega))
    have HOL := Lib.hid hown.lt
    rw [hGS] at HSO
    have HGSM : Hid (∀ k, k ∈ GS ↔ k ∈ LB ++ [id]) := Lib.hid (fun k => by rw [← hGS, List.mem_mergeSort])
    have HGSS : Hid (GS.Pairwise (· ≤ ·)) := Lib.hid (by
      rw [← hGS]
      exact (List.pairwise_mergeSort (le := fun x y : Int => decide (x ≤ y)) (fun a b c h1 h2 => by simp at *; omega) (fun a b => by simp; omega) _).imp (fun h => by simpa using h))
    have hGSl : GS.length = LB.length + 1 := by rw [← hGS, List.length_mergeSort, hlen]
    clear hown hGS hlen HOA HBO
    go_upto_region 6 with fail
    rw [HUE.out, HGG.out]
    clear HUE HGG
    have HGc0 := HG.out.cell 0
    have HGlt := HG.out.lt
    simp at HGc0
    go_wp2_with fail
    refine HSO.out.mono ?_
    rintro _ u5 ⟨rfl, hown, hg⟩
    have HG4 := Lib.hid (HG.out.grown hg (fun e => HNE.out _ e.symm rfl))
    replace HM := Lib.hid (HM.out.grown hg (fun e => by have := (HOL.out _ e.symm).1; omega))
    replace HR := Lib.hid (HR.out.grown hg (fun e => by have := (HOL.out _ e.symm).1; omega))
    replace HB_w : Hid (Below w.heap.size w u5) := Lib.hid (HB_w.out.grown hg HB_w.out.size (fun k e => by have := (HOL.out k e).1; omega))
    have HOG := Lib.hid hown
    clear hown hg HSO HOL HGc0 HGlt HG
    have HG := HG4
    clear HG4
    have HMc0 := HM.out.cell 0
    have HMc1 := HM.out.cell 1
    have HMlt := HM.out.lt
    simp at HMc0 HMc1
    have HTW := Lib.hid (twinA_any A c m u5 F (fun b hb => Nat.lt_of_lt_of_le (hF b hb) HB_w.out.size) (HH.out.keep ENode.stays (Keep.below HB_w.out hF) (fun _ h => h)) HZ'.out (by rw [HN.out]; omega))
    rw [HN.out] at HTW
    go_wp2_with fail
    refine HTW.out.mono ?_
    rintro _ ut ⟨vt, rfl, l, hown, hlm, hb⟩
    have HBASE : Hid (w.heap.size + 2 ≤ u5.heap.size ∧ g < u5.heap.size ∧ ∀ k, (Value.slice A2 (LB.length + 1) c2).ownBlock = some k → k < u5.heap.size) := Lib.hid ⟨by have := HR.out.lt; omega, HG.out.lt, fun k e => (HOG.out.lt k e).2⟩
    replace HOG := Lib.hid (OwnI.below HOG.out hb)
    replace HB_w : Hid (Below w.heap.size w ut) := Lib.hid (HB_w.out.trans (hb.mono HB_w.out.size))
    replace HM := Lib.hid (HM.out.below hb HM.out.lt)
    replace HR := Lib.hid (HR.out.below hb HR.out.lt)
    replace HG := Lib.hid (HG.out.below hb HG.out.lt)
    have hll : l.length = n := by rw [← HN.out, ← hlm, List.length_map]
    obtain ⟨At, ct, rfl⟩ := own_shape hown.row
    rw [hll] at hown ⊢
    have HO := Lib.hid hown; have HLM := Lib.hid hlm; have HBT : Hid (u5.heap.size ≤ ut.heap.size) := Lib.hid hb.size
    clear hb hown hlm HTW HMc0 HMc1 HMlt
    obtain ⟨u2, hu⟩ : ∃ u : World, ut.alloc (.cells #[.int .i64 m.next, .slice At n ct] 24) = u := ⟨_, rfl⟩
    have HBU : Below ut.heap.size ut u2 := by rw [← hu]; exact (Below.refl _ _).alloc (Nat.le_refl _) _
    have HP : Hid (Blk u2 ut.heap.size 24 #[.int .i64 m.next, .slice At n ct]) := Lib.hid (by rw [← hu]; exact Blk.new _ _ _)
    have HUE := Lib.hid hu
    clear hu
    replace HB_w : Hid (Below w.heap.size w u2) := Lib.hid (HB_w.out.trans (HBU.mono HB_w.out.size))
    replace HM := Lib.hid (HM.out.below HBU HM.out.lt)
    replace HR := Lib.hid (HR.out.below HBU HR.out.lt)
    replace HG := Lib.hid (HG.out.below HBU HG.out.lt)
    clear HBU
    replace HO := Lib.hid (HO.out.below (show Below ut.heap.size ut u2 from by rw [← HUE.out]; exact (Below.refl ut.heap.size ut).alloc (Nat.le_refl _) _))
    replace HOG := Lib.hid (OwnI.below HOG.out (show Below ut.heap.size ut u2 from by rw [← HUE.out]; exact (Below.refl ut.heap.size ut).alloc (Nat.le_refl _) _))
    have HPB : Hid (u5.heap.size ≤ ut.heap.size) := HBT
    go_upto_region 8 with fail
    (try rw [HUE.out])
    (try clear HUE)
    have HPc0 := HP.out.cell 0
    have HPc1 := HP.out.cell 1
    have HPlt := HP.out.lt
    simp at HPc0 HPc1
    have HUN := Lib.hid (unhang_any m.next (.slice At n ct) l u2 u5.heap.size (OB u5.heap.size ut.heap.size) (HO.out.ob HP.out) HO.out (by have := HP.out.lt; have := HPB.out; omega) (by rw [HLM.out]; exact HS.out) (by rw [HO.out.len_map HLM.out, HN.out]; omega) (by rw [HLM.out]; exact check_kids4 HCM.out) x (by rw [HLM.out]; exact HX.out.1) (by rw [HLM.out]; exact check_parent HCM.out HX.out.1))
    rw [HLM.out, HX.out.2] at HUN
    go_wp2_with fail
    refine HUN.out.mono ?_
    rintro _ un ⟨rfl, l1, hown, hlm, hk⟩
    have HO1 := Lib.hid hown
    have HL1 : Hid (l1.map LN.n = (mu m x).nodes) := Lib.hid (by rw [hlm]; show _ = unhangN m.nodes x.parent x.id; rw [HX.out.2])
    have hno1 : ¬ OB u5.heap.size ut.heap.size w.heap.size := fun h => by have := h.1; have := HBASE.out.1; omega
    have hno2 : ¬ OB u5.heap.size ut.heap.size (w.heap.size + 1) := fun h => by have := h.1; have := HBASE.out.1; omega
    have hno3 : ¬ OB u5.heap.size ut.heap.size ut.heap.size := fun h => h.2 rfl
    have hno4 : ¬ OB u5.heap.size ut.heap.size g := fun h => by have := h.1; have := HBASE.out.2.1; omega
    replace HM := Lib.hid (hk.blk HM.out hno1)
    replace HR := Lib.hid (hk.blk HR.out hno2)
    replace HP := Lib.hid (hk.blk HP.out hno3)
    replace HG := Lib.hid (hk.blk HG.out hno4)
    replace HOG := Lib.hid (hk.ownI HOG.out (fun b e h => by have := h.1; have := HBASE.out.2.2 b e; omega))
    replace HB_w : Hid (Below w.heap.size w un) := Lib.hid (HB_w.out.trans (hk.toBelow HB_w.out.size (fun b h => by have := h.1; have := HBASE.out.1; omega)))
    clear hown hlm hk HUN HPc0 HPc1 HPlt hno1 hno2 hno3 hno4
    have hl1 : l1.length = n := by rw [HO1.out.len_map HL1.out, mu_len, HN.out]
    have HGR : Hid (∀ w', un.grownBy w' (Value.slice At n ct).ownBlock → Blk w' g 35 #[.slice A2 GS.length c2] ∧ RowOf 1 EInt w' (fun b => b < w'.heap.size) A2 GS) := Lib.hid (fun w' hg => by
      have hne1 : ∀ b, (Value.slice At n ct).ownBlock = some b → u5.heap.size ≤ b := fun b e => (HO1.out.row.lt b e).1
      refine ⟨by rw [hGSl]; exact HG.out.grown hg (fun e => by have := hne1 _ e.symm; have := HBASE.out.2.1; omega), ?_⟩
      have h1 : OwnI w' (w.heap.size + 2) (.slice A2 (LB.length + 1) c2) GS := own_keep HOG.out (fun b e => hg.block b (HOG.out.lt b e).2 (fun e2 => by have := hne1 _ e2.symm; have := HBASE.out.2.2 b e; omega))
      obtain ⟨A', c', e, _, _, h3⟩ := h1.isRow (F := fun b => b < w'.heap.size) (fun b _ h => h)
      injection e with e1; subst e1; exact h3)
    have HDQ := Lib.hid (delNodeQ_any (.slice At n ct) l1 (fun y => decide (y.n.id ∈ GS)) g un u5.heap.size HO1.out.row (fun y hy => (HO1.out.lists y hy).shape) (fun y hy w' hg => remove1_any y (HO1.out.lists y hy).shape g A2 c2 GS w' (fun b => b < w'.heap.size) (fun b h => h) (HGR.out w' hg).2 (by omega) HGSS.out (HGR.out w' hg).1) (by omega))
    clear HGR
    have HPc0 := HP.out.cell 0
    have HPc1 := HP.out.cell 1
    have HPlt := HP.out.lt
    simp at HPc0 HPc1
    go_wp2_with fail
    refine HDQ.out.mono ?_
    rintro _ uz ⟨v9, rfl, hrow, hg, hvo⟩
    have HO2 := Lib.hid (HO1.out.drop_nodes _ hrow hg hvo)
    have hne1 : ∀ b, (Value.slice At n ct).ownBlock = some b → u5.heap.size ≤ b := fun b e => (HO1.out.row.lt b e).1
    have HNP : Hid (∀ b, some b ∈ (v9.ownBlock :: allBlocks (keepQ (fun y : LN => decide (y.n.id ∈ GS)) l1)) → b ≠ ut.heap.size) := Lib.hid (fun b hb => by
      rcases List.mem_cons.1 hb with hb | hb
      · rw [hvo] at hb
        exact HO1.out.ne_blk HP.out b (by rw [hb]; exact List.mem_cons_self ..)
      · exact HO1.out.ne_blk HP.out b (List.mem_cons_of_mem _ ((sub_flat _ _).subset hb)))
    have HVP : Hid ((Value.slice At n ct).ownBlock ≠ some ut.heap.size) := Lib.hid (fun e => HO1.out.ne_blk HP.out ut.heap.size (by rw [e]; exact List.mem_cons_self ..) rfl)
    replace HP := Lib.hid (HP.out.grown hg (fun e => HVP.out e.symm))
    replace HR := Lib.hid (HR.out.grown hg (fun e => by have := hne1 _ e.symm; have := HBASE.out.1; omega))
    replace HB_w : Hid (Below w.heap.size w uz) := Lib.hid (HB_w.out.grown hg HB_w.out.size (fun k e => by have := hne1 k e; have := HBASE.out.1; omega))
    have HFIN : Hid ((keepQ (fun y : LN => decide (y.n.id ∈ GS)) l1).map LN.n = LL) := Lib.hid (by
      rw [map_keepQ (fun k => decide (k ∈ GS)), HL1.out, ← HLL.out]
      unfold removeL
      rw [HXO.out, HLBE.out]
      congr 1
      funext y
      rw [show decide (y.id ∈ GS) = decide (y.id ∈ LB ++ [id]) from decide_eq_decide.2 (HGSM.out y.id)])
    obtain ⟨A9, c9, rfl⟩ := own_shape hrow
    clear hrow hg hvo HDQ HPc0 HPc1 HPlt HM HG HOG HO1 hne1
    have p0 := HP.out.cell 0; have p1 := HP.out.cell 1
    have hplt := HP.out.lt
    have tp0 := HP.out.frozen 0; have tp1 := HP.out.frozen 1
    simp at p0 p1
    obtain ⟨kn, hkn⟩ : ∃ z, (keepQ (fun y : LN => decide (y.n.id ∈ GS)) l1).length = z := ⟨_, rfl⟩
    rw [hkn] at HO2 HNP ⊢
    clear hkn
    go_upto_region 10 with fail
    obtain ⟨uy, huy⟩ : ∃ u : World, uz.setCell ⟨ut.heap.size, 1, none⟩ (.slice A9 kn c9) = u := ⟨_, rfl⟩
    have HUY := Lib.hid huy
    have HP2 : Hid (Blk uy ut.heap.size 24 #[.int .i64 m.next, .slice A9 kn c9]) := Lib.hid (by rw [← huy]; exact HP.out.set_ 1 (.slice A9 kn c9))
    have hb : Below ut.heap.size uz uy := by rw [← huy]; exact (Below.refl _ _).setCell (p := ⟨ut.heap.size, 1, none⟩) (Nat.le_refl _) _
    have hut : w.heap.size + 2 ≤ ut.heap.size := by have := HBASE.out.1; have := HPB.out; omega
    replace HR := Lib.hid (HR.out.below hb (by omega))
    replace HB_w := Lib.hid (HB_w.out.trans (hb.mono (by omega)))
    have HO3 : Hid (OwnM uy u5.heap.size (.slice A9 kn c9) (keepQ (fun y : LN => decide (y.n.id ∈ GS)) l1)) := Lib.hid (by
      rw [← huy]
      exact ⟨own_keep HO2.out.row (fun b e => Below.heap_setCell _ _ _ _ (HNP.out b (by rw [e]; exact List.mem_cons_self ..))), fun y hy => (HO2.out.lists y hy).keep (fun b e => Below.heap_setCell _ _ _ _ (HNP.out b (List.mem_cons_of_mem _ (mem_all hy e)))), HO2.out.dis⟩)
    rw [huy]
    clear huy hb p0 p1 hplt tp0 tp1 HP HO2
    have p0 := HP2.out.cell 0; have p1 := HP2.out.cell 1
    have hplt := HP2.out.lt
    simp at p0 p1
    have t0 := HR.out.frozen 0; have t1 := HR.out.frozen 1
    have r0 := HR.out.cell 0; have r1 := HR.out.cell 1
    have hrlt := HR.out.lt
    simp at r0 r1
    go_wp2_with fail
    have hyS := (HR.out.set_ 0 (.int .i64 m.next)).set_ 1 (.slice A9 kn c9)
    have f0 := hyS.cell 0; have f1 := hyS.cell 1
    simp at f0 f1
    have HBW := Lib.hid ((HB_w.out.setCell (p := ⟨w.heap.size + 1, 0, none⟩) (by show w.heap.size ≤ w.heap.size + 1; omega) (.int .i64 m.next)).setCell (p := ⟨w.heap.size + 1, 1, none⟩) (by show w.heap.size ≤ w.heap.size + 1; omega) (.slice A9 kn c9))
    refine bodyPost_ret (v := .tuple #[.agg #[.int .i64 m.next, .slice A9 kn c9], .int .i64 0]) (by simp [results, Try.results51, go_sem, f0, f1]) rfl ⟨⟨_, rfl, Or.inr ⟨E.out, _, _, rfl, ?_, HFIN.out⟩⟩, HBW.out⟩
    refine (HO3.out.keep (w' := (uy.setCell ⟨w.heap.size + 1, 0, none⟩ (.int .i64 m.next)).setCell ⟨w.heap.size + 1, 1, none⟩ (.slice A9 kn c9)) (fun b h1 _ => ?_)).weaken (by have := HBASE.out.1; omega)
    have := HBASE.out.1
    exact (Below.heap_setCell _ _ _ _ (by show b ≠ w.heap.size + 1; omega)).trans (Below.heap_setCell _ _ _ _ (by show b ≠ w.heap.size + 1; omega))
end Go.Proofs.Ytmafhaadcjgcbaa
end
section
/- one of a model's IDs, or none -/
namespace Go.Proofs.Ytmafhaadcjgcbaa
open Go Go.RowKit

set_option maxRecDepth 100000 in
set_option maxHeartbeats 4000000 in
theorem pick_any (A : Option Addr) (c : Nat) (m : AModel) (w : World) (F : Nat → Prop) (hF : ∀ b, F b → b < w.heap.size) (h : RowOf 7 ENode w F A m.nodes) (hc : CheckM m) (x : Int) (hx : InR x) :
    Calls Try.prog 57 #[.agg #[.int .i64 m.next, .slice A m.nodes.length c], .int .i64 x] w fun e w' => e = .returned (.int .i64 (pickI m x)) ∧ Below w.heap.size w w' := by
  have hl4 := hc.1.1.2.2
  have HOR := Lib.hid (fun (w' : World) (hb : Below w.heap.size w w') => order_any A c m w' F (fun b h => Nat.lt_of_lt_of_le (hF b h) hb.size) (h.keep ENode.stays (Keep.below hb hF) (fun _ h => h)) (node_ok hc) (by omega))
  rw [ordL_yes hc] at HOR
  obtain ⟨L, hL⟩ : ∃ L, orderL m = L := ⟨_, rfl⟩
  have hol : L.length ≤ 4096 := by rw [← hL]; exact Nat.le_trans hc.tree.order_len hl4
  have hq := restN_lt x (show 1 ≤ L.length + 1 by omega)
  have HRE : Hid (∀ w', Calls Try.prog 58 #[.int .i64 x, .int .i64 ((L.length : Int) + 1)] w' fun e w2 => e = .returned (.int .i64 (restN x (L.length + 1))) ∧ Below w'.heap.size w' w2) := Lib.hid (fun w' => rest_any x (L.length + 1) hx (by omega) (by omega) w')
  obtain ⟨r, hr⟩ : ∃ r, pickI m x = r := ⟨_, rfl⟩
  have HR : Hid (L.getD (restN x (L.length + 1)) 0 = r) := Lib.hid (by rw [← hr]; unfold pickI; rw [hL])
  obtain ⟨q, hq2⟩ : ∃ q, restN x (L.length + 1) = q := ⟨_, rfl⟩
  rw [hq2] at HRE hq HR
  rw [hL] at HOR
  obtain ⟨n, hn⟩ : ∃ n, m.nodes.length = n := ⟨_, rfl⟩
  rw [hn] at HOR hl4 ⊢
  rw [hr]
  clear h hF hL hn hc hr hq2
  obtain ⟨u0, hu0⟩ : ∃ u : World, w.alloc (.cells #[.int .i64 m.next, .slice A n c] 24) = u := ⟨_, rfl⟩
  have MM : Hid (Mem w u0 ([.blk w.heap.size 24 #[.int .i64 m.next, .slice A n c]])) := Lib.hid (by rw [← hu0]; exact (Mem.start w).allocG rfl #[.int .i64 m.next, .slice A n c] 24)
  have HU0 := Lib.hid hu0
  clear hu0
  go_enter Try.func57, Try.ntmps57
  go_wp2_with fail
  (try rw [HU0.out])
  clear HU0
  refine (HOR.out _ MM.out.below).mono ?_
  rintro _ u1 ⟨v, rfl, hown, hb⟩
  obtain ⟨Al, cl, rfl⟩ := hown.shape
  have HLR : Hid (∀ w', Below u1.heap.size u1 w' → RowOf 1 EInt w' (fun b => b < u1.heap.size) Al L) := Lib.hid (fun w' hb' => by
    obtain ⟨A', c', e, _, _, h3⟩ := hown.isRow (F := fun b => b < u1.heap.size) (fun b _ h => h)
    injection e with e1; subst e1
    exact h3.keep EInt.stays (Keep.below hb' (fun _ h => h)) (fun _ h => h))
  clear hown HOR
  have MM2 : Hid (Mem w u1 ([.blk w.heap.size 24 #[.int .i64 m.next, .slice A n c]])) := Lib.hid (MM.out.call hb)
  clear MM
  have MM := MM2
  clear MM2
  clear hb
  go_wp2_with fail
  refine (HRE.out _).mono ?_
  rintro _ u2 ⟨rfl, hb⟩
  have HLR2 := Lib.hid (HLR.out _ hb)
  clear HRE HLR
  have MM2 : Hid (Mem w u2 ([.blk w.heap.size 24 #[.int .i64 m.next, .slice A n c]])) := Lib.hid (MM.out.call hb)
  clear MM
  have MM := MM2
  clear MM2
  clear hb
  by_cases hqe : q = L.length
  · have g : ((q : Int) == (L.length : Int)) = true := by simp; omega
    go_wp2
    go_ret
    have e := HR.out
    rw [List.getD_eq_getElem?_getD, List.getElem?_eq_none (by omega)] at e
    exact ⟨by rw [← e]; rfl, MM.out.below⟩
  · have g : ((q : Int) == (L.length : Int)) = false := by simp; omega
    have hql : q < L.length := by omega
    obtain ⟨b, off, rfl, _, q0⟩ := int_at HLR2.out hql
    have q1 : (q : Int) < L.length := by omega
    have q2 : (0 : Int) ≤ q := by omega
    go_wp2
    go_ret
    have e := HR.out
    rw [List.getD_eq_getElem?_getD, List.getElem?_eq_getElem hql] at e
    exact ⟨by rw [← e]; rfl, MM.out.below⟩
end Go.Proofs.Ytmafhaadcjgcbaa
end
section
/- what an act makes of a model: topiarylaw02.done -/
namespace Go.Proofs.Ytmafhaadcjgcbaa
open Go Go.RowKit

structure ActOK (a : QAct) : Prop where
  hkind : InR a.kind
  ha : InR a.a
  hb : InR a.b
  hat : InR a.at'
  hword : a.word.size ≤ 9223372036854775807
  htext : a.text.size ≤ 9223372036854775807
/-- a model that an act made, or the one that was, and its error -/
def DoneAs (w' : World) (base : Nat) (A : Option Addr) (c : Nat) (m : AModel) (E : Int) (M : AModel) (v : Value) : Prop :=
  (E ≠ 0 ∧ M = m ∧ v = .tuple #[.agg #[.int .i64 m.next, .slice A m.nodes.length c], .int .i64 E]) ∨
  (E = 0 ∧ ∃ vl l, v = .tuple #[.agg #[.int .i64 M.next, vl], .int .i64 0] ∧ OwnM w' base vl l ∧ l.map LN.n = M.nodes)
/-- the same, of the callee's model alone -/
def MadeAs (w' : World) (base : Nat) (E : Int) (M : AModel) (z : Int) (A1 : Option Addr) (n1 c1 : Nat) : Prop :=
  E ≠ 0 ∨ (E = 0 ∧ z = M.next ∧ ∃ l, OwnM w' base (.slice A1 n1 c1) l ∧ l.map LN.n = M.nodes)
theorem MadeAs.to {w' w2 : World} {base base2 : Nat} {E : Int} {M M2 : AModel} {z : Int} {A1 : Option Addr} {n1 c1 : Nat} (h : MadeAs w' base E M z A1 n1 c1) (hM : E = 0 → M2 = M) (hb : base2 ≤ base) (hk : ∀ b, base2 ≤ b → b < w'.heap.size → w2.heap[b]? = w'.heap[b]?) : MadeAs w2 base2 E M2 z A1 n1 c1 := by
  rcases h with h | ⟨e, e2, l, ho, hl⟩
  · exact .inl h
  · rw [hM e]
    exact .inr ⟨e, e2, l, (ho.weaken hb).keep hk, hl⟩
section
variable {w' : World} {base : Nat} {m : AModel} {v : Value}
theorem set_made (hc : CheckM m) {id E : Int} {g : ANode → ANode} (h : SetAs w' base m id E g v) : ∃ z A1 n1 c1, v = .tuple #[.agg #[.int .i64 z, .slice A1 n1 c1], .int .i64 E] ∧ MadeAs w' base E ⟨m.next, m.nodes.set (atI m.nodes id).toNat (g (nodeOf m id))⟩ z A1 n1 c1 := by
  rcases h with ⟨hE, rfl⟩ | ⟨hE, vl, l, rfl, ho, j, hj, rfl, hl⟩
  · exact ⟨0, none, 0, 0, rfl, .inl hE⟩
  · obtain ⟨A', c', rfl⟩ := own_shape ho.row
    have e1 : (atI m.nodes m.nodes[j].id).toNat = j := by rw [atI_some hc.1.srt hj rfl]; rfl
    have e2 : nodeOf m m.nodes[j].id = m.nodes[j] := hc.tree.nodeOf (List.getElem_mem hj)
    refine ⟨m.next, A', l.length, c', by rw [hE], .inr ⟨hE, rfl, l, ho, ?_⟩⟩
    rw [hl, e1, e2]
theorem res_made {next E : Int} {ns : List ANode} (h : ResOwn w' base next E ns v) : ∃ z A1 n1 c1, v = .tuple #[.agg #[.int .i64 z, .slice A1 n1 c1], .int .i64 E] ∧ MadeAs w' base E ⟨next, ns⟩ z A1 n1 c1 := by
  rcases h with ⟨hE, rfl⟩ | ⟨hE, vl, l, rfl, ho, hl⟩
  · exact ⟨0, none, 0, 0, rfl, .inl hE⟩
  · obtain ⟨A', c', rfl⟩ := own_shape ho.row
    exact ⟨next, A', l.length, c', by rw [hE], .inr ⟨hE, rfl, l, ho, hl⟩⟩
theorem copy_made {next more E : Int} {ns : List ANode} (h : ResCopyO w' base next more E ns v) : ∃ k z A1 n1 c1, v = .tuple #[.agg #[.int .i64 z, .slice A1 n1 c1], .int .i64 k, .int .i64 E] ∧ MadeAs w' base E ⟨next + more, ns⟩ z A1 n1 c1 := by
  rcases h with ⟨hE, rfl⟩ | ⟨hE, vl, l, rfl, ho, hl⟩
  · exact ⟨0, 0, none, 0, 0, rfl, .inl hE⟩
  · obtain ⟨A', c', rfl⟩ := own_shape ho.row
    exact ⟨next, next + more, A', l.length, c', by rw [hE], .inr ⟨hE, rfl, l, ho, hl⟩⟩
theorem add_made (hc : CheckM m) {p a : Int} {role concept : ByteArray} (h : AddAs w' base m p role a concept v) : ∃ k z A1 n1 c1, v = .tuple #[.agg #[.int .i64 z, .slice A1 n1 c1], .int .i64 k, .int .i64 (addE m p role a concept)] ∧ MadeAs w' base (addE m p role a concept) (addM m p role a concept) z A1 n1 c1 := by
  rcases h with ⟨E, hE, e, rfl⟩ | ⟨hE, vl, l, rfl, ho, h2⟩
  · exact ⟨0, 0, none, 0, 0, by rw [e], .inl (by rw [e]; exact hE)⟩
  · obtain ⟨A', c', rfl⟩ := own_shape ho.row
    refine ⟨m.next, m.next + 1, A', l.length, c', by rw [hE], .inr ⟨hE, ?_, l, ho, ?_⟩⟩
    · unfold addM; split <;> rfl
    · rcases h2 with ⟨hp, hl⟩ | ⟨hp, j, hj, rfl, i, hs, hl⟩
      · rw [hl]; unfold addM; rw [if_pos hp]
      · have e1 : (atI m.nodes m.nodes[j].id).toNat = j := by rw [atI_some hc.1.srt hj rfl]; rfl
        have e2 : nodeOf m m.nodes[j].id = m.nodes[j] := hc.tree.nodeOf (List.getElem_mem hj)
        rw [hl]
        unfold addM
        rw [if_neg hp, e1, e2, hs]
        rfl
theorem kidR_len (hc : CheckM m) (role : ByteArray) (id : Int) : (kidR m role id).length ≤ 4096 := by
  have h4 := check_kids4 hc
  unfold kidR
  split
  · rename_i h
    obtain ⟨_, x, hx, e⟩ := h
    subst e
    rw [hc.tree.nodeOf hx]
    exact Nat.le_trans (List.length_filter_le _ _) (h4 x hx)
  · simp
theorem pick_in (hc : CheckM m) (x : Int) : pickI m x = 0 ∨ ∃ y ∈ m.nodes, y.id = pickI m x := by
  unfold pickI
  rw [List.getD_eq_getElem?_getD]
  by_cases h : restN x ((orderL m).length + 1) < (orderL m).length
  · rw [List.getElem?_eq_getElem h]
    exact .inr (hc.tree.order_node (List.getElem_mem h))
  · rw [List.getElem?_eq_none (by omega)]; exact .inl rfl
theorem pick_inR (hc : CheckM m) (x : Int) : InR (pickI m x) := by
  rcases pick_in hc x with e | ⟨y, hy, e⟩
  · rw [e]; unfold InR; omega
  · obtain ⟨j, hj, rfl⟩ := List.getElem_of_mem hy
    have h1 := hc.1.2 j hj
    have h2 := hc.1.1.2.1
    rw [← e]; unfold InR; omega
end

set_option maxRecDepth 100000 in
set_option maxHeartbeats 8000000 in
theorem done_any (A : Option Addr) (c : Nat) (m : AModel) (w : World) (F : Nat → Prop) (hF : ∀ b, F b → b < w.heap.size) (h : RowOf 7 ENode w F A m.nodes) (hc : CheckM m) (k : Nat) (hk : k ≤ 100000) (hf : Few k m) (a : QAct) (ha : ActOK a) :
    Calls Try.prog 54 #[.agg #[.int .i64 m.next, .slice A m.nodes.length c], .agg #[.int .i64 a.kind, .int .i64 a.a, .int .i64 a.b, .int .i64 a.at', .string a.word, .string a.text]] w fun e w' => (∃ v, e = .returned v ∧ DoneAs w' w.heap.size A c m (doneE m a) (doneM m a) v) ∧ Below w.heap.size w w' := by
  have hl4 := hc.1.1.2.2
  have HLN := Lib.hid (lens_few hc hf hk)
  have HNO := Lib.hid (node_ok hc)
  have HRW : Hid (∀ w', Below w.heap.size w w' → RowOf 7 ENode w' F A m.nodes) := Lib.hid (fun w' hb => h.keep ENode.stays (Keep.below hb hF) (fun _ h => h))
  have HFW : Hid (∀ w', Below w.heap.size w w' → ∀ b, F b → b < w'.heap.size) := Lib.hid (fun w' hb b h => Nat.lt_of_lt_of_le (hF b h) hb.size)
  obtain ⟨ak, hak⟩ : ∃ ak, a.kind = ak := ⟨_, rfl⟩
  obtain ⟨kd, hkd⟩ : ∃ kd, restN ak 7 = kd := ⟨_, rfl⟩
  have hkd7 : kd < 7 := by rw [← hkd]; exact restN_lt _ (by omega)
  have HRK : Hid (∀ w', Calls Try.prog 58 #[.int .i64 ak, .int .i64 7] w' fun e w2 => e = .returned (.int .i64 kd) ∧ Below w'.heap.size w' w2) := Lib.hid (fun w' => by
    have := rest_any ak 7 (by rw [← hak]; exact ha.hkind) (by omega) (by omega) w'
    rw [hkd] at this
    exact this)
  have HPA := Lib.hid (fun (w' : World) (hb : Below w.heap.size w w') => pick_any A c m w' F (HFW.out _ hb) (HRW.out _ hb) hc a.a ha.ha)
  have HPB := Lib.hid (fun (w' : World) (hb : Below w.heap.size w w') => pick_any A c m w' F (HFW.out _ hb) (HRW.out _ hb) hc a.b ha.hb)
  obtain ⟨x, hx⟩ : ∃ x, pickI m a.a = x := ⟨_, rfl⟩
  obtain ⟨y, hy⟩ : ∃ y, pickI m a.b = y := ⟨_, rfl⟩
  have hxr : InR x := by rw [← hx]; exact pick_inR hc _
  have hyr : InR y := by rw [← hy]; exact pick_inR hc _
  rw [hx] at HPA
  rw [hy] at HPB
  have HKD := Lib.hid (fun (w' : World) (hb : Below w.heap.size w w') => kidsA_any A c m w' F (HFW.out _ hb) (HRW.out _ hb) HNO.out (by omega) y hyr a.word)
  obtain ⟨KL, hKL⟩ : ∃ L, kidR m a.word y = L := ⟨_, rfl⟩
  have hkl : KL.length ≤ 4096 := by rw [← hKL]; exact kidR_len hc _ _
  rw [hKL] at HKD
  obtain ⟨at2, hat2⟩ : ∃ z, a.at' = z := ⟨_, rfl⟩
  obtain ⟨q, hq⟩ : ∃ q, restN at2 (KL.length + 1) = q := ⟨_, rfl⟩
  have hql : q < KL.length + 1 := by rw [← hq]; exact restN_lt _ (by omega)
  have HRQ : Hid (∀ w', Calls Try.prog 58 #[.int .i64 at2, .int .i64 (IntKind.i64.wrap ((KL.length : Int) + 1))] w' fun e w2 => e = .returned (.int .i64 q) ∧ Below w'.heap.size w' w2) := Lib.hid (fun w' => by
    rw [IntWalk.i64_in ((KL.length : Int) + 1) ⟨by omega, by omega⟩]
    have := rest_any at2 (KL.length + 1) (by rw [← hat2]; exact ha.hat) (by omega) (by omega) w'
    rw [hq] at this
    exact this)
  obtain ⟨ro, hro⟩ : ∃ r, roleOf m a = r := ⟨_, rfl⟩
  obtain ⟨pl, hpl⟩ : ∃ p, placeOf m a = p := ⟨_, rfl⟩
  obtain ⟨wd, hwd⟩ : ∃ z, a.word = z := ⟨_, rfl⟩
  obtain ⟨tx, htx⟩ : ∃ z, a.text = z := ⟨_, rfl⟩
  have HR0 : Hid (y = 0 → ro = ⟨#[]⟩ ∧ pl = 0) := Lib.hid (fun h0 => by
    rw [← hro, ← hpl]
    exact ⟨if_pos (hy.trans h0), if_pos (hy.trans h0)⟩)
  have HR1 : Hid (y ≠ 0 → ro = wd ∧ pl = q) := Lib.hid (fun h0 => by
    rw [← hro, ← hpl]
    refine ⟨(if_neg (by rw [hy]; exact h0)).trans hwd, (if_neg (by rw [hy]; exact h0)).trans ?_⟩
    rw [hy, hKL, hat2, hq])
  have hwds : wd.size ≤ 9223372036854775807 := by rw [← hwd]; exact ha.hword
  have htxs : tx.size ≤ 9223372036854775807 := by rw [← htx]; exact ha.htext
  have hros : ro.size ≤ 9223372036854775807 := by
    by_cases h0 : y = 0
    · rw [(HR0.out h0).1]; decide
    · rw [(HR1.out h0).1]; exact hwds
  have hplr : InR pl := by
    by_cases h0 : y = 0
    · rw [(HR0.out h0).2]; unfold InR; omega
    · rw [(HR1.out h0).2]; unfold InR; omega
  obtain ⟨E, hE⟩ : ∃ E, doneE m a = E := ⟨_, rfl⟩
  obtain ⟨M, hM⟩ : ∃ M, doneM m a = M := ⟨_, rfl⟩
  have HE : Hid (E = actE m kd x y ro pl wd tx) := Lib.hid (by rw [← hE]; unfold doneE; rw [hak, hkd, hx, hy, hro, hpl, hwd, htx])
  have HM1 : Hid (E = 0 → M = actM m kd x y ro pl wd tx) := Lib.hid (fun h0 => by rw [← hM]; unfold doneM; rw [if_pos (hE.trans h0), hak, hkd, hx, hy, hro, hpl, hwd, htx])
  have HM0 : Hid (E ≠ 0 → M = m) := Lib.hid (fun h0 => by rw [← hM]; exact if_neg (by rw [hE]; exact h0))
  rw [hE, hM]
  have HADD := Lib.hid (fun (w' : World) (hb : Below w.heap.size w w') => addA_any A c m w' F (HFW.out _ hb) (HRW.out _ hb) HNO.out HLN.out (by omega) y hyr ro hros pl hplr sN (by decide))
  have HMOV := Lib.hid (fun (w' : World) (hb : Below w.heap.size w w') => moveA_any A c m w' F (HFW.out _ hb) (HRW.out _ hb) HNO.out HLN.out (by omega) x hxr y hyr ro hros pl hplr)
  have HCPY := Lib.hid (fun (w' : World) (hb : Below w.heap.size w w') => copyA_any A c m w' F (HFW.out _ hb) (HRW.out _ hb) HNO.out HLN.out (by omega) x hxr y hyr ro hros pl hplr)
  have HREM := Lib.hid (fun (w' : World) (hb : Below w.heap.size w w') => removeA_any A c m w' F (HFW.out _ hb) (HRW.out _ hb) HNO.out HLN.out (by omega) x hxr)
  have HPUT := Lib.hid (fun (w' : World) (hb : Below w.heap.size w w') => putA_any A c m w' F (HFW.out _ hb) (HRW.out _ hb) HNO.out HLN.out (by omega) x hxr wd hwds tx htxs)
  have HAIM := Lib.hid (fun (w' : World) (hb : Below w.heap.size w w') => aimA_any A c m w' F (HFW.out _ hb) (HRW.out _ hb) HNO.out HLN.out (by omega) x hxr wd hwds y hyr)
  obtain ⟨n, hn⟩ : ∃ n, m.nodes.length = n := ⟨_, rfl⟩
  have HN := Lib.hid hn
  rw [hn] at HPA HPB HKD HADD HMOV HCPY HREM HPUT HAIM hl4 ⊢
  rw [hwd] at HKD
  obtain ⟨aa, haa⟩ : ∃ z, a.a = z := ⟨_, rfl⟩
  obtain ⟨ab, hab⟩ : ∃ z, a.b = z := ⟨_, rfl⟩
  rw [haa] at HPA
  rw [hab] at HPB
  rw [hak, haa, hab, hat2, hwd, htx]
  have HCM := Lib.hid hc
  clear h hF hn hc ha hf hk HRW HFW HLN HNO hak hkd hx hy hKL hat2 hq hro hpl hwd htx hE hM haa hab
  obtain ⟨u0, hu0⟩ : ∃ u : World, ((w.alloc (.cells #[.int .i64 m.next, .slice A n c] 24)).alloc (.cells #[.int .i64 ak, .int .i64 aa, .int .i64 ab, .int .i64 at2, .string wd, .string tx] 74)).alloc (.cells #[.int .i64 0, .slice none 0 0] 24) = u := ⟨_, rfl⟩
  have MM : Hid (Mem w u0 ([.blk w.heap.size 24 #[.int .i64 m.next, .slice A n c], .blk (w.heap.size + 1) 74 #[.int .i64 ak, .int .i64 aa, .int .i64 ab, .int .i64 at2, .string wd, .string tx], .blk (w.heap.size + 2) 24 #[.int .i64 0, .slice none 0 0]])) := Lib.hid (by
    rw [← hu0]
    have h := (((Mem.start w).allocG rfl #[.int .i64 m.next, .slice A n c] 24).allocG (g := w.heap.size + 1) (by simp) #[.int .i64 ak, .int .i64 aa, .int .i64 ab, .int .i64 at2, .string wd, .string tx] 74).allocG (g := w.heap.size + 2) (by simp) #[.int .i64 0, .slice none 0 0] 24
    exact h.pick0 [2, 1, 0] _ (by decide) rfl)
  have HU0 := Lib.hid hu0
  clear hu0
  go_enter Try.func54, Try.ntmps54
  go_upto_region 1 with fail
  (try rw [HU0.out])
  clear HU0
  have mc0 := (MM.out.blk 0 rfl).cell 0
  have mc1 := (MM.out.blk 0 rfl).cell 1
  have mlt := (MM.out.blk 0 rfl).lt
  simp at mc0 mc1
  have cc1 := (MM.out.blk 1 rfl).cell 1
  have cc2 := (MM.out.blk 1 rfl).cell 2
  have clt := (MM.out.blk 1 rfl).lt
  simp at cc1 cc2
  have k0 := cell_regrown (mc0)
  have k1 := cell_regrown (mc1)
  have k2 := cell_regrown (cc1)
  have k3 := cell_regrown (cc2)
  have CHA := Lib.hid (fun (d : Nat) (os : Array Obj) => Calls.regrown_of (w := u0) (d := d) (os := os) (HPA.out _ (MM.out.below.trans ((below_regrown u0 d os).mono MM.out.size))))
  have CHB := Lib.hid (fun (d : Nat) (os : Array Obj) => Calls.regrown_of (w := u0) (d := d) (os := os) (HPB.out _ (MM.out.below.trans ((below_regrown u0 d os).mono MM.out.size))))
  clear HPA HPB mc0 mc1 mlt cc1 cc2 clt
  refine wp_region_quiet_below (by kernel_rfl) (by kernel_rfl) ?_
  iterate 7 (first | go_big_quiet_step (exact CHA.out _ _) | quiet_step (exact CHA.out _ _))
  repeat (first | go_big_quiet_step (exact CHB.out _ _) | quiet_step (exact CHB.out _ _))
  refine wpQuiet_nil ?_
  intro _ hw'
  obtain ⟨⟨dq, osq⟩, hw''⟩ := hw'
  subst hw''
  have hb := below_regrown u0 dq osq
  obtain ⟨u1, hwi⟩ : ∃ u : World, Sort.grow (redrawn u0 dq) osq = u := ⟨_, rfl⟩
  rw [hwi] at hb ⊢
  clear hwi k0 k1 k2 k3 CHA CHB
  have MM2 : Hid (Mem w u1 ([.blk w.heap.size 24 #[.int .i64 m.next, .slice A n c], .blk (w.heap.size + 1) 74 #[.int .i64 ak, .int .i64 aa, .int .i64 ab, .int .i64 at2, .string wd, .string tx], .blk (w.heap.size + 2) 24 #[.int .i64 0, .slice none 0 0]])) := Lib.hid (MM.out.call hb)
  clear MM
  have MM := MM2
  clear MM2
  clear hb
  have cc4 := (MM.out.blk 1 rfl).cell 4
  have clt := (MM.out.blk 1 rfl).lt
  simp at cc4
  go_upto_region 3 with fail
  clear cc4 clt
  have HSM : Hid (∀ w', Blk w' w.heap.size 24 #[.int .i64 m.next, .slice A n c] → Blk w' (w.heap.size + 1) 74 #[.int .i64 ak, .int .i64 aa, .int .i64 ab, .int .i64 at2, .string wd, .string tx] → w'.cell? ⟨w.heap.size, 0, none⟩ = some (.int .i64 m.next) ∧ w'.cell? ⟨w.heap.size, 1, none⟩ = some (.slice A n c) ∧ w'.cell? ⟨w.heap.size + 1, 3, none⟩ = some (.int .i64 at2)) := Lib.hid (fun w' h h2 => by
    have a := h.cell 0; have b := h.cell 1; have d := h2.cell 3
    simp at a b d
    exact ⟨a, b, d⟩)
  obtain ⟨u, hu⟩ : ∃ z9 : World, u1.drew = z9 := ⟨_, rfl⟩
  have MM2 : Hid (Mem w u ([.blk w.heap.size 24 #[.int .i64 m.next, .slice A n c], .blk (w.heap.size + 1) 74 #[.int .i64 ak, .int .i64 aa, .int .i64 ab, .int .i64 at2, .string wd, .string tx], .blk (w.heap.size + 2) 24 #[.int .i64 0, .slice none 0 0]])) := Lib.hid (by rw [← hu]; exact MM.out.drew)
  clear MM
  have MM := MM2
  clear MM2
  refine wp_region_Y (S := (fun w' : World => w'.cell? ⟨w.heap.size, 0, none⟩ = some (.int .i64 m.next) ∧ w'.cell? ⟨w.heap.size, 1, none⟩ = some (.slice A n c) ∧ w'.cell? ⟨w.heap.size + 1, 3, none⟩ = some (.int .i64 at2))) 9 (by kernel_rfl) (by rw [hu]; exact HSM.out _ (MM.out.blk 0 rfl) (MM.out.blk 1 rfl)) (fun hHeld => ?_)
  rw [hu] at hHeld ⊢
  clear hu
  refine wpAnyY_take (i := 0) (v := ?_) rfl (by kernel_rfl) (by kernel_rfl) (by kernel_rfl) (by kernel_rfl) (fun _ _ _ h => h) (Or.inl ⟨by rfl, ?_⟩) (by assumption) ?_
  rotate_left 1
  · (intro w' hSw; obtain ⟨s0, s1, s2⟩ := hSw; go_simp); try with_reducible rfl
  try simp only [Act.put, List.setIfInBounds_toArray, List.set_cons_zero, List.set_cons_succ, Nat.zero_add]
  refine wpAnyY_take (i := 1) (v := ?_) rfl (by kernel_rfl) (by kernel_rfl) (by kernel_rfl) (by kernel_rfl) (fun _ _ _ h => h) (Or.inl ⟨by rfl, ?_⟩) (by assumption) ?_
  rotate_left 1
  · (intro w' hSw; obtain ⟨s0, s1, s2⟩ := hSw; go_simp); try with_reducible rfl
  try simp only [Act.put, List.setIfInBounds_toArray, List.set_cons_zero, List.set_cons_succ, Nat.zero_add]
  refine wpAnyY_take (i := 2) (v := ?_) rfl (by kernel_rfl) (by kernel_rfl) (by kernel_rfl) (by kernel_rfl) (fun _ _ _ h => h) (Or.inl ⟨by rfl, ?_⟩) (by assumption) ?_
  rotate_left 1
  · (intro w' hSw; obtain ⟨s0, s1, s2⟩ := hSw; go_simp); try with_reducible rfl
  try simp only [Act.put, List.setIfInBounds_toArray, List.set_cons_zero, List.set_cons_succ, Nat.zero_add]
  refine wpAnyY_take (i := 3) (v := ?_) rfl (by kernel_rfl) (by kernel_rfl) (by kernel_rfl) (by kernel_rfl) (fun _ _ _ h => h) (Or.inl ⟨by rfl, ?_⟩) (by assumption) ?_
  rotate_left 1
  · (intro w' hSw; obtain ⟨s0, s1, s2⟩ := hSw; go_simp); try with_reducible rfl
  try simp only [Act.put, List.setIfInBounds_toArray, List.set_cons_zero, List.set_cons_succ, Nat.zero_add]
  refine wpAnyY_take (i := 4) (v := ?_) rfl (by kernel_rfl) (by kernel_rfl) (by kernel_rfl) (by kernel_rfl) (fun _ _ _ h => h) (Or.inl ⟨by rfl, ?_⟩) (by assumption) ?_
  rotate_left 1
  · (intro w' hSw; obtain ⟨s0, s1, s2⟩ := hSw; go_simp); try with_reducible rfl
  try simp only [Act.put, List.setIfInBounds_toArray, List.set_cons_zero, List.set_cons_succ, Nat.zero_add]
  refine wpAnyY_one (i := 5) rfl (by kernel_rfl) (fun K hK => ?_)
  go_simp
  refine (HKD.out _ MM.out.below).mono ?_
  rintro _ v1 ⟨vk, rfl, hown, hb⟩
  obtain ⟨Ak, ck, rfl⟩ := hown.shape
  clear hown
  have MM2 : Hid (Mem w v1 ([.blk w.heap.size 24 #[.int .i64 m.next, .slice A n c], .blk (w.heap.size + 1) 74 #[.int .i64 ak, .int .i64 aa, .int .i64 ab, .int .i64 at2, .string wd, .string tx], .blk (w.heap.size + 2) 24 #[.int .i64 0, .slice none 0 0]])) := Lib.hid (MM.out.call hb)
  clear MM hb
  have MM := MM2
  clear MM2
  go_simp
  have hHeldv1 := HSM.out _ (MM.out.blk 0 rfl) (MM.out.blk 1 rfl)
  refine hK.out _ _ (fun _ => HSM.out _ (MM.out.blk 0 rfl) (MM.out.blk 1 rfl)) ?_
  clear hK K
  try simp only [Act.put, List.setIfInBounds_toArray, List.set_cons_zero, List.set_cons_succ, Nat.zero_add]
  refine wpAnyY_take (i := 6) (v := ?_) rfl (by kernel_rfl) (by kernel_rfl) (by kernel_rfl) (by kernel_rfl) (fun _ _ _ h => h) (Or.inl ⟨by rfl, ?_⟩) (by assumption) ?_
  rotate_left 1
  · (intro w' hSw; obtain ⟨s0, s1, s2⟩ := hSw; go_simp); try with_reducible rfl
  try simp only [Act.put, List.setIfInBounds_toArray, List.set_cons_zero, List.set_cons_succ, Nat.zero_add]
  refine wpAnyY_take (i := 7) (v := ?_) rfl (by kernel_rfl) (by kernel_rfl) (by kernel_rfl) (by kernel_rfl) (fun _ _ _ h => h) (Or.inl ⟨by rfl, ?_⟩) (by assumption) ?_
  rotate_left 1
  · (intro w' hSw; obtain ⟨s0, s1, s2⟩ := hSw; go_simp); try with_reducible rfl
  try simp only [Act.put, List.setIfInBounds_toArray, List.set_cons_zero, List.set_cons_succ, Nat.zero_add]
  refine wpAnyY_one (i := 8) rfl (by kernel_rfl) (fun K hK => ?_)
  go_simp
  refine (HRQ.out _).mono ?_
  rintro _ v2 ⟨rfl, hb⟩
  have MM2 : Hid (Mem w v2 ([.blk w.heap.size 24 #[.int .i64 m.next, .slice A n c], .blk (w.heap.size + 1) 74 #[.int .i64 ak, .int .i64 aa, .int .i64 ab, .int .i64 at2, .string wd, .string tx], .blk (w.heap.size + 2) 24 #[.int .i64 0, .slice none 0 0]])) := Lib.hid (MM.out.call hb)
  clear MM hb
  have MM := MM2
  clear MM2
  go_simp
  have hHeldv2 := HSM.out _ (MM.out.blk 0 rfl) (MM.out.blk 1 rfl)
  refine hK.out _ _ (fun _ => HSM.out _ (MM.out.blk 0 rfl) (MM.out.blk 1 rfl)) ?_
  clear hK K
  try simp only [Act.put, List.setIfInBounds_toArray, List.set_cons_zero, List.set_cons_succ, Nat.zero_add]
  refine wpAnyY_one0 (i := 9) rfl (by kernel_rfl) (by kernel_rfl) (fun K hK => ?_)
  go_simp
  refine hK.out _ _ ?_
  clear hK K
  try simp only [Act.put, List.setIfInBounds_toArray, List.set_cons_zero, List.set_cons_succ, Nat.zero_add]
  refine wpAnyY_done (by kernel_rfl) ?_ _
  clear hHeld hHeldv1 hHeldv2 HKD HRQ HSM
  go_upto_if 32 with fail
  go_cut [8, 9] (fun s8 s9 wx => s8 = .string ro ∧ s9 = .int .i64 pl ∧ Mem w wx ([.blk w.heap.size 24 #[.int .i64 m.next, .slice A n c], .blk (w.heap.size + 1) 74 #[.int .i64 ak, .int .i64 aa, .int .i64 ab, .int .i64 at2, .string wd, .string tx], .blk (w.heap.size + 2) 24 #[.int .i64 0, .slice none 0 0]]))
  case first =>
    by_cases hy0 : y = 0
    · obtain ⟨e1, e2⟩ := HR0.out hy0
      subst hy0
      have G1 := Lib.hid e1; have G2 := Lib.hid e2
      clear e1 e2 HR0 HR1
      go_wp2_with fail
      go_meet
      case rel => exact ⟨by rw [G1.out], by rw [G2.out], MM.out⟩
    · obtain ⟨e1, e2⟩ := HR1.out hy0
      have g1 : (y == 0) = false := by simp; exact hy0
      have G1 := Lib.hid e1; have G2 := Lib.hid e2
      clear e1 e2 hy0 HR0 HR1
      go_wp2_with fail
      go_meet
      case rel => exact ⟨by rw [G1.out], by rw [G2.out], MM.out⟩
  case rest =>
    obtain ⟨rfl, rfl, hm⟩ := hcut
    clear MM
    obtain ⟨c1, rfl⟩ : ∃ v : World, v = wc := ⟨_, rfl⟩
    have MM := Lib.hid hm
    clear hm HR0 HR1
    have mc0 := (MM.out.blk 0 rfl).cell 0
    have mc1 := (MM.out.blk 0 rfl).cell 1
    have mlt := (MM.out.blk 0 rfl).lt
    simp at mc0 mc1
    obtain ⟨g, hg⟩ : ∃ g, c1.heap.size = g := ⟨_, rfl⟩
    have HG : Hid (w.heap.size + 3 ≤ g) := Lib.hid (by have := (MM.out.blk 2 rfl).lt; omega)
    obtain ⟨c2, hu⟩ : ∃ z9 : World, c1.alloc (.cells #[.int .i64 m.next, .slice A n c] 24) = z9 := ⟨_, rfl⟩
    have MM2 : Hid (Mem w c2 ([.blk w.heap.size 24 #[.int .i64 m.next, .slice A n c], .blk (w.heap.size + 1) 74 #[.int .i64 ak, .int .i64 aa, .int .i64 ab, .int .i64 at2, .string wd, .string tx], .blk (w.heap.size + 2) 24 #[.int .i64 0, .slice none 0 0], .blk g 24 #[.int .i64 m.next, .slice A n c]])) := Lib.hid (by rw [← hu]; exact (MM.out.allocG hg #[.int .i64 m.next, .slice A n c] 24).pick0 [1, 2, 3, 0] _ (by decide) rfl)
    clear MM
    have MM := MM2
    clear MM2
    go_upto_region 7 with fail
    (try rw [hu])
    (try rw [hg])
    clear hu hg
    clear mc0 mc1 mlt
    have cc0 := (MM.out.blk 1 rfl).cell 0
    have clt := (MM.out.blk 1 rfl).lt
    simp at cc0
    go_wp2_with fail
    refine (HRK.out _).mono ?_
    rintro _ c3 ⟨rfl, hb⟩
    clear cc0 clt
    have MM2 : Hid (Mem w c3 ([.blk w.heap.size 24 #[.int .i64 m.next, .slice A n c], .blk (w.heap.size + 1) 74 #[.int .i64 ak, .int .i64 aa, .int .i64 ab, .int .i64 at2, .string wd, .string tx], .blk (w.heap.size + 2) 24 #[.int .i64 0, .slice none 0 0], .blk g 24 #[.int .i64 m.next, .slice A n c]])) := Lib.hid (MM.out.call hb)
    clear MM
    have MM := MM2
    clear MM2
    clear hb HRK
    go_upto_block 0 with fail
    go_cut [11] (fun s11 wx => ∃ (z : Int) (A1 : Option Addr) (n1 c1 : Nat), s11 = .int .i64 E ∧ Mem w wx [.blk w.heap.size 24 #[.int .i64 m.next, .slice A n c], .blk (w.heap.size + 1) 74 #[.int .i64 ak, .int .i64 aa, .int .i64 ab, .int .i64 at2, .string wd, .string tx], .blk (w.heap.size + 2) 24 #[.int .i64 0, .slice none 0 0], .blk g 24 #[.int .i64 z, .slice A1 n1 c1]] ∧ g + 1 ≤ wx.heap.size ∧ MadeAs wx (g + 1) E M z A1 n1 c1)
    case first =>
      rcases (show kd = 0 ∨ kd = 1 ∨ kd = 2 ∨ kd = 3 ∨ kd = 4 ∨ kd = 5 ∨ kd = 6 by omega) with rfl | rfl | rfl | rfl | rfl | rfl | rfl
      · have HE2 : Hid (addE m y ro pl sN = E) := Lib.hid HE.out.symm
        have HM2 := Lib.hid HM1.out
        clear HE HM1 HM0 HMOV HCPY HREM HPUT HAIM
        have mc0 := (MM.out.blk 0 rfl).cell 0
        have mc1 := (MM.out.blk 0 rfl).cell 1
        have mlt := (MM.out.blk 0 rfl).lt
        simp at mc0 mc1
        go_wp2_with fail
        refine (HADD.out _ MM.out.below).mono ?_
        rintro _ u2 ⟨⟨v, rfl, hres⟩, hb⟩
        clear mc0 mc1 mlt
        obtain ⟨k1, z, A1, n1, c1, rfl, hmd⟩ := add_made HCM.out hres
        clear hres HADD
        rw [HE2.out] at hmd ⊢
        have HMD := Lib.hid hmd
        have HGS : Hid (g + 1 ≤ c3.heap.size ∧ g + 1 ≤ u2.heap.size) := Lib.hid (by have := (MM.out.blk 3 rfl).lt; have := hb.size; omega)
        have MM2 : Hid (Mem w u2 ([.blk w.heap.size 24 #[.int .i64 m.next, .slice A n c], .blk (w.heap.size + 1) 74 #[.int .i64 ak, .int .i64 aa, .int .i64 ab, .int .i64 at2, .string wd, .string tx], .blk (w.heap.size + 2) 24 #[.int .i64 0, .slice none 0 0], .blk g 24 #[.int .i64 m.next, .slice A n c]])) := Lib.hid (MM.out.call hb)
        clear MM
        have MM := MM2
        clear MM2
        clear hb hmd HE2
        have gc0 := (MM.out.blk 3 rfl).cell 0
        have gc1 := (MM.out.blk 3 rfl).cell 1
        have gf0 := (MM.out.blk 3 rfl).frozen 0
        have gf1 := (MM.out.blk 3 rfl).frozen 1
        have glt := (MM.out.blk 3 rfl).lt
        simp at gc0 gc1
        go_wp2_with fail
        go_meet
        case rel =>
          refine ⟨z, A1, n1, c1, rfl, (MM.out.set_ 3 rfl 0 (.int .i64 z)).set_ 3 rfl 1 (.slice A1 n1 c1), by simpa using HGS.out.2, HMD.out.to HM2.out HGS.out.1 (fun b h1 _ => ?_)⟩
          exact (Below.heap_setCell _ _ _ _ (by show b ≠ g; omega)).trans (Below.heap_setCell _ _ _ _ (by show b ≠ g; omega))
      · have HE2 : Hid (addE m y ro pl sN = E) := Lib.hid HE.out.symm
        have HM2 := Lib.hid HM1.out
        clear HE HM1 HM0 HMOV HCPY HREM HPUT HAIM
        have mc0 := (MM.out.blk 0 rfl).cell 0
        have mc1 := (MM.out.blk 0 rfl).cell 1
        have mlt := (MM.out.blk 0 rfl).lt
        simp at mc0 mc1
        go_wp2_with fail
        refine (HADD.out _ MM.out.below).mono ?_
        rintro _ u2 ⟨⟨v, rfl, hres⟩, hb⟩
        clear mc0 mc1 mlt
        obtain ⟨k1, z, A1, n1, c1, rfl, hmd⟩ := add_made HCM.out hres
        clear hres HADD
        rw [HE2.out] at hmd ⊢
        have HMD := Lib.hid hmd
        have HGS : Hid (g + 1 ≤ c3.heap.size ∧ g + 1 ≤ u2.heap.size) := Lib.hid (by have := (MM.out.blk 3 rfl).lt; have := hb.size; omega)
        have MM2 : Hid (Mem w u2 ([.blk w.heap.size 24 #[.int .i64 m.next, .slice A n c], .blk (w.heap.size + 1) 74 #[.int .i64 ak, .int .i64 aa, .int .i64 ab, .int .i64 at2, .string wd, .string tx], .blk (w.heap.size + 2) 24 #[.int .i64 0, .slice none 0 0], .blk g 24 #[.int .i64 m.next, .slice A n c]])) := Lib.hid (MM.out.call hb)
        clear MM
        have MM := MM2
        clear MM2
        clear hb hmd HE2
        have gc0 := (MM.out.blk 3 rfl).cell 0
        have gc1 := (MM.out.blk 3 rfl).cell 1
        have gf0 := (MM.out.blk 3 rfl).frozen 0
        have gf1 := (MM.out.blk 3 rfl).frozen 1
        have glt := (MM.out.blk 3 rfl).lt
        simp at gc0 gc1
        go_wp2_with fail
        go_meet
        case rel =>
          refine ⟨z, A1, n1, c1, rfl, (MM.out.set_ 3 rfl 0 (.int .i64 z)).set_ 3 rfl 1 (.slice A1 n1 c1), by simpa using HGS.out.2, HMD.out.to HM2.out HGS.out.1 (fun b h1 _ => ?_)⟩
          exact (Below.heap_setCell _ _ _ _ (by show b ≠ g; omega)).trans (Below.heap_setCell _ _ _ _ (by show b ≠ g; omega))
      · have HE2 : Hid (moveE m x y ro pl = E) := Lib.hid HE.out.symm
        have HM2 := Lib.hid HM1.out
        clear HE HM1 HM0 HADD HCPY HREM HPUT HAIM
        have mc0 := (MM.out.blk 0 rfl).cell 0
        have mc1 := (MM.out.blk 0 rfl).cell 1
        have mlt := (MM.out.blk 0 rfl).lt
        simp at mc0 mc1
        go_wp2_with fail
        refine (HMOV.out _ MM.out.below).mono ?_
        rintro _ u2 ⟨⟨v, rfl, hres⟩, hb⟩
        clear mc0 mc1 mlt
        obtain ⟨z, A1, n1, c1, rfl, hmd⟩ := res_made hres
        clear hres HMOV
        rw [HE2.out] at hmd ⊢
        have HMD := Lib.hid hmd
        have HGS : Hid (g + 1 ≤ c3.heap.size ∧ g + 1 ≤ u2.heap.size) := Lib.hid (by have := (MM.out.blk 3 rfl).lt; have := hb.size; omega)
        have MM2 : Hid (Mem w u2 ([.blk w.heap.size 24 #[.int .i64 m.next, .slice A n c], .blk (w.heap.size + 1) 74 #[.int .i64 ak, .int .i64 aa, .int .i64 ab, .int .i64 at2, .string wd, .string tx], .blk (w.heap.size + 2) 24 #[.int .i64 0, .slice none 0 0], .blk g 24 #[.int .i64 m.next, .slice A n c]])) := Lib.hid (MM.out.call hb)
        clear MM
        have MM := MM2
        clear MM2
        clear hb hmd HE2
        have gc0 := (MM.out.blk 3 rfl).cell 0
        have gc1 := (MM.out.blk 3 rfl).cell 1
        have gf0 := (MM.out.blk 3 rfl).frozen 0
        have gf1 := (MM.out.blk 3 rfl).frozen 1
        have glt := (MM.out.blk 3 rfl).lt
        simp at gc0 gc1
        go_wp2_with fail
        go_meet
        case rel =>
          refine ⟨z, A1, n1, c1, rfl, (MM.out.set_ 3 rfl 0 (.int .i64 z)).set_ 3 rfl 1 (.slice A1 n1 c1), by simpa using HGS.out.2, HMD.out.to HM2.out HGS.out.1 (fun b h1 _ => ?_)⟩
          exact (Below.heap_setCell _ _ _ _ (by show b ≠ g; omega)).trans (Below.heap_setCell _ _ _ _ (by show b ≠ g; omega))
      · have HE2 : Hid (copyE m x y ro pl = E) := Lib.hid HE.out.symm
        have HM2 := Lib.hid HM1.out
        clear HE HM1 HM0 HADD HMOV HREM HPUT HAIM
        have mc0 := (MM.out.blk 0 rfl).cell 0
        have mc1 := (MM.out.blk 0 rfl).cell 1
        have mlt := (MM.out.blk 0 rfl).lt
        simp at mc0 mc1
        go_wp2_with fail
        refine (HCPY.out _ MM.out.below).mono ?_
        rintro _ u2 ⟨⟨v, rfl, hres⟩, hb⟩
        clear mc0 mc1 mlt
        obtain ⟨k1, z, A1, n1, c1, rfl, hmd⟩ := copy_made hres
        clear hres HCPY
        rw [HE2.out] at hmd ⊢
        have HMD := Lib.hid hmd
        have HGS : Hid (g + 1 ≤ c3.heap.size ∧ g + 1 ≤ u2.heap.size) := Lib.hid (by have := (MM.out.blk 3 rfl).lt; have := hb.size; omega)
        have MM2 : Hid (Mem w u2 ([.blk w.heap.size 24 #[.int .i64 m.next, .slice A n c], .blk (w.heap.size + 1) 74 #[.int .i64 ak, .int .i64 aa, .int .i64 ab, .int .i64 at2, .string wd, .string tx], .blk (w.heap.size + 2) 24 #[.int .i64 0, .slice none 0 0], .blk g 24 #[.int .i64 m.next, .slice A n c]])) := Lib.hid (MM.out.call hb)
        clear MM
        have MM := MM2
        clear MM2
        clear hb hmd HE2
        have gc0 := (MM.out.blk 3 rfl).cell 0
        have gc1 := (MM.out.blk 3 rfl).cell 1
        have gf0 := (MM.out.blk 3 rfl).frozen 0
        have gf1 := (MM.out.blk 3 rfl).frozen 1
        have glt := (MM.out.blk 3 rfl).lt
        simp at gc0 gc1
        go_wp2_with fail
        go_meet
        case rel =>
          refine ⟨z, A1, n1, c1, rfl, (MM.out.set_ 3 rfl 0 (.int .i64 z)).set_ 3 rfl 1 (.slice A1 n1 c1), by simpa using HGS.out.2, HMD.out.to HM2.out HGS.out.1 (fun b h1 _ => ?_)⟩
          exact (Below.heap_setCell _ _ _ _ (by show b ≠ g; omega)).trans (Below.heap_setCell _ _ _ _ (by show b ≠ g; omega))
      · have HE2 : Hid (removeE m x = E) := Lib.hid HE.out.symm
        have HM2 := Lib.hid HM1.out
        clear HE HM1 HM0 HADD HMOV HCPY HPUT HAIM
        have mc0 := (MM.out.blk 0 rfl).cell 0
        have mc1 := (MM.out.blk 0 rfl).cell 1
        have mlt := (MM.out.blk 0 rfl).lt
        simp at mc0 mc1
        go_wp2_with fail
        refine (HREM.out _ MM.out.below).mono ?_
        rintro _ u2 ⟨⟨v, rfl, hres⟩, hb⟩
        clear mc0 mc1 mlt
        obtain ⟨z, A1, n1, c1, rfl, hmd⟩ := res_made hres
        clear hres HREM
        rw [HE2.out] at hmd ⊢
        have HMD := Lib.hid hmd
        have HGS : Hid (g + 1 ≤ c3.heap.size ∧ g + 1 ≤ u2.heap.size) := Lib.hid (by have := (MM.out.blk 3 rfl).lt; have := hb.size; omega)
        have MM2 : Hid (Mem w u2 ([.blk w.heap.size 24 #[.int .i64 m.next, .slice A n c], .blk (w.heap.size + 1) 74 #[.int .i64 ak, .int .i64 aa, .int .i64 ab, .int .i64 at2, .string wd, .string tx], .blk (w.heap.size + 2) 24 #[.int .i64 0, .slice none 0 0], .blk g 24 #[.int .i64 m.next, .slice A n c]])) := Lib.hid (MM.out.call hb)
        clear MM
        have MM := MM2
        clear MM2
        clear hb hmd HE2
        have gc0 := (MM.out.blk 3 rfl).cell 0
        have gc1 := (MM.out.blk 3 rfl).cell 1
        have gf0 := (MM.out.blk 3 rfl).frozen 0
        have gf1 := (MM.out.blk 3 rfl).frozen 1
        have glt := (MM.out.blk 3 rfl).lt
        simp at gc0 gc1
        go_wp2_with fail
        go_meet
        case rel =>
          refine ⟨z, A1, n1, c1, rfl, (MM.out.set_ 3 rfl 0 (.int .i64 z)).set_ 3 rfl 1 (.slice A1 n1 c1), by simpa using HGS.out.2, HMD.out.to HM2.out HGS.out.1 (fun b h1 _ => ?_)⟩
          exact (Below.heap_setCell _ _ _ _ (by show b ≠ g; omega)).trans (Below.heap_setCell _ _ _ _ (by show b ≠ g; omega))
      · have HE2 : Hid (setE m wd (4096 < tx.size) (atI m.nodes x < 0) = E) := Lib.hid HE.out.symm
        have HM2 := Lib.hid HM1.out
        clear HE HM1 HM0 HADD HMOV HCPY HREM HAIM
        have mc0 := (MM.out.blk 0 rfl).cell 0
        have mc1 := (MM.out.blk 0 rfl).cell 1
        have mlt := (MM.out.blk 0 rfl).lt
        simp at mc0 mc1
        have cc4 := (MM.out.blk 1 rfl).cell 4
        have cc5 := (MM.out.blk 1 rfl).cell 5
        have clt := (MM.out.blk 1 rfl).lt
        simp at cc4 cc5
        go_wp2_with fail
        refine (HPUT.out _ MM.out.below).mono ?_
        rintro _ u2 ⟨⟨v, rfl, hres⟩, hb⟩
        clear mc0 mc1 mlt cc4 cc5 clt
        obtain ⟨z, A1, n1, c1, rfl, hmd⟩ := set_made HCM.out hres
        clear hres HPUT
        rw [HE2.out] at hmd ⊢
        have HMD := Lib.hid hmd
        have HGS : Hid (g + 1 ≤ c3.heap.size ∧ g + 1 ≤ u2.heap.size) := Lib.hid (by have := (MM.out.blk 3 rfl).lt; have := hb.size; omega)
        have MM2 : Hid (Mem w u2 ([.blk w.heap.size 24 #[.int .i64 m.next, .slice A n c], .blk (w.heap.size + 1) 74 #[.int .i64 ak, .int .i64 aa, .int .i64 ab, .int .i64 at2, .string wd, .string tx], .blk (w.heap.size + 2) 24 #[.int .i64 0, .slice none 0 0], .blk g 24 #[.int .i64 m.next, .slice A n c]])) := Lib.hid (MM.out.call hb)
        clear MM
        have MM := MM2
        clear MM2
        clear hb hmd HE2
        have gc0 := (MM.out.blk 3 rfl).cell 0
        have gc1 := (MM.out.blk 3 rfl).cell 1
        have gf0 := (MM.out.blk 3 rfl).frozen 0
        have gf1 := (MM.out.blk 3 rfl).frozen 1
        have glt := (MM.out.blk 3 rfl).lt
        simp at gc0 gc1
        go_wp2_with fail
        go_meet
        case rel =>
          refine ⟨z, A1, n1, c1, rfl, (MM.out.set_ 3 rfl 0 (.int .i64 z)).set_ 3 rfl 1 (.slice A1 n1 c1), by simpa using HGS.out.2, HMD.out.to HM2.out HGS.out.1 (fun b h1 _ => ?_)⟩
          exact (Below.heap_setCell _ _ _ _ (by show b ≠ g; omega)).trans (Below.heap_setCell _ _ _ _ (by show b ≠ g; omega))
      · have HE2 : Hid (setE m wd False (atI m.nodes x < 0 ∨ atI m.nodes y < 0) = E) := Lib.hid HE.out.symm
        have HM2 := Lib.hid HM1.out
        clear HE HM1 HM0 HADD HMOV HCPY HREM HPUT
        have mc0 := (MM.out.blk 0 rfl).cell 0
        have mc1 := (MM.out.blk 0 rfl).cell 1
        have mlt := (MM.out.blk 0 rfl).lt
        simp at mc0 mc1
        have cc4 := (MM.out.blk 1 rfl).cell 4
        have clt := (MM.out.blk 1 rfl).lt
        simp at cc4
        go_wp2_with fail
        refine (HAIM.out _ MM.out.below).mono ?_
        rintro _ u2 ⟨⟨v, rfl, hres⟩, hb⟩
        clear mc0 mc1 mlt cc4 clt
        obtain ⟨z, A1, n1, c1, rfl, hmd⟩ := set_made HCM.out hres
        clear hres HAIM
        rw [HE2.out] at hmd ⊢
        have HMD := Lib.hid hmd
        have HGS : Hid (g + 1 ≤ c3.heap.size ∧ g + 1 ≤ u2.heap.size) := Lib.hid (by have := (MM.out.blk 3 rfl).lt; have := hb.size; omega)
        have MM2 : Hid (Mem w u2 ([.blk w.heap.size 24 #[.int .i64 m.next, .slice A n c], .blk (w.heap.size + 1) 74 #[.int .i64 ak, .int .i64 aa, .int .i64 ab, .int .i64 at2, .string wd, .string tx], .blk (w.heap.size + 2) 24 #[.int .i64 0, .slice none 0 0], .blk g 24 #[.int .i64 m.next, .slice A n c]])) := Lib.hid (MM.out.call hb)
        clear MM
        have MM := MM2
        clear MM2
        clear hb hmd HE2
        have gc0 := (MM.out.blk 3 rfl).cell 0
        have gc1 := (MM.out.blk 3 rfl).cell 1
        have gf0 := (MM.out.blk 3 rfl).frozen 0
        have gf1 := (MM.out.blk 3 rfl).frozen 1
        have glt := (MM.out.blk 3 rfl).lt
        simp at gc0 gc1
        go_wp2_with fail
        go_meet
        case rel =>
          refine ⟨z, A1, n1, c1, rfl, (MM.out.set_ 3 rfl 0 (.int .i64 z)).set_ 3 rfl 1 (.slice A1 n1 c1), by simpa using HGS.out.2, HMD.out.to HM2.out HGS.out.1 (fun b h1 _ => ?_)⟩
          exact (Below.heap_setCell _ _ _ _ (by show b ≠ g; omega)).trans (Below.heap_setCell _ _ _ _ (by show b ≠ g; omega))
    case rest =>
      obtain ⟨z, A1, n1, c1', rfl, hm, hgs, hmd⟩ := hcut
      clear MM
      obtain ⟨c4, rfl⟩ : ∃ v : World, v = wc := ⟨_, rfl⟩
      have MM := Lib.hid hm
      have HMD := Lib.hid hmd
      clear hm hmd HE HM1 HADD HMOV HCPY HREM HPUT HAIM hkd7
      by_cases hE0 : E = 0
      · subst hE0
        obtain ⟨l, hzz, ho, hl⟩ : ∃ l, z = M.next ∧ OwnM c4 (g + 1) (.slice A1 n1 c1') l ∧ l.map LN.n = M.nodes := by
          rcases HMD.out with h | ⟨_, e, l, h1, h2⟩
          · exact absurd rfl h
          · exact ⟨l, e, h1, h2⟩
        have HO := Lib.hid ho; have HL := Lib.hid hl; have HZZ := Lib.hid hzz
        clear ho hl hzz HMD HM0
        have gc0 := (MM.out.blk 3 rfl).cell 0
        have gc1 := (MM.out.blk 3 rfl).cell 1
        have glt := (MM.out.blk 3 rfl).lt
        simp at gc0 gc1
        have rc0 := (MM.out.blk 2 rfl).cell 0
        have rc1 := (MM.out.blk 2 rfl).cell 1
        have rf0 := (MM.out.blk 2 rfl).frozen 0
        have rf1 := (MM.out.blk 2 rfl).frozen 1
        have rlt := (MM.out.blk 2 rfl).lt
        simp at rc0 rc1
        have HRR := Lib.hid (MM.out.blk 2 rfl)
        go_wp2_with fail
        have hyS := (HRR.out.set_ 0 (.int .i64 z)).set_ 1 (.slice A1 n1 c1')
        have f0 := hyS.cell 0; have f1 := hyS.cell 1
        simp at f0 f1
        have HBW := Lib.hid ((MM.out.below.setCell (p := ⟨w.heap.size + 2, 0, none⟩) (by show w.heap.size ≤ w.heap.size + 2; omega) (.int .i64 z)).setCell (p := ⟨w.heap.size + 2, 1, none⟩) (by show w.heap.size ≤ w.heap.size + 2; omega) (.slice A1 n1 c1'))
        refine bodyPost_ret (v := .tuple #[.agg #[.int .i64 z, .slice A1 n1 c1'], .int .i64 0]) (by simp [results, Try.results54, go_sem, f0, f1]) rfl ⟨⟨_, rfl, Or.inr ⟨rfl, _, l, by rw [HZZ.out], (HO.out.keep (fun b h1 _ => ?_)).weaken (by have := HG.out; omega), HL.out⟩⟩, HBW.out⟩
        have hg3 := HG.out
        exact (Below.heap_setCell _ _ _ _ (by show b ≠ w.heap.size + 2; omega)).trans (Below.heap_setCell _ _ _ _ (by show b ≠ w.heap.size + 2; omega))
      · have g1 : (E != 0) = true := by simp; exact hE0
        have HEN := Lib.hid hE0
        clear hE0 HMD
        have mc0 := (MM.out.blk 0 rfl).cell 0
        have mc1 := (MM.out.blk 0 rfl).cell 1
        have mlt := (MM.out.blk 0 rfl).lt
        simp at mc0 mc1
        have rc0 := (MM.out.blk 2 rfl).cell 0
        have rc1 := (MM.out.blk 2 rfl).cell 1
        have rf0 := (MM.out.blk 2 rfl).frozen 0
        have rf1 := (MM.out.blk 2 rfl).frozen 1
        have rlt := (MM.out.blk 2 rfl).lt
        simp at rc0 rc1
        have HRR := Lib.hid (MM.out.blk 2 rfl)
        go_wp2_with fail
        have hyS := (HRR.out.set_ 0 (.int .i64 m.next)).set_ 1 (.slice A n c)
        have f0 := hyS.cell 0; have f1 := hyS.cell 1
        simp at f0 f1
        have HBW := Lib.hid ((MM.out.below.setCell (p := ⟨w.heap.size + 2, 0, none⟩) (by show w.heap.size ≤ w.heap.size + 2; omega) (.int .i64 m.next)).setCell (p := ⟨w.heap.size + 2, 1, none⟩) (by show w.heap.size ≤ w.heap.size + 2; omega) (.slice A n c))
        exact bodyPost_ret (v := .tuple #[.agg #[.int .i64 m.next, .slice A n c], .int .i64 E]) (by simp [results, Try.results54, go_sem, f0, f1]) rfl ⟨⟨_, rfl, Or.inl ⟨HEN.out, HM0.out HEN.out, by rw [HN.out]⟩⟩, HBW.out⟩
end Go.Proofs.Ytmafhaadcjgcbaa
end
