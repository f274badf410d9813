import Derived.Test.YtmafhaadcjgcbaaCopyK
import Derived.Test.YtmafhaadcjgcbaaALentI
import Derived.Deep.RegionLaw
import Derived.Test.YtmafhaadcjgcbaaMut3
import Derived.Test.YtmafhaadcjgcbaaGoal
set_option linter.unusedSimpArgs false
set_option linter.unusedVariables false
section
namespace Go.Proofs.Ytmafhaadcjgcbaa
open Go Go.RowKit

theorem insInt_ar (l : List Int) (n c : Nat) (hn : l.length = n) (hc : c ≤ maxLen) : c ≤ 9223372036854775807 := by unfold maxLen at hc; omega
set_option maxRecDepth 100000 in
set_option maxHeartbeats 4000000 in
theorem insInt_end (v : Value) (l : List Int) (i : Nat) (y : Int) (g : Nat) (w : World) (base : Nat) (hown : w.ownsRow base 3 1 v l.length (l.flatMap intCells)) (hg : Blk w g 3 (intCells y).toArray) (hne : v.ownBlock ≠ some g) (hlen : l.length ≤ 1048576) (hb : base ≤ w.heap.size) (hi : i = l.length) :
    Calls Try.prog 119 #[v, .int .i64 i, .slice (some ⟨g, 0, none⟩) 1 1] w fun e w' => ∃ v', e = .returned v' ∧ w'.ownsRow base 3 1 v' (l.length + 1) ((insAt l i y).flatMap intCells) ∧ w.grownBy w' v.ownBlock ∧ (v'.ownBlock = v.ownBlock ∨ ∃ b, v'.ownBlock = some b ∧ w.heap.size ≤ b) := by
  subst hi
  obtain ⟨n, hn⟩ : ∃ n, l.length = n := ⟨_, rfl⟩
  have hcells : ∀ ad, (some ⟨g, 0, none⟩ : Option Addr) = some ad → ∀ j u, (intCells y)[j]? = some u → w.cell? (ad.add j) = some u := fun ad e j u hu => by cases e; exact news_cells hg j u (by simpa using hu)
  have H := Lib.hid hown
  have HIN : Hid ((insAt l n y).flatMap intCells = l.flatMap intCells ++ intCells y) := Lib.hid (by rw [← hn, insAt_end, List.flatMap_append]; simp)
  rw [hn] at hlen
  clear hne
  rcases hown.2 with ⟨rfl, h0⟩ | ⟨b, cap, cur, rfl, hbb, hh, hnc, hcm, hsz, ht⟩
  · rw [hn] at h0
    subst h0
    rw [hn] at H ⊢
    clear hown hn
    go_enter Try.func119, Try.ntmps119
    go_wp2_with (at_builtin; refine wpList_append_from w rfl (.tmp 23) (.tmp 24) 35 rfl base 3 Try.underlying35 int_info rfl (by omega) (.slice none 0 0) 0 (l.flatMap intCells) rfl H.out (some ⟨g, 0, none⟩) 1 1 (intCells y) rfl rfl (by simp) hcells (intCells_one y) (by unfold maxLen; omega) (by omega) hb ?_)
    all_goals
      intro A' c' w' own hgr hat
      have HO := Lib.hid own; have HG := Lib.hid hgr
      have HA : Hid ((Value.slice A' (0 + 1) c').ownBlock = (Value.slice none 0 0).ownBlock ∨ ∃ b, (Value.slice A' (0 + 1) c').ownBlock = some b ∧ w.heap.size ≤ b) := Lib.hid (hat.imp id fun e => ⟨_, e, Nat.le_refl _⟩)
      clear own hgr hat
      go_wp2
      go_ret
      exact ⟨_, rfl, by rw [HIN.out]; exact HO.out, HG.out, HA.out⟩
  · have hcm' := insInt_ar l n cap hn hcm
    rw [hn] at hnc H ⊢
    clear hown hh hsz ht hcm
    have hn0 : (0 : Int) ≤ n := by omega
    have hnn : n ≤ n := Nat.le_refl _
    by_cases hcn : cap = n
    all_goals
      go_enter Try.func119, Try.ntmps119
      go_wp2_with (at_builtin; refine wpList_append_from w rfl (.tmp 23) (.tmp 24) 35 rfl base 3 Try.underlying35 int_info rfl (by omega) (.slice (some ⟨b, 0, none⟩) n cap) n (l.flatMap intCells) rfl H.out (some ⟨g, 0, none⟩) 1 1 (intCells y) rfl rfl (by simp) hcells (intCells_one y) (by unfold maxLen; omega) (by omega) hb ?_)
      all_goals
        intro A' c' w' own hgr hat
        have HO := Lib.hid own; have HG := Lib.hid hgr
        have HA : Hid ((Value.slice A' (n + 1) c').ownBlock = (Value.slice (some ⟨b, 0, none⟩) n cap).ownBlock ∨ ∃ q, (Value.slice A' (n + 1) c').ownBlock = some q ∧ w.heap.size ≤ q) := Lib.hid (hat.imp id fun e => ⟨_, e, Nat.le_refl _⟩)
        clear own hgr hat
        go_wp2
        go_ret
        exact ⟨_, rfl, by rw [HIN.out]; exact HO.out, HG.out, HA.out⟩

set_option maxRecDepth 100000 in
set_option maxHeartbeats 4000000 in
theorem insInt_shift (v : Value) (l : List Int) (i : Nat) (y : Int) (g : Nat) (w : World) (base : Nat) (hown : w.ownsRow base 3 1 v l.length (l.flatMap intCells)) (hg : Blk w g 3 (intCells y).toArray) (hne : v.ownBlock ≠ some g) (hlen : l.length ≤ 1048576) (hb : base ≤ w.heap.size) (hi : i < l.length) (b cap : Nat) (cur : Array Value) (hv : v = .slice (some ⟨b, 0, none⟩) l.length cap) (hh : Blk w b 3 cur) (hroom : l.length + 1 ≤ cap) (hcm : cap ≤ 9223372036854775807) (hsz : cur.size = cap * 1) (ht : cur.toList.take (l.length * 1) = l.flatMap intCells) (hbb : base ≤ b) :
    Calls Try.prog 119 #[v, .int .i64 i, .slice (some ⟨g, 0, none⟩) 1 1] w fun e w' => ∃ v', e = .returned v' ∧ w'.ownsRow base 3 1 v' (l.length + 1) ((insAt l i y).flatMap intCells) ∧ w.grownBy w' v.ownBlock ∧ (v'.ownBlock = v.ownBlock ∨ ∃ b, v'.ownBlock = some b ∧ w.heap.size ≤ b) := by
  obtain ⟨n, hn⟩ : ∃ n, l.length = n := ⟨_, rfl⟩
  have hgb : g ≠ b := fun e => hne (by rw [hv, e]; rfl)
  subst hv
  have HS := Lib.hid (shift_list (size := 1) (f := intCells) intCells_len (C := cur.toList) (cap := cap) hi ht (by simpa using hsz) hroom y)
  have hdl : ((l.drop i).flatMap intCells).length = (n - i) * 1 := by rw [flat_length intCells_len, List.length_drop, hn]
  have hil : (insAt l i y).length = n + 1 := by rw [insAt_len (by omega), hn]
  rw [hn] at hi hroom hlen ht HS ⊢
  have hin : i ≤ n := by omega
  have hz1 : ¬ ((i : Int) = (n : Int)) := by omega
  have hz2 : ¬ ((n : Int) + 1 > (cap : Int)) := by omega
  have hw1 : IntKind.i64.wrap ((n : Int) + 1) = (n : Int) + 1 := by rw [IntKind.wrap_i64]; omega
  have hw2 : IntKind.i64.wrap ((i : Int) + 1) = (i : Int) + 1 := by rw [IntKind.wrap_i64]; omega
  have hb1 : (0 : Int) ≤ (i : Int) + 1 := by omega
  have hb1' : (0 : Int) ≤ (n : Int) + 1 := by omega
  have htn : ((i : Int) + 1).toNat = i + 1 := by omega
  have htn' : ((n : Int) + 1).toNat = n + 1 := by omega
  have hb2 : ¬ (cap = i + 1) := by omega
  have hb3 : (i : Int) ≤ (n : Int) + 1 := by omega
  have hb4 : ¬ (cap = i) := by omega
  have hb5 : (n : Int) + 1 ≤ (cap : Int) := by omega
  have hb6 : (i : Int) + 1 ≤ (n : Int) + 1 := by omega
  have hb7 : (0 : Int) ≤ (i : Int) := by omega
  have hb8 : (i : Int) ≤ (n : Int) := by omega
  have hb9 : (0 : Int) ≤ (n : Int) := by omega
  have hsga : w.shape? g = some (3, 1) := by have := hg; unfold Blk at this; simp [World.shape?, this, intCells]
  have hsgb : w.shape? b = some (3, cap * 1) := by have := hh; unfold Blk at this; simp [World.shape?, this, hsz]
  have hov : ∀ lb cb, (callFunc 135 #[.slice (some ⟨g, 0, none⟩) 1 1, .slice (some ⟨b, i + 1, none⟩) lb cb]).run Try.prog w = .ok (.value (.bool false)) w := fun lb cb => by
    rw [run_callFunc_extern Try.func135 (by kernel_rfl) (by kernel_rfl) (by kernel_rfl) (e := Extern.SlicesOverlaps.overlaps #[35, 35] #[4]) (by kernel_rfl),
      Lib.run_overlaps_apart w 35 4 3 Try.underlying35 1 (fun w => by obtain ⟨i0, hi0, _, hs0, _⟩ := info_parts int_info; simp [sizeOf, typeInfo, hi0, hs0]) ⟨g, 0, none⟩ ⟨b, i + 1, none⟩ 1 1 lb cb hgb 3 3 1 (cap * 1) hsga hsgb (by omega) (hg.frozen 0) (hg.frozen 1)]
    rfl
  have HG := Lib.hid hg; have HH := Lib.hid hh; have HSZ := Lib.hid hsz; have HT := Lib.hid ht; have HDL := Lib.hid hdl; have HIL := Lib.hid hil
  have hsc : cur.toList.length = cap * 1 := by simpa using hsz
  have hsrc : ∀ j u, ((l.drop i).flatMap intCells)[j]? = some u → w.cell? ((⟨b, i, none⟩ : Addr).add j) = some u := fun j u hu => by
    rw [← flat_drop intCells_len, List.getElem?_drop, ← ht, List.getElem?_take] at hu
    rw [add_some, hh.cell]
    split at hu
    · simpa using hu
    · cases hu
  have HSRC := Lib.hid hsrc
  have hfit : (i + 1) * 1 + (n - i) * 1 ≤ cap * 1 := by rw [← Nat.add_mul]; exact Nat.mul_le_mul_right _ (by omega)
  have hfit2 : i * 1 + 1 ≤ cap * 1 := by have : (i + 1) * 1 ≤ cap * 1 := Nat.mul_le_mul_right _ (by omega); omega
  have HMIN : Hid (n - i = Nat.min (n + 1 - i) (n + 1 - (i + 1))) := Lib.hid (by simp only [Nat.min_def]; split <;> omega)
  clear hg hh hsz ht hdl hil hne hsga hsgb hsrc
  go_enter Try.func119, Try.ntmps119
  go_wp2_with (simp only [hov])
  go_region_law (refine step_copyK rfl (.tmp 73) (.tmp 76) 35 35 rfl 3 Try.underlying35 1 (by kernel_rfl) (n - i) b (i + 1) (n + 1 - (i + 1)) (cap - (i + 1)) ⟨b, i, none⟩ (n + 1 - i) (cap - i) (by simp [Act.eval, Act.put]) (by simp [Act.eval, Act.put]) cur 3 HH.out.drew ((l.drop i).flatMap intCells) HMIN.out HDL.out HSRC.out (by rw [HDL.out, HSZ.out]; omega) (flat_one intCells_one _) ?_; intro w1 HX1 HG1)
  have HGV := Lib.hid (HG.out.drew.grown HG1.out (fun e => hgb (by injection e)))
  have HX1S : Hid ((lay cur (i + 1) ((l.drop i).flatMap intCells)).size = cap * 1) := Lib.hid (by rw [lay_size (by rw [HDL.out, HSZ.out]; omega), HSZ.out])
  have HMIN2 : Hid (1 = Nat.min 1 (n + 1 - i)) := Lib.hid (by simp only [Nat.min_def]; split <;> omega)
  go_wp2_with (refine wpList_copyK _ rfl (.tmp 80) (.tmp 81) 35 35 rfl 3 Try.underlying35 1 (by kernel_rfl) 1 b (i) (n + 1 - i) (cap - i) ⟨g, 0, none⟩ 1 1 rfl rfl (lay cur (i + 1) ((l.drop i).flatMap intCells)) 3 HX1.out (intCells y) HMIN2.out rfl (fun j u hu => news_cells HGV.out j u (by simpa using hu)) (by rw [HX1S.out]; show i + 1 ≤ cap * 1; omega) (intCells_one y) ?_)
  intro w2 HX2 HG2
  have HEND : Hid (w2.ownsRow base 3 1 (.slice (some ⟨b, 0, none⟩) (n + 1) cap) (n + 1) ((insAt l i y).flatMap intCells)) := Lib.hid ⟨by rw [flat_length intCells_len, HIL.out], .inr ⟨b, cap, _, rfl, hbb, HX2.out, hroom, by unfold maxLen; omega, by rw [lay_size (by rw [HX1S.out]; show i + 1 ≤ cap * 1; omega), HX1S.out], by
    have h := HS.out
    rw [lay_list, lay_list]
    (try simp only [Nat.mul_one] at h ⊢)
    exact h⟩⟩
  have HGR := Lib.hid (grown_trans (grown_trans (grown_drew w _) HG1.out) HG2.out)
  go_wp2
  go_ret
  exact ⟨_, rfl, HEND.out, HGR.out, .inl rfl⟩

set_option maxRecDepth 100000 in
set_option maxHeartbeats 4000000 in
theorem insInt_grow (v : Value) (l : List Int) (i : Nat) (y : Int) (g : Nat) (w : World) (base : Nat) (hown : w.ownsRow base 3 1 v l.length (l.flatMap intCells)) (hg : Blk w g 3 (intCells y).toArray) (hne : v.ownBlock ≠ some g) (hlen : l.length ≤ 1048576) (hb : base ≤ w.heap.size) (hi : i < l.length) (b cap : Nat) (cur : Array Value) (hv : v = .slice (some ⟨b, 0, none⟩) l.length cap) (hh : Blk w b 3 cur) (hnc : l.length ≤ cap) (hroom : cap < l.length + 1) (ht : cur.toList.take (l.length * 1) = l.flatMap intCells) :
    Calls Try.prog 119 #[v, .int .i64 i, .slice (some ⟨g, 0, none⟩) 1 1] w fun e w' => ∃ v', e = .returned v' ∧ w'.ownsRow base 3 1 v' (l.length + 1) ((insAt l i y).flatMap intCells) ∧ w.grownBy w' v.ownBlock ∧ (v'.ownBlock = v.ownBlock ∨ ∃ b, v'.ownBlock = some b ∧ w.heap.size ≤ b) := by
  obtain ⟨n, hn⟩ : ∃ n, l.length = n := ⟨_, rfl⟩
  subst hv
  obtain rfl : cap = l.length := by omega
  have hbw := hh.lt
  have hgw := hg.lt
  have hdl : ((l.drop i).flatMap intCells).length = (n - i) * 1 := by rw [flat_length intCells_len, List.length_drop, hn]
  have hil : (insAt l i y).length = n + 1 := by rw [insAt_len (by omega), hn]
  have HTK : Hid (((l.take i).flatMap intCells).length = i * 1) := Lib.hid (by rw [flat_length intCells_len, List.length_take, Nat.min_eq_left (by omega)])
  have HGL : Hid (∀ (Z : List Value) (G : Nat), l.length + 1 ≤ G → Z.length = (G - i) * 1 → _) := Lib.hid (fun Z G h1 h2 => grow_list (size := 1) (f := intCells) intCells_len (l := l) (Z := Z) (i := i) (G := G) hi h1 h2 y (R := (l.take i).flatMap intCells ++ Z) rfl)
  rw [hn] at hi hlen ht HGL hroom ⊢
  obtain ⟨i0, hi0, hz0, hzs, hzb⟩ := info_parts int_info
  have hik : i + (n + 1 - i) = n + 1 := by omega
  have hkk : (n : Int) + 1 - (i : Int) = ((n + 1 - i : Nat) : Int) := by omega
  have hsrcb : ∀ j u, (l.flatMap intCells)[j]? = some u → w.cell? ⟨b, j, none⟩ = some u := fun j u hu => by
    rw [← ht, List.getElem?_take] at hu
    rw [hh.cell]
    split at hu
    · simpa using hu
    · cases hu
  have hold : (Builtin.firstCells i0.size i (.slice (some ⟨b, 0, none⟩) i n)).run Try.prog w.drew = .ok ((l.take i).flatMap intCells).toArray w.drew := by
    rw [hzs]
    refine run_firstCells_some w.drew 1 i ⟨b, 0, none⟩ i n _ HTK.out (fun j u hj => ?_)
    rw [add_some, Nat.zero_add]
    rw [← flat_take intCells_len, List.getElem?_take] at hj
    by_cases hji : j < i * 1
    · rw [if_pos hji] at hj; exact hsrcb j u hj
    · rw [if_neg hji] at hj; cases hj
  have hrz : ∀ ty, (Builtin.append_ #[35, 3] ty #[.slice (some ⟨b, 0, none⟩) i n, .int .i64 ((n : Int) + 1 - (i : Int))]).run Try.prog w = .ok (.slice (some ⟨w.heap.size, 0, none⟩) (n + 1) (grownCap w (n + 1) n 3)) (w.drew.alloc (.cells (((l.take i).flatMap intCells).toArray ++ Builtin.zeroCells (Value.int .i64 0).cells (n + 1 - i) ++ Builtin.zeroCells (Value.int .i64 0).cells (grownCap w (n + 1) n 3 - (n + 1))) 3)) := fun ty => by
    have h := Lib.run_append_grow_zeros w 35 3 ty 3 i0 _ .i64 .i64 Try.underlying35 Try.underlying3 hi0 hz0 (some ⟨b, 0, none⟩) i n _ hold (n + 1 - i) (by omega) (by omega) (by omega) (by omega) (by rw [hzb]; omega) (by rw [hzb, hik]; exact growslice_fits hroom (by omega))
    rw [hik] at h
    rw [hkk]
    exact h
  obtain ⟨G, hG⟩ : ∃ G, grownCap w (n + 1) n 3 = G := ⟨_, rfl⟩
  have hGn : n + 1 ≤ G := by rw [← hG]; exact grownCap_ge w _ _ _
  have hG63 : G ≤ 9223372036854775807 := by
    have := grownCap_le_maxLen w (n + 1) n 3 (by unfold maxLen; omega)
    rw [hG] at this
    unfold maxLen at this
    omega
  simp only [hG] at hrz
  obtain ⟨ROW, hROW⟩ : ∃ ROW : Array Value, ((l.take i).flatMap intCells).toArray ++ Builtin.zeroCells (Value.int .i64 0).cells (n + 1 - i) ++ Builtin.zeroCells (Value.int .i64 0).cells (G - (n + 1)) = ROW := ⟨_, rfl⟩
  simp only [hROW] at hrz
  have HRL : Hid (ROW.toList = (l.take i).flatMap intCells ++ (Builtin.zeroCells (Value.int .i64 0).cells (n + 1 - i) ++ Builtin.zeroCells (Value.int .i64 0).cells (G - (n + 1))).toList) := Lib.hid (by rw [← hROW]; simp)
  have HZL : Hid ((Builtin.zeroCells (Value.int .i64 0).cells (n + 1 - i) ++ Builtin.zeroCells (Value.int .i64 0).cells (G - (n + 1))).toList.length = (G - i) * 1) := Lib.hid (by simp [Builtin.zeroCells, Value.cells]; omega)
  have HRS : Hid (ROW.size = G * 1) := Lib.hid (by
    have h : ROW.toList.length = i * 1 + (G - i) * 1 := by rw [HRL.out, List.length_append, HTK.out, HZL.out]
    have h2 : ROW.toList.length = ROW.size := rfl
    omega)
  have HRZ := Lib.hid hrz
  have HG := Lib.hid hg; have HH := Lib.hid hh; have HDL := Lib.hid hdl; have HIL := Lib.hid hil; have HSB := Lib.hid hsrcb
  have HMIN : Hid (n - i = Nat.min (n - i) (n + 1 - (i + 1))) := Lib.hid (by simp only [Nat.min_def]; split <;> omega)
  have HMIN2 : Hid (1 = Nat.min 1 (n + 1 - i)) := Lib.hid (by simp only [Nat.min_def]; split <;> omega)
  clear hg hh hdl hil hne hsrcb hrz hROW hG hold hi0 hz0 hzs hzb hkk hik ht hroom
  have hin : i ≤ n := by omega
  have hz1 : ¬ ((i : Int) = (n : Int)) := by omega
  have hz2 : (n : Int) < (n : Int) + 1 := by omega
  have hw1 : IntKind.i64.wrap ((n : Int) + 1) = (n : Int) + 1 := by rw [IntKind.wrap_i64]; omega
  have hw2 : IntKind.i64.wrap ((i : Int) + 1) = (i : Int) + 1 := by rw [IntKind.wrap_i64]; omega
  have hw3 : IntKind.i64.wrap ((n : Int) + 1 - (i : Int)) = (n : Int) + 1 - (i : Int) := by rw [IntKind.wrap_i64]; omega
  have hb1 : (0 : Int) ≤ (i : Int) + 1 := by omega
  have htn : ((i : Int) + 1).toNat = i + 1 := by omega
  have hb2 : ¬ (G = i + 1) := by omega
  have hb3 : (i : Int) ≤ (n : Int) + 1 := by omega
  have hb4 : ¬ (n = i) := by omega
  have hb5 : ¬ (G = i) := by omega
  have hb6 : (i : Int) + 1 ≤ (n : Int) + 1 := by omega
  have hb7 : (0 : Int) ≤ (i : Int) := by omega
  have hb8 : (i : Int) ≤ (n : Int) := by omega
  go_enter Try.func119, Try.ntmps119
  go_wp2_with (at_builtin; refine wpList_append_new _ rfl _ _ 35 3 rfl _ _ rfl rfl 3 ROW (HRZ.out _) ?_)
  intro w1 HX1 HB1
  have HGV := Lib.hid (HG.out.below HB1.out hgw)
  go_wp2_with (refine wpList_copyK _ rfl (.tmp 43) (.tmp 44) 35 35 rfl 3 Try.underlying35 1 (by kernel_rfl) 1 w.heap.size (i) (n + 1 - i) (G - i) ⟨g, 0, none⟩ 1 1 rfl rfl ROW 3 HX1.out (intCells y) HMIN2.out rfl (fun j u hu => news_cells HGV.out j u (by simpa using hu)) (by rw [HRS.out]; show i + 1 ≤ G * 1; omega) (intCells_one y) ?_)
  intro w2 HX2 HG2
  have HX2S : Hid ((lay ROW (i) (intCells y)).size = G * 1) := Lib.hid (by rw [lay_size (by rw [HRS.out]; show i + 1 ≤ G * 1; omega), HRS.out])
  have HSRC : Hid (∀ j u, ((l.drop i).flatMap intCells)[j]? = some u → w2.cell? ((⟨b, i, none⟩ : Addr).add j) = some u) := Lib.hid (fun j u hu => by
    rw [← flat_drop intCells_len, List.getElem?_drop] at hu
    rw [add_some]
    have h1 : w2.cell? ⟨b, i + j, none⟩ = w1.cell? ⟨b, i + j, none⟩ := World.cell?_of_block (HG2.out.block b (Nat.lt_of_lt_of_le hbw HB1.out.size) (fun e => by injection e with e; omega))
    rw [h1, HB1.out.cell (p := ⟨b, _, none⟩) hbw]
    exact HSB.out _ u (by simpa using hu))
  go_wp2
  go_region_law (refine step_copyK rfl (.tmp 50) (.tmp 53) 35 35 rfl 3 Try.underlying35 1 (by kernel_rfl) (n - i) w.heap.size (i + 1) (n + 1 - (i + 1)) (G - (i + 1)) ⟨b, i, none⟩ (n - i) (n - i) (by simp [Act.eval, Act.put]) (by simp [Act.eval, Act.put]) (lay ROW (i) (intCells y)) 3 HX2.out.drew ((l.drop i).flatMap intCells) HMIN.out HDL.out HSRC.out (by rw [HDL.out, HX2S.out]; omega) (flat_one intCells_one _) ?_; intro w3 HX3 HG3)
  have HEND : Hid (w3.ownsRow base 3 1 (.slice (some ⟨w.heap.size, 0, none⟩) (n + 1) G) (n + 1) ((insAt l i y).flatMap intCells)) := Lib.hid ⟨by rw [flat_length intCells_len, HIL.out], .inr ⟨w.heap.size, G, _, rfl, hb, HX3.out, hGn, by unfold maxLen; omega, by rw [lay_size (by rw [HDL.out, HX2S.out]; omega), HX2S.out], by
    have h := HGL.out _ G hGn HZL.out
    rw [← HRL.out] at h
    rw [lay_list, lay_list]
    (try simp only [Nat.mul_one] at h ⊢)
    exact h⟩⟩
  have HGR : Hid (w.grownBy w3 (some b)) := Lib.hid (by
    have g2 := HG2.out; have g3 := HG3.out; have b1 := HB1.out
    exact ⟨g3.os.trans (g2.os.trans b1.os), g3.tape.trans (g2.tape.trans b1.tape), g3.output.trans (g2.output.trans b1.output), Nat.le_trans b1.size (Nat.le_trans g2.size g3.size), fun q hq _ =>
      (g3.block q (by have := g2.size; have := b1.size; show q < w2.heap.size; omega) (fun e => by injection e with e; omega)).trans ((g2.block q (by have := b1.size; omega) (fun e => by injection e with e; omega)).trans (b1.block q hq))⟩)
  go_wp2
  go_ret
  exact ⟨_, rfl, HEND.out, HGR.out, .inr ⟨_, rfl, Nat.le_refl _⟩⟩

theorem insInt_any (v : Value) (l : List Int) (i : Nat) (y : Int) (g : Nat) (w : World) (base : Nat) (hown : w.ownsRow base 3 1 v l.length (l.flatMap intCells)) (hg : Blk w g 3 (intCells y).toArray) (hne : v.ownBlock ≠ some g) (hlen : l.length ≤ 1048576) (hb : base ≤ w.heap.size) (hi : i ≤ l.length) :
    Calls Try.prog 119 #[v, .int .i64 i, .slice (some ⟨g, 0, none⟩) 1 1] w fun e w' => ∃ v', e = .returned v' ∧ w'.ownsRow base 3 1 v' (l.length + 1) ((insAt l i y).flatMap intCells) ∧ w.grownBy w' v.ownBlock ∧ (v'.ownBlock = v.ownBlock ∨ ∃ b, v'.ownBlock = some b ∧ w.heap.size ≤ b) := by
  by_cases he : i = l.length
  · exact insInt_end v l i y g w base hown hg hne hlen hb he
  · rcases hown.2 with ⟨rfl, h0⟩ | ⟨b, cap, cur, hv, hbb, hh, hnc, hcm, hsz, ht⟩
    · omega
    · by_cases hroom : l.length + 1 ≤ cap
      · exact insInt_shift v l i y g w base hown hg hne hlen hb (by omega) b cap cur hv hh hroom (by unfold maxLen at hcm; omega) hsz ht hbb
      · exact insInt_grow v l i y g w base hown hg hne hlen hb (by omega) b cap cur hv hh hnc (by omega) ht
end Go.Proofs.Ytmafhaadcjgcbaa
end
section
namespace Go.Proofs.Ytmafhaadcjgcbaa
open Go Go.RowKit

set_option maxRecDepth 100000 in
set_option maxHeartbeats 4000000 in
theorem hangKid_any (next : Int) (v : Value) (l : List LN) (w : World) (base : Nat) (O : Nat → Prop) (hOO : ∀ b, some b ∈ (v.ownBlock :: allBlocks l) → O b) (hO : OwnM w base v l) (hbw : base ≤ w.heap.size) (hS : SrtB (l.map LN.n)) (hr : ∀ x ∈ l.map LN.n, ∀ k ∈ x.kids, InR k) (hl : l.length ≤ 1048576)
    (jn : Nat) (hjn : jn < l.length) (X : LN) (hX : l[jn] = X) (jp : Nat) (hjp : jp < l.length) (Y : LN) (hY : l[jp] = Y) (hne : jp ≠ jn) (role : ByteArray) (a : Int) (ha : InR a)
    (hF : Closed ((l.map LN.n).set jn { X.n with parent := Y.n.id, role := role })) (i : Int) (hsp : spotI Y.n.kids (inL ⟨next, (l.map LN.n).set jn { X.n with parent := Y.n.id, role := role }⟩ Y.n role) a = some i) (hk4 : Y.n.kids.length ≤ 4096) :
    Calls Try.prog 83 #[.agg #[.int .i64 next, v], .int .i64 X.n.id, .int .i64 Y.n.id, .string role, .int .i64 a] w fun e w' => e = .returned (.tuple #[]) ∧
      ∃ l', OwnM w' base v l' ∧ l'.map LN.n = ((l.map LN.n).set jn { X.n with parent := Y.n.id, role := role }).set jp { Y.n with kids := insAt Y.n.kids i.toNat X.n.id } ∧ KeepO O w w' := by
  obtain ⟨g, cap, rfl, hnc, hcm, hgb, hgw⟩ := own_some hO.row (by omega)
  have HOG : O g := hOO g (by show some g ∈ some g :: _; exact List.mem_cons_self ..)
  have HOK : Hid (∀ b, Y.k.ownBlock = some b → O b) := Lib.hid (fun b e => hOO b (List.mem_cons_of_mem _ (mem_all (x := Y) (by rw [← hY]; exact List.getElem_mem hjp) (by simp [LN.blocks, e]))))
  obtain ⟨ns, hns⟩ : ∃ ns, l.map LN.n = ns := ⟨_, rfl⟩
  have hlen : l.length = ns.length := by rw [← hns]; simp
  have hXn : ns[jn]? = some X.n := by rw [← hns]; simp [hjn, hX]
  have hYn : ns[jp]? = some Y.n := by rw [← hns]; simp [hjp, hY]
  rw [hns] at hS hr hF hsp ⊢
  rw [hlen] at hO ⊢
  have hjn2 : jn < ns.length := by omega
  have hjp2 : jp < ns.length := by omega
  have hXg : ns[jn] = X.n := by rw [List.getElem?_eq_getElem hjn2] at hXn; injection hXn
  have hYg : ns[jp] = Y.n := by rw [List.getElem?_eq_getElem hjp2] at hYn; injection hYn
  have hXi := hS.2 jn hjn2; have hYi := hS.2 jp hjp2
  rw [hXg] at hXi; rw [hYg] at hYi
  have hatX : atI ns X.n.id = jn := by rw [← hXg]; exact atI_some hS.1 hjn2 rfl
  -- the nodes behind the two stores
  obtain ⟨ns1, hns1⟩ : ∃ ns1, ns.set jn { X.n with parent := Y.n.id, role := role } = ns1 := ⟨_, rfl⟩
  have hids : ns1.map (·.id) = ns.map (·.id) := by
    rw [← hns1]
    apply List.ext_getElem (by simp)
    intro q h1 h2
    simp only [List.getElem_map]
    by_cases hq : q = jn
    · subst hq; simp [hXg]
    · rw [List.getElem_set_ne (by omega)]
  have hS1 := srtB_congr hS hids
  have hlen1 : ns1.length = ns.length := by rw [← hns1]; simp
  have hY1 : ∃ h : jp < ns1.length, ns1[jp]'h = Y.n := ⟨by omega, by simp only [← hns1]; rw [List.getElem_set_ne (by omega), hYg]⟩
  have hatY : atI ns1 Y.n.id = jp := by obtain ⟨h, e⟩ := hY1; rw [← e]; exact atI_some hS1.1 h rfl
  rw [hns1] at hF hsp ⊢
  have hr1 : ∀ x ∈ ns1, ∀ k ∈ x.kids, InR k := fun x hx k hk => by
    rw [← hns1] at hx
    rcases List.mem_or_eq_of_mem_set hx with hx | rfl
    · exact hr x hx k hk
    · exact hr X.n (by rw [← hXg]; exact List.getElem_mem _) k hk
  have hi0 := spotI_le inL_sub hsp
  obtain ⟨q0, rfl⟩ : ∃ q : Nat, i = q := ⟨i.toNat, by omega⟩
  have HSP := Lib.hid hsp; have HF := Lib.hid hF; have HS := Lib.hid hS; have HS1 := Lib.hid hS1; have HR1 := Lib.hid hr1; have HNS := Lib.hid hns; have HNS1 := Lib.hid hns1; have HX := Lib.hid hX; have HY := Lib.hid hY; have HY1 := Lib.hid hY1; have HO := Lib.hid hO; have HLEN := Lib.hid hlen; have HL1 := Lib.hid hlen1
  have HATX := Lib.hid hatX; have HATY := Lib.hid hatY
  have hp0 : (Y.n.id == 0) = false := beq_eq_false_iff_ne.2 (by omega)
  have hXr : InR X.n.id := by unfold InR; omega
  have hYr : InR Y.n.id := by unfold InR; omega
  rw [hlen] at hl
  unfold maxLen at hcm
  clear hsp hF hS hS1 hr hr1 hns hns1 hX hY hY1 hO hXn hYn hXg hYg hids hatX hatY hlen hlen1
  have HB0 := Lib.hid ((KeepO.refl O w).alloc (.cells #[.int .i64 next, .slice (some ⟨g, 0, none⟩) ns.length cap] 24))
  have HM0 := Lib.hid (Blk.new w 24 #[.int .i64 next, .slice (some ⟨g, 0, none⟩) ns.length cap])
  have HO0 := Lib.hid (HO.out.below ((Below.refl w.heap.size w).alloc (Nat.le_refl _) (.cells #[.int .i64 next, .slice (some ⟨g, 0, none⟩) ns.length cap] 24)))
  have hgm : g ≠ w.heap.size := by omega
  go_enter Try.func83, Try.ntmps83
  go_wp2_with fail
  obtain ⟨u0, hu0⟩ : ∃ u : World, w.alloc (.cells #[.int .i64 next, .slice (some ⟨g, 0, none⟩) ns.length cap] 24) = u := ⟨_, rfl⟩
  rw [hu0] at HB0 HM0 HO0
  (try rw [hu0])
  have hbu : base ≤ u0.heap.size := by rw [← hu0]; simp; omega
  clear hu0
  have hj0 : (0 : Int) ≤ jn := by omega
  have hj1 : (jn : Int) < ns.length := by omega
  have hj2 : (0 : Int) ≤ jp := by omega
  have hj3 : (jp : Int) < ns.length := by omega
  have m0 := HM0.out.cell 0; have m1 := HM0.out.cell 1
  have hmlt := HM0.out.lt
  simp at m0 m1
  have CP := Lib.hid (fun (d : Nat) (os : Array Obj) => Calls.regrown_of (w := u0) (d := d) (os := os) (by
    have ho := HO0.out.below (below_regrown u0 d os)
    have := place_any (some ⟨g, 0, none⟩) cap next X.n.id ns (Sort.grow (redrawn u0 d) os) (fun b => base ≤ b ∧ b < (Sort.grow (redrawn u0 d) os).heap.size) (fun b hb => hb.2) (by rw [← HNS.out]; exact ho.rowOf (fun b h1 h2 => ⟨h1, h2⟩)) HS.out hXr (by omega)
    rw [HATX.out] at this; exact this))
  have k0 := cell_regrown m0; have k1 := cell_regrown m1
  clear m0 m1
  refine wp_region_quiet_below (by kernel_rfl) (by kernel_rfl) ?_
  repeat (first | go_big_quiet_step (exact CP.out _ _) | quiet_step (exact CP.out _ _))
  refine wpQuiet_nil ?_
  intro _ hw'
  obtain ⟨⟨dq, osq⟩, hw''⟩ := hw'
  subst hw''
  have hbr := below_regrown u0 dq osq
  have HB1 := Lib.hid (HB0.out.below hbr)
  have HM1 := Lib.hid (HM0.out.below hbr hmlt)
  have HO1 := Lib.hid (HO0.out.below hbr)
  have hbu2 := Nat.le_trans hbu hbr.size
  clear k0 k1 CP hbr
  obtain ⟨u1, hu⟩ : ∃ z : World, Sort.grow (redrawn u0 dq) osq = z := ⟨_, rfl⟩
  rw [hu] at HB1 HM1 HO1 hbu2 ⊢
  clear hu hmlt hbu
  have hbu := hbu2
  clear hbu2
  have c2 := HO1.out.cell (i := jn) (j := 2) hjn (by omega); have c3 := HO1.out.cell (i := jn) (j := 3) hjn (by omega)
  have z2 := HO1.out.frozen (jn * 7 + 2); have z3 := HO1.out.frozen (jn * 7 + 3)
  rw [HX.out] at c2 c3
  simp [LN.cells, nodeCellsA] at c2 c3
  have hXL := HX.out
  have HO2 := Lib.hid ((HO1.out.setHead hjn (j := 2) (by omega) (.int .i64 Y.n.id) { X with n := { X.n with parent := Y.n.id } } (by rw [hXL]; rfl) (by rw [hXL]; exact ⟨rfl, rfl, rfl⟩) (by rw [hXL]; exact ⟨rfl, rfl, rfl⟩)).setHead (i := jn) (by simpa using hjn) (j := 3) (by omega) (.string role) { X with n := { X.n with parent := Y.n.id, role := role } } (by rw [List.getElem_set_self]; rfl) (by rw [List.getElem_set_self]; exact ⟨rfl, rfl, rfl⟩) (by rw [List.getElem_set_self]; exact ⟨rfl, rfl, rfl⟩))
  rw [List.set_set] at HO2
  have HB2 := Lib.hid ((HB1.out.set_ HOG (jn * 7 + 2) (.int .i64 Y.n.id)).set_ HOG (jn * 7 + 3) (.string role))
  have HM2 := Lib.hid ((HM1.out.far (p := ⟨g, jn * 7 + 2, none⟩) (Ne.symm hgm) (.int .i64 Y.n.id)).far (p := ⟨g, jn * 7 + 3, none⟩) (Ne.symm hgm) (.string role))
  have hbu2 : base ≤ ((u1.setCell ⟨g, jn * 7 + 2, none⟩ (.int .i64 Y.n.id)).setCell ⟨g, jn * 7 + 3, none⟩ (.string role)).heap.size := by simpa using hbu
  have HWE : Hid (∃ z, z = (u1.setCell ⟨g, jn * 7 + 2, none⟩ (.int .i64 Y.n.id)).setCell ⟨g, jn * 7 + 3, none⟩ (.string role)) := Lib.hid ⟨_, rfl⟩
  clear hXL hbu
  go_upto_region 3 with fail
  obtain ⟨u2, hu2⟩ := HWE.out
  rw [← hu2] at HO2 HB2 HM2 hbu2
  (try rw [← hu2])
  have hbu := hbu2
  clear hu2 HWE c2 c3 z2 z3 hbu2 HO1 HB1 HM1
  have HMAP : Hid ((l.set jn { X with n := { X.n with parent := Y.n.id, role := role } }).map LN.n = ns1) := Lib.hid (by rw [List.map_set, HNS.out, HNS1.out])
  have HL1' : Hid (ns1.length = ns.length) := HL1
  obtain ⟨l1, hl1⟩ : ∃ l1, l.set jn { X with n := { X.n with parent := Y.n.id, role := role } } = l1 := ⟨_, rfl⟩
  have hlp : ∃ h : jp < l1.length, l1[jp] = Y := by
    subst hl1
    exact ⟨by simpa using hjp, by rw [List.getElem_set_ne (by omega)]; exact HY.out⟩
  rw [hl1] at HO2 HMAP
  clear hl1
  obtain ⟨hjp1, hYl⟩ := hlp
  have HYL := Lib.hid hYl
  clear hYl
  have m0 := HM2.out.cell 0; have m1 := HM2.out.cell 1
  have hmlt := HM2.out.lt
  simp at m0 m1
  have HSPC : Hid (Calls Try.prog 118 #[.agg #[.int .i64 next, .slice (some ⟨g, 0, none⟩) ns.length cap], .int .i64 Y.n.id, .string role, .int .i64 a] u2 fun e w' => e = .returned (.tuple #[.int .i64 q0, .bool true]) ∧ Below u2.heap.size u2 w') := Lib.hid (by
    have := spot_any (some ⟨g, 0, none⟩) cap ⟨next, ns1⟩ u2 (fun b => base ≤ b ∧ b < u2.heap.size) (fun b hb => hb.2) (by rw [← HMAP.out]; exact HO2.out.rowOf (fun b h1 h2 => ⟨h1, h2⟩)) (fam_of HS1.out HF.out) HS1.out HR1.out (by show ns1.length ≤ _; rw [HL1.out]; omega) jp HY1.out.choose Y.n HY1.out.choose_spec hk4 role a ha
    rw [HSP.out] at this
    simp only [HL1.out] at this
    exact this)
  go_wp2_with fail
  refine HSPC.out.mono ?_
  rintro _ w3 ⟨rfl, hb3⟩
  have HB3 := Lib.hid (HB2.out.below hb3)
  have HM3 := Lib.hid (HM2.out.below hb3 hmlt)
  have HO3 := Lib.hid (HO2.out.below hb3)
  have hbu3 := Nat.le_trans hbu hb3.size
  clear hb3 m0 m1 hmlt HO2 HB2 HM2 HSPC hbu
  have hbu := hbu3
  clear hbu3
  go_wp2_with fail
  have m0 := HM3.out.cell 0; have m1 := HM3.out.cell 1
  have hmlt := HM3.out.lt
  simp at m0 m1
  have CP := Lib.hid (fun (d : Nat) (os : Array Obj) => Calls.regrown_of (w := w3) (d := d) (os := os) (by
    have ho := HO3.out.below (below_regrown w3 d os)
    have := place_any (some ⟨g, 0, none⟩) cap next Y.n.id ns1 (Sort.grow (redrawn w3 d) os) (fun b => base ≤ b ∧ b < (Sort.grow (redrawn w3 d) os).heap.size) (fun b hb => hb.2) (by rw [← HMAP.out]; exact ho.rowOf (fun b h1 h2 => ⟨h1, h2⟩)) HS1.out hYr (by have := HL1.out; omega)
    rw [HATY.out, HL1.out] at this; exact this))
  have k0 := cell_regrown m0; have k1 := cell_regrown m1
  clear m0 m1
  refine wp_region_quiet_below (by kernel_rfl) (by kernel_rfl) ?_
  repeat (first | go_big_quiet_step (exact CP.out _ _) | quiet_step (exact CP.out _ _))
  refine wpQuiet_nil ?_
  intro _ hw'
  obtain ⟨⟨dq, osq⟩, hw''⟩ := hw'
  subst hw''
  have hbr := below_regrown w3 dq osq
  have HB4 := Lib.hid (HB3.out.below hbr)
  have HM4 := Lib.hid (HM3.out.below hbr hmlt)
  have HO4 := Lib.hid (HO3.out.below hbr)
  have hbu2 := Nat.le_trans hbu hbr.size
  clear k0 k1 CP hbr
  obtain ⟨u4, hu⟩ : ∃ z : World, Sort.grow (redrawn w3 dq) osq = z := ⟨_, rfl⟩
  rw [hu] at HB4 HM4 HO4 hbu2 ⊢
  clear hu hmlt hbu
  have hbu := hbu2
  clear hbu2
  have c5 := HO4.out.cell (i := jp) (j := 5) hjp1 (by omega)
  rw [HYL.out] at c5
  simp [LN.cells, nodeCellsA] at c5
  have hYL := HYL.out
  have hol := HO4.out.lists Y (by rw [← hYL]; exact List.getElem_mem hjp1)
  have hYb : Y.k.ownBlock ∈ (l1[jp]).blocks := by rw [hYL]; simp [LN.blocks]
  have HYB := Lib.hid hYb
  have HNG : Hid (Y.k.ownBlock ≠ some g) := Lib.hid (fun e => HO4.out.row_ne (List.getElem_mem hjp1) (b := g) (by rw [← e]; exact hYb) rfl)
  have HOL := Lib.hid hol
  obtain ⟨Ak, nk, hAk⟩ := hol.k.shape
  have HAK := Lib.hid hAk
  clear hYL hol hYb hAk
  obtain ⟨q, hq⟩ : ∃ q, u4.heap.size = q := ⟨_, rfl⟩
  have HB5 := Lib.hid (HB4.out.alloc (.cells #[.int .i64 X.n.id] 3))
  have HQ5 : Hid (Blk (u4.alloc (.cells #[.int .i64 X.n.id] 3)) q 3 (intCells X.n.id).toArray) := Lib.hid (by rw [← hq]; exact Blk.new _ _ _)
  have HO5 := Lib.hid (HO4.out.below ((Below.refl u4.heap.size u4).alloc (Nat.le_refl _) (.cells #[.int .i64 X.n.id] 3)))
  have HLT : Hid (∀ b, some b ∈ Y.blocks → b < q) := Lib.hid (fun b hb => by rw [← hq]; exact (HOL.out.lt b hb).2)
  go_wp2_with fail
  (try rw [hq])
  obtain ⟨u5, hu5⟩ : ∃ z : World, u4.alloc (.cells #[.int .i64 X.n.id] 3) = z := ⟨_, rfl⟩
  have hbu5 : base ≤ u5.heap.size := by rw [← hu5]; simp; omega
  rw [hu5] at HB5 HQ5 HO5 ⊢
  clear hu5 hq c5 hbu
  have HOL5 := Lib.hid (HO5.out.lists Y (by rw [← HYL.out]; exact List.getElem_mem hjp1))
  have hko : u5.ownsRow base 3 1 Y.k Y.n.kids.length (Y.n.kids.flatMap intCells) := by rw [intCells_map]; exact HOL5.out.k
  refine (insInt_any Y.k Y.n.kids q0 X.n.id q u5 base hko HQ5.out (fun e => by have := HLT.out q (by rw [← e]; simp [LN.blocks]); omega) (by omega) hbu5 (by omega)).mono ?_
  rintro _ w6 ⟨v', rfl, hown, hg6, hat6⟩
  have hkl6 : (insAt Y.n.kids q0 X.n.id).length = Y.n.kids.length + 1 := insAt_len (by omega) _
  have HOW : Hid (OwnI w6 base v' (insAt Y.n.kids q0 X.n.id)) := Lib.hid (by unfold OwnI; rw [hkl6, ← intCells_map]; exact hown)
  obtain ⟨A6, n6, rfl⟩ := HOW.out.shape
  have HG6 := Lib.hid hg6
  have HAT6 := Lib.hid hat6
  have hrowb := HO5.out.row.lt g rfl
  have hg6g : w6.heap[g]? = u5.heap[g]? := hg6.block g hrowb.2 (fun e => HNG.out e.symm)
  have c5 : w6.cell? ⟨g, jp * 7 + 5, none⟩ = some (.slice Ak Y.n.kids.length nk) := by
    have h := HO5.out.cell (i := jp) (j := 5) hjp1 (by omega)
    rw [HYL.out] at h
    rw [World.cell?_of_block (w := u5) (a := ⟨g, jp * 7 + 5, none⟩) hg6g, h]
    simp [LN.cells, nodeCellsA, HAK.out]
  have z5 : w6.frozen? ⟨g, jp * 7 + 5, none⟩ = false := by
    rw [World.frozen?_of_block (w := u5) (a := ⟨g, jp * 7 + 5, none⟩) hg6g]; exact HO5.out.frozen _
  have HB6 := Lib.hid (HB5.out.grown hg6 (fun b e => HOK.out b e))
  have HB7 := Lib.hid (HB6.out.set_ HOG (jp * 7 + 5) (.slice A6 (insAt Y.n.kids q0 X.n.id).length n6))
  clear hown hg6 hat6 hkl6 hko hg6g
  have HO7 : Hid (OwnM (w6.setCell ⟨g, jp * 7 + 5, none⟩ (.slice A6 (insAt Y.n.kids q0 X.n.id).length n6)) base (.slice (some ⟨g, 0, none⟩) ns.length cap) (l1.set jp ⟨{ Y.n with kids := insAt Y.n.kids q0 X.n.id }, Y.p, .slice A6 (insAt Y.n.kids q0 X.n.id).length n6, Y.r⟩)) := Lib.hid (by
    have hY := HYL.out
    refine HO5.out.setList hjp1 (j := 5) (by omega) _ Y.k (.slice A6 (insAt Y.n.kids q0 X.n.id).length n6) HG6.out HYB.out ?_ (by rw [hY]; rfl) (fun o => ?_) (fun hk => ?_) (fun b hb e => ?_)
    · rcases HAT6.out with e | ⟨b, e, hb⟩
      · exact .inl e
      · exact .inr (.inr ⟨b, e, hb⟩)
    · rw [hY]; simp only [LN.blocks, List.count_cons, List.count_nil]; omega
    · rw [hY] at hk
      refine ⟨own_keep HOL5.out.p fun b e => hk b (by simp [LN.blocks, e]) ?_, HOW.out, own_keep HOL5.out.r fun b e => hk b (by simp [LN.blocks, e]) ?_⟩
      · intro e2
        have h1 := HO5.out.dis b
        rw [List.count_cons] at h1
        have h2 := all_set_count hjp1 ⟨Y.n, .slice none 0 0, .slice none 0 0, .slice none 0 0⟩ (some b)
        rw [hY] at h2
        have h3 : 2 ≤ Y.blocks.count (some b) := by simp [LN.blocks, List.count_cons, e, ← e2]
        have h4 : (LN.blocks ⟨Y.n, .slice none 0 0, .slice none 0 0, .slice none 0 0⟩).count (some b) = 0 := by simp [LN.blocks, Value.ownBlock]
        omega
      · intro e2
        have h1 := HO5.out.dis b
        rw [List.count_cons] at h1
        have h2 := all_set_count hjp1 ⟨Y.n, .slice none 0 0, .slice none 0 0, .slice none 0 0⟩ (some b)
        rw [hY] at h2
        have h3 : 2 ≤ Y.blocks.count (some b) := by simp [LN.blocks, List.count_cons, e, ← e2]
        have h4 : (LN.blocks ⟨Y.n, .slice none 0 0, .slice none 0 0, .slice none 0 0⟩).count (some b) = 0 := by simp [LN.blocks, Value.ownBlock]
        omega
    · subst e
      have hrow := HO5.out.row_ne (List.getElem_mem hjp1) (b := b)
      rw [hY] at hrow
      simp only [LN.blocks, List.mem_cons, List.not_mem_nil, or_false] at hb hrow
      rcases hb with hb | hb | hb
      · exact hrow (.inl hb) rfl
      · rcases HAT6.out with e | ⟨b2, e, hb2⟩
        · exact hrow (.inr (.inl (hb.trans e))) rfl
        · have hbb : b = b2 := by have := hb.trans e; injection this
          have := HO5.out.row.lt b rfl
          omega
      · exact hrow (.inr (.inr hb)) rfl)
  go_wp2
  go_end0
  exact ⟨rfl, _, HO7.out, by rw [List.map_set, HMAP.out]; rfl, HB7.out⟩

set_option maxRecDepth 100000 in
set_option maxHeartbeats 4000000 in
theorem hangRoot_any (next : Int) (v : Value) (l : List LN) (w : World) (base : Nat) (O : Nat → Prop) (hOO : ∀ b, some b ∈ (v.ownBlock :: allBlocks l) → O b) (hO : OwnM w base v l) (hbw : base ≤ w.heap.size) (hS : SrtB (l.map LN.n)) (hl : l.length ≤ 1048576)
    (jn : Nat) (hjn : jn < l.length) (X : LN) (hX : l[jn] = X) (role : ByteArray) (a : Int) :
    Calls Try.prog 83 #[.agg #[.int .i64 next, v], .int .i64 X.n.id, .int .i64 0, .string role, .int .i64 a] w fun e w' => e = .returned (.tuple #[]) ∧
      ∃ l', OwnM w' base v l' ∧ l'.map LN.n = (l.map LN.n).set jn { X.n with parent := 0, role := role } ∧ KeepO O w w' := by
  obtain ⟨g, cap, rfl, hnc, hcm, hgb, hgw⟩ := own_some hO.row (by omega)
  have HOG : O g := hOO g (by show some g ∈ some g :: _; exact List.mem_cons_self ..)
  obtain ⟨ns, hns⟩ : ∃ ns, l.map LN.n = ns := ⟨_, rfl⟩
  have hlen : l.length = ns.length := by rw [← hns]; simp
  have hXn : ns[jn]? = some X.n := by rw [← hns]; simp [hjn, hX]
  rw [hns] at hS ⊢
  rw [hlen] at hO ⊢
  have hjn2 : jn < ns.length := by omega
  have hXg : ns[jn] = X.n := by rw [List.getElem?_eq_getElem hjn2] at hXn; injection hXn
  have hXi := hS.2 jn hjn2
  rw [hXg] at hXi
  have hatX : atI ns X.n.id = jn := by rw [← hXg]; exact atI_some hS.1 hjn2 rfl
  have HS := Lib.hid hS; have HNS := Lib.hid hns; have HX := Lib.hid hX; have HO := Lib.hid hO; have HLEN := Lib.hid hlen
  have HATX := Lib.hid hatX
  have hp0 : ((0 : Int) == 0) = true := by decide
  have hXr : InR X.n.id := by unfold InR; omega
  rw [hlen] at hl
  unfold maxLen at hcm
  clear hS hns hX hO hXn hXg hatX hlen
  have HB0 := Lib.hid ((KeepO.refl O w).alloc (.cells #[.int .i64 next, .slice (some ⟨g, 0, none⟩) ns.length cap] 24))
  have HM0 := Lib.hid (Blk.new w 24 #[.int .i64 next, .slice (some ⟨g, 0, none⟩) ns.length cap])
  have HO0 := Lib.hid (HO.out.below ((Below.refl w.heap.size w).alloc (Nat.le_refl _) (.cells #[.int .i64 next, .slice (some ⟨g, 0, none⟩) ns.length cap] 24)))
  have hgm : g ≠ w.heap.size := by omega
  go_enter Try.func83, Try.ntmps83
  go_wp2_with fail
  obtain ⟨u0, hu0⟩ : ∃ u : World, w.alloc (.cells #[.int .i64 next, .slice (some ⟨g, 0, none⟩) ns.length cap] 24) = u := ⟨_, rfl⟩
  rw [hu0] at HB0 HM0 HO0
  (try rw [hu0])
  have hbu : base ≤ u0.heap.size := by rw [← hu0]; simp; omega
  clear hu0
  have hj0 : (0 : Int) ≤ jn := by omega
  have hj1 : (jn : Int) < ns.length := by omega
  have m0 := HM0.out.cell 0; have m1 := HM0.out.cell 1
  have hmlt := HM0.out.lt
  simp at m0 m1
  have CP := Lib.hid (fun (d : Nat) (os : Array Obj) => Calls.regrown_of (w := u0) (d := d) (os := os) (by
    have ho := HO0.out.below (below_regrown u0 d os)
    have := place_any (some ⟨g, 0, none⟩) cap next X.n.id ns (Sort.grow (redrawn u0 d) os) (fun b => base ≤ b ∧ b < (Sort.grow (redrawn u0 d) os).heap.size) (fun b hb => hb.2) (by rw [← HNS.out]; exact ho.rowOf (fun b h1 h2 => ⟨h1, h2⟩)) HS.out hXr (by omega)
    rw [HATX.out] at this; exact this))
  have k0 := cell_regrown m0; have k1 := cell_regrown m1
  clear m0 m1
  refine wp_region_quiet_below (by kernel_rfl) (by kernel_rfl) ?_
  repeat (first | go_big_quiet_step (exact CP.out _ _) | quiet_step (exact CP.out _ _))
  refine wpQuiet_nil ?_
  intro _ hw'
  obtain ⟨⟨dq, osq⟩, hw''⟩ := hw'
  subst hw''
  have hbr := below_regrown u0 dq osq
  have HB1 := Lib.hid (HB0.out.below hbr)
  have HM1 := Lib.hid (HM0.out.below hbr hmlt)
  have HO1 := Lib.hid (HO0.out.below hbr)
  have hbu2 := Nat.le_trans hbu hbr.size
  clear k0 k1 CP hbr
  obtain ⟨u1, hu⟩ : ∃ z : World, Sort.grow (redrawn u0 dq) osq = z := ⟨_, rfl⟩
  rw [hu] at HB1 HM1 HO1 hbu2 ⊢
  clear hu hmlt hbu
  have hbu := hbu2
  clear hbu2
  have c2 := HO1.out.cell (i := jn) (j := 2) hjn (by omega); have c3 := HO1.out.cell (i := jn) (j := 3) hjn (by omega)
  have z2 := HO1.out.frozen (jn * 7 + 2); have z3 := HO1.out.frozen (jn * 7 + 3)
  rw [HX.out] at c2 c3
  simp [LN.cells, nodeCellsA] at c2 c3
  have hXL := HX.out
  have HO2 := Lib.hid ((HO1.out.setHead hjn (j := 2) (by omega) (.int .i64 0) { X with n := { X.n with parent := 0 } } (by rw [hXL]; rfl) (by rw [hXL]; exact ⟨rfl, rfl, rfl⟩) (by rw [hXL]; exact ⟨rfl, rfl, rfl⟩)).setHead (i := jn) (by simpa using hjn) (j := 3) (by omega) (.string role) { X with n := { X.n with parent := 0, role := role } } (by rw [List.getElem_set_self]; rfl) (by rw [List.getElem_set_self]; exact ⟨rfl, rfl, rfl⟩) (by rw [List.getElem_set_self]; exact ⟨rfl, rfl, rfl⟩))
  rw [List.set_set] at HO2
  have HB2 := Lib.hid ((HB1.out.set_ HOG (jn * 7 + 2) (.int .i64 0)).set_ HOG (jn * 7 + 3) (.string role))
  clear hXL
  go_wp2
  refine bodyPost_ret (results_none rfl _ _ _) rfl ?_
  exact ⟨rfl, _, HO2.out, by rw [List.map_set, HNS.out], HB2.out⟩
end Go.Proofs.Ytmafhaadcjgcbaa
end
