import Derived.Test.YtmafhaadcjgcbaaCopyK
import Derived.Test.YtmafhaadcjgcbaaALentI
import Derived.Deep.RegionLaw
import Derived.Test.YtmafhaadcjgcbaaSetP
import Derived.Test.YtmafhaadcjgcbaaTwinA
import Derived.Test.YtmafhaadcjgcbaaAOrder
set_option linter.unusedSimpArgs false
set_option linter.unusedVariables false
section
namespace Go.Proofs.Ytmafhaadcjgcbaa
open Go Go.RowKit

theorem insProp_ar (l : List AProp) (n c : Nat) (hn : l.length = n) (hc : c ≤ maxLen) : c ≤ 9223372036854775807 := by unfold maxLen at hc; omega
set_option maxRecDepth 100000 in
set_option maxHeartbeats 4000000 in
theorem insProp_end (v : Value) (l : List AProp) (i : Nat) (y : AProp) (g : Nat) (w : World) (base : Nat) (hown : w.ownsRow base 85 2 v l.length (l.flatMap propCells)) (hg : Blk w g 85 (propCells y).toArray) (hne : v.ownBlock ≠ some g) (hlen : l.length ≤ 4398046511000) (hb : base ≤ w.heap.size) (hi : i = l.length) :
    Calls Try.prog 89 #[v, .int .i64 i, .slice (some ⟨g, 0, none⟩) 1 1] w fun e w' => ∃ v', e = .returned v' ∧ w'.ownsRow base 85 2 v' (l.length + 1) ((insAt l i y).flatMap propCells) ∧ w.grownBy w' v.ownBlock ∧ (v'.ownBlock = v.ownBlock ∨ ∃ b, v'.ownBlock = some b ∧ w.heap.size ≤ b) := by
  subst hi
  obtain ⟨n, hn⟩ : ∃ n, l.length = n := ⟨_, rfl⟩
  have hcells : ∀ ad, (some ⟨g, 0, none⟩ : Option Addr) = some ad → ∀ j u, (propCells y)[j]? = some u → w.cell? (ad.add j) = some u := fun ad e j u hu => by cases e; exact news_cells hg j u (by simpa using hu)
  have H := Lib.hid hown
  have HIN : Hid ((insAt l n y).flatMap propCells = l.flatMap propCells ++ propCells y) := Lib.hid (by rw [← hn, insAt_end, List.flatMap_append]; simp)
  rw [hn] at hlen
  clear hne
  rcases hown.2 with ⟨rfl, h0⟩ | ⟨b, cap, cur, rfl, hbb, hh, hnc, hcm, hsz, ht⟩
  · rw [hn] at h0
    subst h0
    rw [hn] at H ⊢
    clear hown hn
    go_enter Try.func89, Try.ntmps89
    go_wp2_with (at_builtin; refine wpList_append_from w rfl (.tmp 23) (.tmp 24) 34 rfl base 85 Try.underlying34 prop_info rfl (by omega) (.slice none 0 0) 0 (l.flatMap propCells) rfl H.out (some ⟨g, 0, none⟩) 1 1 (propCells y) rfl rfl (by simp) hcells (propCells_one y) (by unfold maxLen; omega) (by omega) hb ?_)
    all_goals
      intro A' c' w' own hgr hat
      have HO := Lib.hid own; have HG := Lib.hid hgr
      have HA : Hid ((Value.slice A' (0 + 1) c').ownBlock = (Value.slice none 0 0).ownBlock ∨ ∃ b, (Value.slice A' (0 + 1) c').ownBlock = some b ∧ w.heap.size ≤ b) := Lib.hid (hat.imp id fun e => ⟨_, e, Nat.le_refl _⟩)
      clear own hgr hat
      go_wp2
      go_ret
      exact ⟨_, rfl, by rw [HIN.out]; exact HO.out, HG.out, HA.out⟩
  · have hcm' := insProp_ar l n cap hn hcm
    rw [hn] at hnc H ⊢
    clear hown hh hsz ht hcm
    have hn0 : (0 : Int) ≤ n := by omega
    have hnn : n ≤ n := Nat.le_refl _
    by_cases hcn : cap = n
    all_goals
      go_enter Try.func89, Try.ntmps89
      go_wp2_with (at_builtin; refine wpList_append_from w rfl (.tmp 23) (.tmp 24) 34 rfl base 85 Try.underlying34 prop_info rfl (by omega) (.slice (some ⟨b, 0, none⟩) n cap) n (l.flatMap propCells) rfl H.out (some ⟨g, 0, none⟩) 1 1 (propCells y) rfl rfl (by simp) hcells (propCells_one y) (by unfold maxLen; omega) (by omega) hb ?_)
      all_goals
        intro A' c' w' own hgr hat
        have HO := Lib.hid own; have HG := Lib.hid hgr
        have HA : Hid ((Value.slice A' (n + 1) c').ownBlock = (Value.slice (some ⟨b, 0, none⟩) n cap).ownBlock ∨ ∃ q, (Value.slice A' (n + 1) c').ownBlock = some q ∧ w.heap.size ≤ q) := Lib.hid (hat.imp id fun e => ⟨_, e, Nat.le_refl _⟩)
        clear own hgr hat
        go_wp2
        go_ret
        exact ⟨_, rfl, by rw [HIN.out]; exact HO.out, HG.out, HA.out⟩

set_option maxRecDepth 100000 in
set_option maxHeartbeats 4000000 in
theorem insProp_shift (v : Value) (l : List AProp) (i : Nat) (y : AProp) (g : Nat) (w : World) (base : Nat) (hown : w.ownsRow base 85 2 v l.length (l.flatMap propCells)) (hg : Blk w g 85 (propCells y).toArray) (hne : v.ownBlock ≠ some g) (hlen : l.length ≤ 4398046511000) (hb : base ≤ w.heap.size) (hi : i < l.length) (b cap : Nat) (cur : Array Value) (hv : v = .slice (some ⟨b, 0, none⟩) l.length cap) (hh : Blk w b 85 cur) (hroom : l.length + 1 ≤ cap) (hcm : cap ≤ 9223372036854775807) (hsz : cur.size = cap * 2) (ht : cur.toList.take (l.length * 2) = l.flatMap propCells) (hbb : base ≤ b) :
    Calls Try.prog 89 #[v, .int .i64 i, .slice (some ⟨g, 0, none⟩) 1 1] w fun e w' => ∃ v', e = .returned v' ∧ w'.ownsRow base 85 2 v' (l.length + 1) ((insAt l i y).flatMap propCells) ∧ w.grownBy w' v.ownBlock ∧ (v'.ownBlock = v.ownBlock ∨ ∃ b, v'.ownBlock = some b ∧ w.heap.size ≤ b) := by
  obtain ⟨n, hn⟩ : ∃ n, l.length = n := ⟨_, rfl⟩
  have hgb : g ≠ b := fun e => hne (by rw [hv, e]; rfl)
  subst hv
  have HS := Lib.hid (shift_list (size := 2) (f := propCells) propCells_len (C := cur.toList) (cap := cap) hi ht (by simpa using hsz) hroom y)
  have hdl : ((l.drop i).flatMap propCells).length = (n - i) * 2 := by rw [flat_length propCells_len, List.length_drop, hn]
  have hil : (insAt l i y).length = n + 1 := by rw [insAt_len (by omega), hn]
  rw [hn] at hi hroom hlen ht HS ⊢
  have hin : i ≤ n := by omega
  have hz1 : ¬ ((i : Int) = (n : Int)) := by omega
  have hz2 : ¬ ((n : Int) + 1 > (cap : Int)) := by omega
  have hw1 : IntKind.i64.wrap ((n : Int) + 1) = (n : Int) + 1 := by rw [IntKind.wrap_i64]; omega
  have hw2 : IntKind.i64.wrap ((i : Int) + 1) = (i : Int) + 1 := by rw [IntKind.wrap_i64]; omega
  have hb1 : (0 : Int) ≤ (i : Int) + 1 := by omega
  have hb1' : (0 : Int) ≤ (n : Int) + 1 := by omega
  have htn : ((i : Int) + 1).toNat = i + 1 := by omega
  have htn' : ((n : Int) + 1).toNat = n + 1 := by omega
  have hb2 : ¬ (cap = i + 1) := by omega
  have hb3 : (i : Int) ≤ (n : Int) + 1 := by omega
  have hb4 : ¬ (cap = i) := by omega
  have hb5 : (n : Int) + 1 ≤ (cap : Int) := by omega
  have hb6 : (i : Int) + 1 ≤ (n : Int) + 1 := by omega
  have hb7 : (0 : Int) ≤ (i : Int) := by omega
  have hb8 : (i : Int) ≤ (n : Int) := by omega
  have hb9 : (0 : Int) ≤ (n : Int) := by omega
  have hsga : w.shape? g = some (85, 2) := by have := hg; unfold Blk at this; simp [World.shape?, this, propCells]
  have hsgb : w.shape? b = some (85, cap * 2) := by have := hh; unfold Blk at this; simp [World.shape?, this, hsz]
  have hov : ∀ lb cb, (callFunc 121 #[.slice (some ⟨g, 0, none⟩) 1 1, .slice (some ⟨b, (i + 1) * 2, none⟩) lb cb]).run Try.prog w = .ok (.value (.bool false)) w := fun lb cb => by
    rw [run_callFunc_extern Try.func121 (by kernel_rfl) (by kernel_rfl) (by kernel_rfl) (e := Extern.SlicesOverlaps.overlaps #[34, 34] #[4]) (by kernel_rfl),
      Lib.run_overlaps_apart w 34 4 85 Try.underlying34 2 (fun w => by obtain ⟨i0, hi0, _, hs0, _⟩ := info_parts prop_info; simp [sizeOf, typeInfo, hi0, hs0]) ⟨g, 0, none⟩ ⟨b, (i + 1) * 2, none⟩ 1 1 lb cb hgb 85 85 2 (cap * 2) hsga hsgb (by omega) (hg.frozen 0) (hg.frozen 2)]
    rfl
  have HG := Lib.hid hg; have HH := Lib.hid hh; have HSZ := Lib.hid hsz; have HT := Lib.hid ht; have HDL := Lib.hid hdl; have HIL := Lib.hid hil
  have hsc : cur.toList.length = cap * 2 := by simpa using hsz
  have hsrc : ∀ j u, ((l.drop i).flatMap propCells)[j]? = some u → w.cell? ((⟨b, i * 2, none⟩ : Addr).add j) = some u := fun j u hu => by
    rw [← flat_drop propCells_len, List.getElem?_drop, ← ht, List.getElem?_take] at hu
    rw [add_some, hh.cell]
    split at hu
    · simpa using hu
    · cases hu
  have HSRC := Lib.hid hsrc
  have hfit : (i + 1) * 2 + (n - i) * 2 ≤ cap * 2 := by rw [← Nat.add_mul]; exact Nat.mul_le_mul_right _ (by omega)
  have hfit2 : i * 2 + 2 ≤ cap * 2 := by have : (i + 1) * 2 ≤ cap * 2 := Nat.mul_le_mul_right _ (by omega); omega
  have HMIN : Hid (n - i = Nat.min (n + 1 - i) (n + 1 - (i + 1))) := Lib.hid (by simp only [Nat.min_def]; split <;> omega)
  clear hg hh hsz ht hdl hil hne hsga hsgb hsrc
  go_enter Try.func89, Try.ntmps89
  go_wp2_with (simp only [hov])
  go_region_law (refine step_copyK rfl (.tmp 73) (.tmp 76) 34 34 rfl 85 Try.underlying34 2 (by kernel_rfl) (n - i) b ((i + 1) * 2) (n + 1 - (i + 1)) (cap - (i + 1)) ⟨b, i * 2, none⟩ (n + 1 - i) (cap - i) (by simp [Act.eval, Act.put]) (by simp [Act.eval, Act.put]) cur 85 HH.out.drew ((l.drop i).flatMap propCells) HMIN.out HDL.out HSRC.out (by rw [HDL.out, HSZ.out]; omega) (flat_one propCells_one _) ?_; intro w1 HX1 HG1)
  have HGV := Lib.hid (HG.out.drew.grown HG1.out (fun e => hgb (by injection e)))
  have HX1S : Hid ((lay cur ((i + 1) * 2) ((l.drop i).flatMap propCells)).size = cap * 2) := Lib.hid (by rw [lay_size (by rw [HDL.out, HSZ.out]; omega), HSZ.out])
  have HMIN2 : Hid (1 = Nat.min 1 (n + 1 - i)) := Lib.hid (by simp only [Nat.min_def]; split <;> omega)
  go_wp2_with (refine wpList_copyK _ rfl (.tmp 80) (.tmp 81) 34 34 rfl 85 Try.underlying34 2 (by kernel_rfl) 1 b (i * 2) (n + 1 - i) (cap - i) ⟨g, 0, none⟩ 1 1 rfl rfl (lay cur ((i + 1) * 2) ((l.drop i).flatMap propCells)) 85 HX1.out (propCells y) HMIN2.out rfl (fun j u hu => news_cells HGV.out j u (by simpa using hu)) (by rw [HX1S.out]; show i * 2 + 2 ≤ cap * 2; omega) (propCells_one y) ?_)
  intro w2 HX2 HG2
  have HEND : Hid (w2.ownsRow base 85 2 (.slice (some ⟨b, 0, none⟩) (n + 1) cap) (n + 1) ((insAt l i y).flatMap propCells)) := Lib.hid ⟨by rw [flat_length propCells_len, HIL.out], .inr ⟨b, cap, _, rfl, hbb, HX2.out, hroom, by unfold maxLen; omega, by rw [lay_size (by rw [HX1S.out]; show i * 2 + 2 ≤ cap * 2; omega), HX1S.out], by
    have h := HS.out
    rw [lay_list, lay_list]
    (try simp only [Nat.mul_one] at h ⊢)
    exact h⟩⟩
  have HGR := Lib.hid (grown_trans (grown_trans (grown_drew w _) HG1.out) HG2.out)
  go_wp2
  go_ret
  exact ⟨_, rfl, HEND.out, HGR.out, .inl rfl⟩

set_option maxRecDepth 100000 in
set_option maxHeartbeats 4000000 in
theorem insProp_grow (v : Value) (l : List AProp) (i : Nat) (y : AProp) (g : Nat) (w : World) (base : Nat) (hown : w.ownsRow base 85 2 v l.length (l.flatMap propCells)) (hg : Blk w g 85 (propCells y).toArray) (hne : v.ownBlock ≠ some g) (hlen : l.length ≤ 4398046511000) (hb : base ≤ w.heap.size) (hi : i < l.length) (b cap : Nat) (cur : Array Value) (hv : v = .slice (some ⟨b, 0, none⟩) l.length cap) (hh : Blk w b 85 cur) (hnc : l.length ≤ cap) (hroom : cap < l.length + 1) (ht : cur.toList.take (l.length * 2) = l.flatMap propCells) :
    Calls Try.prog 89 #[v, .int .i64 i, .slice (some ⟨g, 0, none⟩) 1 1] w fun e w' => ∃ v', e = .returned v' ∧ w'.ownsRow base 85 2 v' (l.length + 1) ((insAt l i y).flatMap propCells) ∧ w.grownBy w' v.ownBlock ∧ (v'.ownBlock = v.ownBlock ∨ ∃ b, v'.ownBlock = some b ∧ w.heap.size ≤ b) := by
  obtain ⟨n, hn⟩ : ∃ n, l.length = n := ⟨_, rfl⟩
  subst hv
  obtain rfl : cap = l.length := by omega
  have hbw := hh.lt
  have hgw := hg.lt
  have hdl : ((l.drop i).flatMap propCells).length = (n - i) * 2 := by rw [flat_length propCells_len, List.length_drop, hn]
  have hil : (insAt l i y).length = n + 1 := by rw [insAt_len (by omega), hn]
  have HTK : Hid (((l.take i).flatMap propCells).length = i * 2) := Lib.hid (by rw [flat_length propCells_len, List.length_take, Nat.min_eq_left (by omega)])
  have HGL : Hid (∀ (Z : List Value) (G : Nat), l.length + 1 ≤ G → Z.length = (G - i) * 2 → _) := Lib.hid (fun Z G h1 h2 => grow_list (size := 2) (f := propCells) propCells_len (l := l) (Z := Z) (i := i) (G := G) hi h1 h2 y (R := (l.take i).flatMap propCells ++ Z) rfl)
  rw [hn] at hi hlen ht HGL hroom ⊢
  obtain ⟨i0, hi0, hz0, hzs, hzb⟩ := info_parts prop_info
  have hik : i + (n + 1 - i) = n + 1 := by omega
  have hkk : (n : Int) + 1 - (i : Int) = ((n + 1 - i : Nat) : Int) := by omega
  have hsrcb : ∀ j u, (l.flatMap propCells)[j]? = some u → w.cell? ⟨b, j, none⟩ = some u := fun j u hu => by
    rw [← ht, List.getElem?_take] at hu
    rw [hh.cell]
    split at hu
    · simpa using hu
    · cases hu
  have hold : (Builtin.firstCells i0.size i (.slice (some ⟨b, 0, none⟩) i n)).run Try.prog w.drew = .ok ((l.take i).flatMap propCells).toArray w.drew := by
    rw [hzs]
    refine run_firstCells_some w.drew 2 i ⟨b, 0, none⟩ i n _ HTK.out (fun j u hj => ?_)
    rw [add_some, Nat.zero_add]
    rw [← flat_take propCells_len, List.getElem?_take] at hj
    by_cases hji : j < i * 2
    · rw [if_pos hji] at hj; exact hsrcb j u hj
    · rw [if_neg hji] at hj; cases hj
  have hrz : ∀ ty, (Builtin.append_ #[34, 3] ty #[.slice (some ⟨b, 0, none⟩) i n, .int .i64 ((n : Int) + 1 - (i : Int))]).run Try.prog w = .ok (.slice (some ⟨w.heap.size, 0, none⟩) (n + 1) (grownCap w (n + 1) n 85)) (w.drew.alloc (.cells (((l.take i).flatMap propCells).toArray ++ Builtin.zeroCells (Value.agg #[.string { data := #[] }, .string { data := #[] }]).cells (n + 1 - i) ++ Builtin.zeroCells (Value.agg #[.string { data := #[] }, .string { data := #[] }]).cells (grownCap w (n + 1) n 85 - (n + 1))) 85)) := fun ty => by
    have h := Lib.run_append_grow_zeros w 34 3 ty 85 i0 _ .i64 .i64 Try.underlying34 Try.underlying3 hi0 hz0 (some ⟨b, 0, none⟩) i n _ hold (n + 1 - i) (by omega) (by omega) (by omega) (by omega) (by rw [hzb]; omega) (by rw [hzb, hik]; exact growslice_fits hroom (by omega))
    rw [hik] at h
    rw [hkk]
    exact h
  obtain ⟨G, hG⟩ : ∃ G, grownCap w (n + 1) n 85 = G := ⟨_, rfl⟩
  have hGn : n + 1 ≤ G := by rw [← hG]; exact grownCap_ge w _ _ _
  have hG63 : G ≤ 9223372036854775807 := by
    have := grownCap_le_maxLen w (n + 1) n 85 (by unfold maxLen; omega)
    rw [hG] at this
    unfold maxLen at this
    omega
  simp only [hG] at hrz
  obtain ⟨ROW, hROW⟩ : ∃ ROW : Array Value, ((l.take i).flatMap propCells).toArray ++ Builtin.zeroCells (Value.agg #[.string { data := #[] }, .string { data := #[] }]).cells (n + 1 - i) ++ Builtin.zeroCells (Value.agg #[.string { data := #[] }, .string { data := #[] }]).cells (G - (n + 1)) = ROW := ⟨_, rfl⟩
  simp only [hROW] at hrz
  have HRL : Hid (ROW.toList = (l.take i).flatMap propCells ++ (Builtin.zeroCells (Value.agg #[.string { data := #[] }, .string { data := #[] }]).cells (n + 1 - i) ++ Builtin.zeroCells (Value.agg #[.string { data := #[] }, .string { data := #[] }]).cells (G - (n + 1))).toList) := Lib.hid (by rw [← hROW]; simp)
  have HZL : Hid ((Builtin.zeroCells (Value.agg #[.string { data := #[] }, .string { data := #[] }]).cells (n + 1 - i) ++ Builtin.zeroCells (Value.agg #[.string { data := #[] }, .string { data := #[] }]).cells (G - (n + 1))).toList.length = (G - i) * 2) := Lib.hid (by simp [Builtin.zeroCells, Value.cells]; omega)
  have HRS : Hid (ROW.size = G * 2) := Lib.hid (by
    have h : ROW.toList.length = i * 2 + (G - i) * 2 := by rw [HRL.out, List.length_append, HTK.out, HZL.out]
    have h2 : ROW.toList.length = ROW.size := rfl
    omega)
  have HRZ := Lib.hid hrz
  have HG := Lib.hid hg; have HH := Lib.hid hh; have HDL := Lib.hid hdl; have HIL := Lib.hid hil; have HSB := Lib.hid hsrcb
  have HMIN : Hid (n - i = Nat.min (n - i) (n + 1 - (i + 1))) := Lib.hid (by simp only [Nat.min_def]; split <;> omega)
  have HMIN2 : Hid (1 = Nat.min 1 (n + 1 - i)) := Lib.hid (by simp only [Nat.min_def]; split <;> omega)
  clear hg hh hdl hil hne hsrcb hrz hROW hG hold hi0 hz0 hzs hzb hkk hik ht hroom
  have hin : i ≤ n := by omega
  have hz1 : ¬ ((i : Int) = (n : Int)) := by omega
  have hz2 : (n : Int) < (n : Int) + 1 := by omega
  have hw1 : IntKind.i64.wrap ((n : Int) + 1) = (n : Int) + 1 := by rw [IntKind.wrap_i64]; omega
  have hw2 : IntKind.i64.wrap ((i : Int) + 1) = (i : Int) + 1 := by rw [IntKind.wrap_i64]; omega
  have hw3 : IntKind.i64.wrap ((n : Int) + 1 - (i : Int)) = (n : Int) + 1 - (i : Int) := by rw [IntKind.wrap_i64]; omega
  have hb1 : (0 : Int) ≤ (i : Int) + 1 := by omega
  have htn : ((i : Int) + 1).toNat = i + 1 := by omega
  have hb2 : ¬ (G = i + 1) := by omega
  have hb3 : (i : Int) ≤ (n : Int) + 1 := by omega
  have hb4 : ¬ (n = i) := by omega
  have hb5 : ¬ (G = i) := by omega
  have hb6 : (i : Int) + 1 ≤ (n : Int) + 1 := by omega
  have hb7 : (0 : Int) ≤ (i : Int) := by omega
  have hb8 : (i : Int) ≤ (n : Int) := by omega
  go_enter Try.func89, Try.ntmps89
  go_wp2_with (at_builtin; refine wpList_append_new _ rfl _ _ 34 3 rfl _ _ rfl rfl 85 ROW (HRZ.out _) ?_)
  intro w1 HX1 HB1
  have HGV := Lib.hid (HG.out.below HB1.out hgw)
  go_wp2_with (refine wpList_copyK _ rfl (.tmp 43) (.tmp 44) 34 34 rfl 85 Try.underlying34 2 (by kernel_rfl) 1 w.heap.size (i * 2) (n + 1 - i) (G - i) ⟨g, 0, none⟩ 1 1 rfl rfl ROW 85 HX1.out (propCells y) HMIN2.out rfl (fun j u hu => news_cells HGV.out j u (by simpa using hu)) (by rw [HRS.out]; show i * 2 + 2 ≤ G * 2; omega) (propCells_one y) ?_)
  intro w2 HX2 HG2
  have HX2S : Hid ((lay ROW (i * 2) (propCells y)).size = G * 2) := Lib.hid (by rw [lay_size (by rw [HRS.out]; show i * 2 + 2 ≤ G * 2; omega), HRS.out])
  have HSRC : Hid (∀ j u, ((l.drop i).flatMap propCells)[j]? = some u → w2.cell? ((⟨b, i * 2, none⟩ : Addr).add j) = some u) := Lib.hid (fun j u hu => by
    rw [← flat_drop propCells_len, List.getElem?_drop] at hu
    rw [add_some]
    have h1 : w2.cell? ⟨b, i * 2 + j, none⟩ = w1.cell? ⟨b, i * 2 + j, none⟩ := World.cell?_of_block (HG2.out.block b (Nat.lt_of_lt_of_le hbw HB1.out.size) (fun e => by injection e with e; omega))
    rw [h1, HB1.out.cell (p := ⟨b, _, none⟩) hbw]
    exact HSB.out _ u (by simpa using hu))
  go_wp2
  go_region_law (refine step_copyK rfl (.tmp 50) (.tmp 53) 34 34 rfl 85 Try.underlying34 2 (by kernel_rfl) (n - i) w.heap.size ((i + 1) * 2) (n + 1 - (i + 1)) (G - (i + 1)) ⟨b, i * 2, none⟩ (n - i) (n - i) (by simp [Act.eval, Act.put]) (by simp [Act.eval, Act.put]) (lay ROW (i * 2) (propCells y)) 85 HX2.out.drew ((l.drop i).flatMap propCells) HMIN.out HDL.out HSRC.out (by rw [HDL.out, HX2S.out]; omega) (flat_one propCells_one _) ?_; intro w3 HX3 HG3)
  have HEND : Hid (w3.ownsRow base 85 2 (.slice (some ⟨w.heap.size, 0, none⟩) (n + 1) G) (n + 1) ((insAt l i y).flatMap propCells)) := Lib.hid ⟨by rw [flat_length propCells_len, HIL.out], .inr ⟨w.heap.size, G, _, rfl, hb, HX3.out, hGn, by unfold maxLen; omega, by rw [lay_size (by rw [HDL.out, HX2S.out]; omega), HX2S.out], by
    have h := HGL.out _ G hGn HZL.out
    rw [← HRL.out] at h
    rw [lay_list, lay_list]
    (try simp only [Nat.mul_one] at h ⊢)
    exact h⟩⟩
  have HGR : Hid (w.grownBy w3 (some b)) := Lib.hid (by
    have g2 := HG2.out; have g3 := HG3.out; have b1 := HB1.out
    exact ⟨g3.os.trans (g2.os.trans b1.os), g3.tape.trans (g2.tape.trans b1.tape), g3.output.trans (g2.output.trans b1.output), Nat.le_trans b1.size (Nat.le_trans g2.size g3.size), fun q hq _ =>
      (g3.block q (by have := g2.size; have := b1.size; show q < w2.heap.size; omega) (fun e => by injection e with e; omega)).trans ((g2.block q (by have := b1.size; omega) (fun e => by injection e with e; omega)).trans (b1.block q hq))⟩)
  go_wp2
  go_ret
  exact ⟨_, rfl, HEND.out, HGR.out, .inr ⟨_, rfl, Nat.le_refl _⟩⟩

theorem insProp_any (v : Value) (l : List AProp) (i : Nat) (y : AProp) (g : Nat) (w : World) (base : Nat) (hown : w.ownsRow base 85 2 v l.length (l.flatMap propCells)) (hg : Blk w g 85 (propCells y).toArray) (hne : v.ownBlock ≠ some g) (hlen : l.length ≤ 4398046511000) (hb : base ≤ w.heap.size) (hi : i ≤ l.length) :
    Calls Try.prog 89 #[v, .int .i64 i, .slice (some ⟨g, 0, none⟩) 1 1] w fun e w' => ∃ v', e = .returned v' ∧ w'.ownsRow base 85 2 v' (l.length + 1) ((insAt l i y).flatMap propCells) ∧ w.grownBy w' v.ownBlock ∧ (v'.ownBlock = v.ownBlock ∨ ∃ b, v'.ownBlock = some b ∧ w.heap.size ≤ b) := by
  by_cases he : i = l.length
  · exact insProp_end v l i y g w base hown hg hne hlen hb he
  · rcases hown.2 with ⟨rfl, h0⟩ | ⟨b, cap, cur, hv, hbb, hh, hnc, hcm, hsz, ht⟩
    · omega
    · by_cases hroom : l.length + 1 ≤ cap
      · exact insProp_shift v l i y g w base hown hg hne hlen hb (by omega) b cap cur hv hh hroom (by unfold maxLen at hcm; omega) hsz ht hbb
      · exact insProp_grow v l i y g w base hown hg hne hlen hb (by omega) b cap cur hv hh hnc (by omega) ht

theorem insRef_ar (l : List ARef) (n c : Nat) (hn : l.length = n) (hc : c ≤ maxLen) : c ≤ 9223372036854775807 := by unfold maxLen at hc; omega
set_option maxRecDepth 100000 in
set_option maxHeartbeats 4000000 in
theorem insRef_end (v : Value) (l : List ARef) (i : Nat) (y : ARef) (g : Nat) (w : World) (base : Nat) (hown : w.ownsRow base 82 2 v l.length (l.flatMap refCells)) (hg : Blk w g 82 (refCells y).toArray) (hne : v.ownBlock ≠ some g) (hlen : l.length ≤ 5864062014700) (hb : base ≤ w.heap.size) (hi : i = l.length) :
    Calls Try.prog 94 #[v, .int .i64 i, .slice (some ⟨g, 0, none⟩) 1 1] w fun e w' => ∃ v', e = .returned v' ∧ w'.ownsRow base 82 2 v' (l.length + 1) ((insAt l i y).flatMap refCells) ∧ w.grownBy w' v.ownBlock ∧ (v'.ownBlock = v.ownBlock ∨ ∃ b, v'.ownBlock = some b ∧ w.heap.size ≤ b) := by
  subst hi
  obtain ⟨n, hn⟩ : ∃ n, l.length = n := ⟨_, rfl⟩
  have hcells : ∀ ad, (some ⟨g, 0, none⟩ : Option Addr) = some ad → ∀ j u, (refCells y)[j]? = some u → w.cell? (ad.add j) = some u := fun ad e j u hu => by cases e; exact news_cells hg j u (by simpa using hu)
  have H := Lib.hid hown
  have HIN : Hid ((insAt l n y).flatMap refCells = l.flatMap refCells ++ refCells y) := Lib.hid (by rw [← hn, insAt_end, List.flatMap_append]; simp)
  rw [hn] at hlen
  clear hne
  rcases hown.2 with ⟨rfl, h0⟩ | ⟨b, cap, cur, rfl, hbb, hh, hnc, hcm, hsz, ht⟩
  · rw [hn] at h0
    subst h0
    rw [hn] at H ⊢
    clear hown hn
    go_enter Try.func94, Try.ntmps94
    go_wp2_with (at_builtin; refine wpList_append_from w rfl (.tmp 23) (.tmp 24) 36 rfl base 82 Try.underlying36 ref_info rfl (by omega) (.slice none 0 0) 0 (l.flatMap refCells) rfl H.out (some ⟨g, 0, none⟩) 1 1 (refCells y) rfl rfl (by simp) hcells (refCells_one y) (by unfold maxLen; omega) (by omega) hb ?_)
    all_goals
      intro A' c' w' own hgr hat
      have HO := Lib.hid own; have HG := Lib.hid hgr
      have HA : Hid ((Value.slice A' (0 + 1) c').ownBlock = (Value.slice none 0 0).ownBlock ∨ ∃ b, (Value.slice A' (0 + 1) c').ownBlock = some b ∧ w.heap.size ≤ b) := Lib.hid (hat.imp id fun e => ⟨_, e, Nat.le_refl _⟩)
      clear own hgr hat
      go_wp2
      go_ret
      exact ⟨_, rfl, by rw [HIN.out]; exact HO.out, HG.out, HA.out⟩
  · have hcm' := insRef_ar l n cap hn hcm
    rw [hn] at hnc H ⊢
    clear hown hh hsz ht hcm
    have hn0 : (0 : Int) ≤ n := by omega
    have hnn : n ≤ n := Nat.le_refl _
    by_cases hcn : cap = n
    all_goals
      go_enter Try.func94, Try.ntmps94
      go_wp2_with (at_builtin; refine wpList_append_from w rfl (.tmp 23) (.tmp 24) 36 rfl base 82 Try.underlying36 ref_info rfl (by omega) (.slice (some ⟨b, 0, none⟩) n cap) n (l.flatMap refCells) rfl H.out (some ⟨g, 0, none⟩) 1 1 (refCells y) rfl rfl (by simp) hcells (refCells_one y) (by unfold maxLen; omega) (by omega) hb ?_)
      all_goals
        intro A' c' w' own hgr hat
        have HO := Lib.hid own; have HG := Lib.hid hgr
        have HA : Hid ((Value.slice A' (n + 1) c').ownBlock = (Value.slice (some ⟨b, 0, none⟩) n cap).ownBlock ∨ ∃ q, (Value.slice A' (n + 1) c').ownBlock = some q ∧ w.heap.size ≤ q) := Lib.hid (hat.imp id fun e => ⟨_, e, Nat.le_refl _⟩)
        clear own hgr hat
        go_wp2
        go_ret
        exact ⟨_, rfl, by rw [HIN.out]; exact HO.out, HG.out, HA.out⟩

set_option maxRecDepth 100000 in
set_option maxHeartbeats 4000000 in
theorem insRef_shift (v : Value) (l : List ARef) (i : Nat) (y : ARef) (g : Nat) (w : World) (base : Nat) (hown : w.ownsRow base 82 2 v l.length (l.flatMap refCells)) (hg : Blk w g 82 (refCells y).toArray) (hne : v.ownBlock ≠ some g) (hlen : l.length ≤ 5864062014700) (hb : base ≤ w.heap.size) (hi : i < l.length) (b cap : Nat) (cur : Array Value) (hv : v = .slice (some ⟨b, 0, none⟩) l.length cap) (hh : Blk w b 82 cur) (hroom : l.length + 1 ≤ cap) (hcm : cap ≤ 9223372036854775807) (hsz : cur.size = cap * 2) (ht : cur.toList.take (l.length * 2) = l.flatMap refCells) (hbb : base ≤ b) :
    Calls Try.prog 94 #[v, .int .i64 i, .slice (some ⟨g, 0, none⟩) 1 1] w fun e w' => ∃ v', e = .returned v' ∧ w'.ownsRow base 82 2 v' (l.length + 1) ((insAt l i y).flatMap refCells) ∧ w.grownBy w' v.ownBlock ∧ (v'.ownBlock = v.ownBlock ∨ ∃ b, v'.ownBlock = some b ∧ w.heap.size ≤ b) := by
  obtain ⟨n, hn⟩ : ∃ n, l.length = n := ⟨_, rfl⟩
  have hgb : g ≠ b := fun e => hne (by rw [hv, e]; rfl)
  subst hv
  have HS := Lib.hid (shift_list (size := 2) (f := refCells) refCells_len (C := cur.toList) (cap := cap) hi ht (by simpa using hsz) hroom y)
  have hdl : ((l.drop i).flatMap refCells).length = (n - i) * 2 := by rw [flat_length refCells_len, List.length_drop, hn]
  have hil : (insAt l i y).length = n + 1 := by rw [insAt_len (by omega), hn]
  rw [hn] at hi hroom hlen ht HS ⊢
  have hin : i ≤ n := by omega
  have hz1 : ¬ ((i : Int) = (n : Int)) := by omega
  have hz2 : ¬ ((n : Int) + 1 > (cap : Int)) := by omega
  have hw1 : IntKind.i64.wrap ((n : Int) + 1) = (n : Int) + 1 := by rw [IntKind.wrap_i64]; omega
  have hw2 : IntKind.i64.wrap ((i : Int) + 1) = (i : Int) + 1 := by rw [IntKind.wrap_i64]; omega
  have hb1 : (0 : Int) ≤ (i : Int) + 1 := by omega
  have hb1' : (0 : Int) ≤ (n : Int) + 1 := by omega
  have htn : ((i : Int) + 1).toNat = i + 1 := by omega
  have htn' : ((n : Int) + 1).toNat = n + 1 := by omega
  have hb2 : ¬ (cap = i + 1) := by omega
  have hb3 : (i : Int) ≤ (n : Int) + 1 := by omega
  have hb4 : ¬ (cap = i) := by omega
  have hb5 : (n : Int) + 1 ≤ (cap : Int) := by omega
  have hb6 : (i : Int) + 1 ≤ (n : Int) + 1 := by omega
  have hb7 : (0 : Int) ≤ (i : Int) := by omega
  have hb8 : (i : Int) ≤ (n : Int) := by omega
  have hb9 : (0 : Int) ≤ (n : Int) := by omega
  have hsga : w.shape? g = some (82, 2) := by have := hg; unfold Blk at this; simp [World.shape?, this, refCells]
  have hsgb : w.shape? b = some (82, cap * 2) := by have := hh; unfold Blk at this; simp [World.shape?, this, hsz]
  have hov : ∀ lb cb, (callFunc 124 #[.slice (some ⟨g, 0, none⟩) 1 1, .slice (some ⟨b, (i + 1) * 2, none⟩) lb cb]).run Try.prog w = .ok (.value (.bool false)) w := fun lb cb => by
    rw [run_callFunc_extern Try.func124 (by kernel_rfl) (by kernel_rfl) (by kernel_rfl) (e := Extern.SlicesOverlaps.overlaps #[36, 36] #[4]) (by kernel_rfl),
      Lib.run_overlaps_apart w 36 4 82 Try.underlying36 2 (fun w => by obtain ⟨i0, hi0, _, hs0, _⟩ := info_parts ref_info; simp [sizeOf, typeInfo, hi0, hs0]) ⟨g, 0, none⟩ ⟨b, (i + 1) * 2, none⟩ 1 1 lb cb hgb 82 82 2 (cap * 2) hsga hsgb (by omega) (hg.frozen 0) (hg.frozen 2)]
    rfl
  have HG := Lib.hid hg; have HH := Lib.hid hh; have HSZ := Lib.hid hsz; have HT := Lib.hid ht; have HDL := Lib.hid hdl; have HIL := Lib.hid hil
  have hsc : cur.toList.length = cap * 2 := by simpa using hsz
  have hsrc : ∀ j u, ((l.drop i).flatMap refCells)[j]? = some u → w.cell? ((⟨b, i * 2, none⟩ : Addr).add j) = some u := fun j u hu => by
    rw [← flat_drop refCells_len, List.getElem?_drop, ← ht, List.getElem?_take] at hu
    rw [add_some, hh.cell]
    split at hu
    · simpa using hu
    · cases hu
  have HSRC := Lib.hid hsrc
  have hfit : (i + 1) * 2 + (n - i) * 2 ≤ cap * 2 := by rw [← Nat.add_mul]; exact Nat.mul_le_mul_right _ (by omega)
  have hfit2 : i * 2 + 2 ≤ cap * 2 := by have : (i + 1) * 2 ≤ cap * 2 := Nat.mul_le_mul_right _ (by omega); omega
  have HMIN : Hid (n - i = Nat.min (n + 1 - i) (n + 1 - (i + 1))) := Lib.hid (by simp only [Nat.min_def]; split <;> omega)
  clear hg hh hsz ht hdl hil hne hsga hsgb hsrc
  go_enter Try.func94, Try.ntmps94
  go_wp2_with (simp only [hov])
  go_region_law (refine step_copyK rfl (.tmp 73) (.tmp 76) 36 36 rfl 82 Try.underlying36 2 (by kernel_rfl) (n - i) b ((i + 1) * 2) (n + 1 - (i + 1)) (cap - (i + 1)) ⟨b, i * 2, none⟩ (n + 1 - i) (cap - i) (by simp [Act.eval, Act.put]) (by simp [Act.eval, Act.put]) cur 82 HH.out.drew ((l.drop i).flatMap refCells) HMIN.out HDL.out HSRC.out (by rw [HDL.out, HSZ.out]; omega) (flat_one refCells_one _) ?_; intro w1 HX1 HG1)
  have HGV := Lib.hid (HG.out.drew.grown HG1.out (fun e => hgb (by injection e)))
  have HX1S : Hid ((lay cur ((i + 1) * 2) ((l.drop i).flatMap refCells)).size = cap * 2) := Lib.hid (by rw [lay_size (by rw [HDL.out, HSZ.out]; omega), HSZ.out])
  have HMIN2 : Hid (1 = Nat.min 1 (n + 1 - i)) := Lib.hid (by simp only [Nat.min_def]; split <;> omega)
  go_wp2_with (refine wpList_copyK _ rfl (.tmp 80) (.tmp 81) 36 36 rfl 82 Try.underlying36 2 (by kernel_rfl) 1 b (i * 2) (n + 1 - i) (cap - i) ⟨g, 0, none⟩ 1 1 rfl rfl (lay cur ((i + 1) * 2) ((l.drop i).flatMap refCells)) 82 HX1.out (refCells y) HMIN2.out rfl (fun j u hu => news_cells HGV.out j u (by simpa using hu)) (by rw [HX1S.out]; show i * 2 + 2 ≤ cap * 2; omega) (refCells_one y) ?_)
  intro w2 HX2 HG2
  have HEND : Hid (w2.ownsRow base 82 2 (.slice (some ⟨b, 0, none⟩) (n + 1) cap) (n + 1) ((insAt l i y).flatMap refCells)) := Lib.hid ⟨by rw [flat_length refCells_len, HIL.out], .inr ⟨b, cap, _, rfl, hbb, HX2.out, hroom, by unfold maxLen; omega, by rw [lay_size (by rw [HX1S.out]; show i * 2 + 2 ≤ cap * 2; omega), HX1S.out], by
    have h := HS.out
    rw [lay_list, lay_list]
    (try simp only [Nat.mul_one] at h ⊢)
    exact h⟩⟩
  have HGR := Lib.hid (grown_trans (grown_trans (grown_drew w _) HG1.out) HG2.out)
  go_wp2
  go_ret
  exact ⟨_, rfl, HEND.out, HGR.out, .inl rfl⟩

set_option maxRecDepth 100000 in
set_option maxHeartbeats 4000000 in
theorem insRef_grow (v : Value) (l : List ARef) (i : Nat) (y : ARef) (g : Nat) (w : World) (base : Nat) (hown : w.ownsRow base 82 2 v l.length (l.flatMap refCells)) (hg : Blk w g 82 (refCells y).toArray) (hne : v.ownBlock ≠ some g) (hlen : l.length ≤ 5864062014700) (hb : base ≤ w.heap.size) (hi : i < l.length) (b cap : Nat) (cur : Array Value) (hv : v = .slice (some ⟨b, 0, none⟩) l.length cap) (hh : Blk w b 82 cur) (hnc : l.length ≤ cap) (hroom : cap < l.length + 1) (ht : cur.toList.take (l.length * 2) = l.flatMap refCells) :
    Calls Try.prog 94 #[v, .int .i64 i, .slice (some ⟨g, 0, none⟩) 1 1] w fun e w' => ∃ v', e = .returned v' ∧ w'.ownsRow base 82 2 v' (l.length + 1) ((insAt l i y).flatMap refCells) ∧ w.grownBy w' v.ownBlock ∧ (v'.ownBlock = v.ownBlock ∨ ∃ b, v'.ownBlock = some b ∧ w.heap.size ≤ b) := by
  obtain ⟨n, hn⟩ : ∃ n, l.length = n := ⟨_, rfl⟩
  subst hv
  obtain rfl : cap = l.length := by omega
  have hbw := hh.lt
  have hgw := hg.lt
  have hdl : ((l.drop i).flatMap refCells).length = (n - i) * 2 := by rw [flat_length refCells_len, List.length_drop, hn]
  have hil : (insAt l i y).length = n + 1 := by rw [insAt_len (by omega), hn]
  have HTK : Hid (((l.take i).flatMap refCells).length = i * 2) := Lib.hid (by rw [flat_length refCells_len, List.length_take, Nat.min_eq_left (by omega)])
  have HGL : Hid (∀ (Z : List Value) (G : Nat), l.length + 1 ≤ G → Z.length = (G - i) * 2 → _) := Lib.hid (fun Z G h1 h2 => grow_list (size := 2) (f := refCells) refCells_len (l := l) (Z := Z) (i := i) (G := G) hi h1 h2 y (R := (l.take i).flatMap refCells ++ Z) rfl)
  rw [hn] at hi hlen ht HGL hroom ⊢
  obtain ⟨i0, hi0, hz0, hzs, hzb⟩ := info_parts ref_info
  have hik : i + (n + 1 - i) = n + 1 := by omega
  have hkk : (n : Int) + 1 - (i : Int) = ((n + 1 - i : Nat) : Int) := by omega
  have hsrcb : ∀ j u, (l.flatMap refCells)[j]? = some u → w.cell? ⟨b, j, none⟩ = some u := fun j u hu => by
    rw [← ht, List.getElem?_take] at hu
    rw [hh.cell]
    split at hu
    · simpa using hu
    · cases hu
  have hold : (Builtin.firstCells i0.size i (.slice (some ⟨b, 0, none⟩) i n)).run Try.prog w.drew = .ok ((l.take i).flatMap refCells).toArray w.drew := by
    rw [hzs]
    refine run_firstCells_some w.drew 2 i ⟨b, 0, none⟩ i n _ HTK.out (fun j u hj => ?_)
    rw [add_some, Nat.zero_add]
    rw [← flat_take refCells_len, List.getElem?_take] at hj
    by_cases hji : j < i * 2
    · rw [if_pos hji] at hj; exact hsrcb j u hj
    · rw [if_neg hji] at hj; cases hj
  have hrz : ∀ ty, (Builtin.append_ #[36, 3] ty #[.slice (some ⟨b, 0, none⟩) i n, .int .i64 ((n : Int) + 1 - (i : Int))]).run Try.prog w = .ok (.slice (some ⟨w.heap.size, 0, none⟩) (n + 1) (grownCap w (n + 1) n 82)) (w.drew.alloc (.cells (((l.take i).flatMap refCells).toArray ++ Builtin.zeroCells (Value.agg #[.string { data := #[] }, .int .i64 0]).cells (n + 1 - i) ++ Builtin.zeroCells (Value.agg #[.string { data := #[] }, .int .i64 0]).cells (grownCap w (n + 1) n 82 - (n + 1))) 82)) := fun ty => by
    have h := Lib.run_append_grow_zeros w 36 3 ty 82 i0 _ .i64 .i64 Try.underlying36 Try.underlying3 hi0 hz0 (some ⟨b, 0, none⟩) i n _ hold (n + 1 - i) (by omega) (by omega) (by omega) (by omega) (by rw [hzb]; omega) (by rw [hzb, hik]; exact growslice_fits hroom (by omega))
    rw [hik] at h
    rw [hkk]
    exact h
  obtain ⟨G, hG⟩ : ∃ G, grownCap w (n + 1) n 82 = G := ⟨_, rfl⟩
  have hGn : n + 1 ≤ G := by rw [← hG]; exact grownCap_ge w _ _ _
  have hG63 : G ≤ 9223372036854775807 := by
    have := grownCap_le_maxLen w (n + 1) n 82 (by unfold maxLen; omega)
    rw [hG] at this
    unfold maxLen at this
    omega
  simp only [hG] at hrz
  obtain ⟨ROW, hROW⟩ : ∃ ROW : Array Value, ((l.take i).flatMap refCells).toArray ++ Builtin.zeroCells (Value.agg #[.string { data := #[] }, .int .i64 0]).cells (n + 1 - i) ++ Builtin.zeroCells (Value.agg #[.string { data := #[] }, .int .i64 0]).cells (G - (n + 1)) = ROW := ⟨_, rfl⟩
  simp only [hROW] at hrz
  have HRL : Hid (ROW.toList = (l.take i).flatMap refCells ++ (Builtin.zeroCells (Value.agg #[.string { data := #[] }, .int .i64 0]).cells (n + 1 - i) ++ Builtin.zeroCells (Value.agg #[.string { data := #[] }, .int .i64 0]).cells (G - (n + 1))).toList) := Lib.hid (by rw [← hROW]; simp)
  have HZL : Hid ((Builtin.zeroCells (Value.agg #[.string { data := #[] }, .int .i64 0]).cells (n + 1 - i) ++ Builtin.zeroCells (Value.agg #[.string { data := #[] }, .int .i64 0]).cells (G - (n + 1))).toList.length = (G - i) * 2) := Lib.hid (by simp [Builtin.zeroCells, Value.cells]; omega)
  have HRS : Hid (ROW.size = G * 2) := Lib.hid (by
    have h : ROW.toList.length = i * 2 + (G - i) * 2 := by rw [HRL.out, List.length_append, HTK.out, HZL.out]
    have h2 : ROW.toList.length = ROW.size := rfl
    omega)
  have HRZ := Lib.hid hrz
  have HG := Lib.hid hg; have HH := Lib.hid hh; have HDL := Lib.hid hdl; have HIL := Lib.hid hil; have HSB := Lib.hid hsrcb
  have HMIN : Hid (n - i = Nat.min (n - i) (n + 1 - (i + 1))) := Lib.hid (by simp only [Nat.min_def]; split <;> omega)
  have HMIN2 : Hid (1 = Nat.min 1 (n + 1 - i)) := Lib.hid (by simp only [Nat.min_def]; split <;> omega)
  clear hg hh hdl hil hne hsrcb hrz hROW hG hold hi0 hz0 hzs hzb hkk hik ht hroom
  have hin : i ≤ n := by omega
  have hz1 : ¬ ((i : Int) = (n : Int)) := by omega
  have hz2 : (n : Int) < (n : Int) + 1 := by omega
  have hw1 : IntKind.i64.wrap ((n : Int) + 1) = (n : Int) + 1 := by rw [IntKind.wrap_i64]; omega
  have hw2 : IntKind.i64.wrap ((i : Int) + 1) = (i : Int) + 1 := by rw [IntKind.wrap_i64]; omega
  have hw3 : IntKind.i64.wrap ((n : Int) + 1 - (i : Int)) = (n : Int) + 1 - (i : Int) := by rw [IntKind.wrap_i64]; omega
  have hb1 : (0 : Int) ≤ (i : Int) + 1 := by omega
  have htn : ((i : Int) + 1).toNat = i + 1 := by omega
  have hb2 : ¬ (G = i + 1) := by omega
  have hb3 : (i : Int) ≤ (n : Int) + 1 := by omega
  have hb4 : ¬ (n = i) := by omega
  have hb5 : ¬ (G = i) := by omega
  have hb6 : (i : Int) + 1 ≤ (n : Int) + 1 := by omega
  have hb7 : (0 : Int) ≤ (i : Int) := by omega
  have hb8 : (i : Int) ≤ (n : Int) := by omega
  go_enter Try.func94, Try.ntmps94
  go_wp2_with (at_builtin; refine wpList_append_new _ rfl _ _ 36 3 rfl _ _ rfl rfl 82 ROW (HRZ.out _) ?_)
  intro w1 HX1 HB1
  have HGV := Lib.hid (HG.out.below HB1.out hgw)
  go_wp2_with (refine wpList_copyK _ rfl (.tmp 43) (.tmp 44) 36 36 rfl 82 Try.underlying36 2 (by kernel_rfl) 1 w.heap.size (i * 2) (n + 1 - i) (G - i) ⟨g, 0, none⟩ 1 1 rfl rfl ROW 82 HX1.out (refCells y) HMIN2.out rfl (fun j u hu => news_cells HGV.out j u (by simpa using hu)) (by rw [HRS.out]; show i * 2 + 2 ≤ G * 2; omega) (refCells_one y) ?_)
  intro w2 HX2 HG2
  have HX2S : Hid ((lay ROW (i * 2) (refCells y)).size = G * 2) := Lib.hid (by rw [lay_size (by rw [HRS.out]; show i * 2 + 2 ≤ G * 2; omega), HRS.out])
  have HSRC : Hid (∀ j u, ((l.drop i).flatMap refCells)[j]? = some u → w2.cell? ((⟨b, i * 2, none⟩ : Addr).add j) = some u) := Lib.hid (fun j u hu => by
    rw [← flat_drop refCells_len, List.getElem?_drop] at hu
    rw [add_some]
    have h1 : w2.cell? ⟨b, i * 2 + j, none⟩ = w1.cell? ⟨b, i * 2 + j, none⟩ := World.cell?_of_block (HG2.out.block b (Nat.lt_of_lt_of_le hbw HB1.out.size) (fun e => by injection e with e; omega))
    rw [h1, HB1.out.cell (p := ⟨b, _, none⟩) hbw]
    exact HSB.out _ u (by simpa using hu))
  go_wp2
  go_region_law (refine step_copyK rfl (.tmp 50) (.tmp 53) 36 36 rfl 82 Try.underlying36 2 (by kernel_rfl) (n - i) w.heap.size ((i + 1) * 2) (n + 1 - (i + 1)) (G - (i + 1)) ⟨b, i * 2, none⟩ (n - i) (n - i) (by simp [Act.eval, Act.put]) (by simp [Act.eval, Act.put]) (lay ROW (i * 2) (refCells y)) 82 HX2.out.drew ((l.drop i).flatMap refCells) HMIN.out HDL.out HSRC.out (by rw [HDL.out, HX2S.out]; omega) (flat_one refCells_one _) ?_; intro w3 HX3 HG3)
  have HEND : Hid (w3.ownsRow base 82 2 (.slice (some ⟨w.heap.size, 0, none⟩) (n + 1) G) (n + 1) ((insAt l i y).flatMap refCells)) := Lib.hid ⟨by rw [flat_length refCells_len, HIL.out], .inr ⟨w.heap.size, G, _, rfl, hb, HX3.out, hGn, by unfold maxLen; omega, by rw [lay_size (by rw [HDL.out, HX2S.out]; omega), HX2S.out], by
    have h := HGL.out _ G hGn HZL.out
    rw [← HRL.out] at h
    rw [lay_list, lay_list]
    (try simp only [Nat.mul_one] at h ⊢)
    exact h⟩⟩
  have HGR : Hid (w.grownBy w3 (some b)) := Lib.hid (by
    have g2 := HG2.out; have g3 := HG3.out; have b1 := HB1.out
    exact ⟨g3.os.trans (g2.os.trans b1.os), g3.tape.trans (g2.tape.trans b1.tape), g3.output.trans (g2.output.trans b1.output), Nat.le_trans b1.size (Nat.le_trans g2.size g3.size), fun q hq _ =>
      (g3.block q (by have := g2.size; have := b1.size; show q < w2.heap.size; omega) (fun e => by injection e with e; omega)).trans ((g2.block q (by have := b1.size; omega) (fun e => by injection e with e; omega)).trans (b1.block q hq))⟩)
  go_wp2
  go_ret
  exact ⟨_, rfl, HEND.out, HGR.out, .inr ⟨_, rfl, Nat.le_refl _⟩⟩

theorem insRef_any (v : Value) (l : List ARef) (i : Nat) (y : ARef) (g : Nat) (w : World) (base : Nat) (hown : w.ownsRow base 82 2 v l.length (l.flatMap refCells)) (hg : Blk w g 82 (refCells y).toArray) (hne : v.ownBlock ≠ some g) (hlen : l.length ≤ 5864062014700) (hb : base ≤ w.heap.size) (hi : i ≤ l.length) :
    Calls Try.prog 94 #[v, .int .i64 i, .slice (some ⟨g, 0, none⟩) 1 1] w fun e w' => ∃ v', e = .returned v' ∧ w'.ownsRow base 82 2 v' (l.length + 1) ((insAt l i y).flatMap refCells) ∧ w.grownBy w' v.ownBlock ∧ (v'.ownBlock = v.ownBlock ∨ ∃ b, v'.ownBlock = some b ∧ w.heap.size ≤ b) := by
  by_cases he : i = l.length
  · exact insRef_end v l i y g w base hown hg hne hlen hb he
  · rcases hown.2 with ⟨rfl, h0⟩ | ⟨b, cap, cur, hv, hbb, hh, hnc, hcm, hsz, ht⟩
    · omega
    · by_cases hroom : l.length + 1 ≤ cap
      · exact insRef_shift v l i y g w base hown hg hne hlen hb (by omega) b cap cur hv hh hroom (by unfold maxLen at hcm; omega) hsz ht hbb
      · exact insRef_grow v l i y g w base hown hg hne hlen hb (by omega) b cap cur hv hh hnc (by omega) ht
end Go.Proofs.Ytmafhaadcjgcbaa
end
section
namespace Go.Proofs.Ytmafhaadcjgcbaa
open Go Go.RowKit

set_option maxRecDepth 100000 in
set_option maxHeartbeats 4000000 in
theorem putA_any (A : Option Addr) (c : Nat) (m : AModel) (w : World) (F : Nat → Prop) (hF : ∀ b, F b → b < w.heap.size) (h : RowOf 7 ENode w F A m.nodes) (hz : ∀ x ∈ m.nodes, NodeOK x) (hz' : ∀ x ∈ m.nodes, LensOK x) (hl : m.nodes.length ≤ 9223372036854775807) (id : Int) (hid : InR id) (nm : ByteArray) (hns : nm.size ≤ 9223372036854775807) (val : ByteArray) (hvs : val.size ≤ 9223372036854775807) :
    Calls Try.prog 39 #[.agg #[.int .i64 m.next, .slice A m.nodes.length c], .int .i64 id, .string nm, .string val] w fun e w' => (∃ v, e = .returned v ∧ SetAs w' w.heap.size m id (setE m nm (4096 < val.size) (atI m.nodes id < 0)) (putN nm val) v) ∧ Below w.heap.size w w' := by
  obtain ⟨EE, hEE⟩ : ∃ EE, setE m nm (4096 < val.size) (atI m.nodes id < 0) = EE := ⟨_, rfl⟩
  rw [hEE]
  have HEE := Lib.hid hEE
  clear hEE
  have HBA : Hid (Below w.heap.size w ((w.alloc (.cells #[.int .i64 m.next, .slice A m.nodes.length c] 24)).alloc (.cells #[.int .i64 0, .slice none 0 0] 24))) := Lib.hid ((((Below.refl w.heap.size w).alloc (Nat.le_refl _) _).alloc (by simp) _))
  have HC := Lib.hid (check_any A c m _ F (fun b hb => Nat.lt_of_lt_of_le (hF b hb) HBA.out.size) (h.keep ENode.stays (Keep.below HBA.out hF) (fun _ h => h)) hz hl)
  have HM0 : Hid (Blk ((w.alloc (.cells #[.int .i64 m.next, .slice A m.nodes.length c] 24)).alloc (.cells #[.int .i64 0, .slice none 0 0] 24)) w.heap.size 24 #[.int .i64 m.next, .slice A m.nodes.length c]) := Lib.hid (((Blk.new w _ _).alloc _))
  have HR0 : Hid (Blk ((w.alloc (.cells #[.int .i64 m.next, .slice A m.nodes.length c] 24)).alloc (.cells #[.int .i64 0, .slice none 0 0] 24)) (w.heap.size + 1) 24 #[.int .i64 0, .slice none 0 0]) := Lib.hid (Blk.new' (by simp))
  have HH := Lib.hid h; have HZ := Lib.hid hz; have HZ' := Lib.hid hz'
  clear h hz hz'
  obtain ⟨u0, hu0⟩ : ∃ u : World, (w.alloc (.cells #[.int .i64 m.next, .slice A m.nodes.length c] 24)).alloc (.cells #[.int .i64 0, .slice none 0 0] 24) = u := ⟨_, rfl⟩
  rw [hu0] at HBA HC HM0 HR0
  have HU0 := Lib.hid hu0
  clear hu0
  have HB0 := HBA
  by_cases hc : CheckM m
  · have HC2 := Lib.hid (int_is (checkI_yes hc) HC.out)
    have HCM := Lib.hid hc
    have HS := Lib.hid hc.1.srtB
    have hl4 : m.nodes.length ≤ 4096 := hc.1.1.2.2
    have hnx : 1 ≤ m.next ∧ m.next ≤ 1048577 := ⟨hc.1.1.1, hc.1.1.2.1⟩
    clear hc HC
    rcases hwc : wordA nm with _ | _
    · have E := Lib.hid (show EE = 2 from HEE.out.symm.trans (setE_word HCM.out hwc))
      have HW := Lib.hid hwc
      clear hwc
      go_enter Try.func39, Try.ntmps39
      go_wp2_with fail
      (try rw [HU0.out])
      refine (HC2.out).mono ?_
      rintro _ u1 ⟨rfl, hb⟩
      have HB1 := Lib.hid (HB0.out.trans (hb.mono HB0.out.size))
      have HM1 := Lib.hid (HM0.out.below hb HM0.out.lt)
      have HR1 := Lib.hid (HR0.out.below hb HR0.out.lt)
      clear hb
      go_wp2_with fail
      refine (aword_is hns HW.out u1).mono ?_
      rintro _ u2 ⟨rfl, hb⟩
      have HB2 := Lib.hid (HB1.out.trans (hb.mono HB1.out.size))
      have HM2 := Lib.hid (HM1.out.below hb HM1.out.lt)
      have HR2 := Lib.hid (HR1.out.below hb HR1.out.lt)
      clear hb
      have t0 := HR2.out.frozen 0; have t1 := HR2.out.frozen 1
      have r0 := HR2.out.cell 0; have r1 := HR2.out.cell 1
      have hrlt := HR2.out.lt
      simp at r0 r1
      go_wp2_with fail
      have hyS := (HR2.out.set_ 0 (.int .i64 0)).set_ 1 (.slice none 0 0)
      have f0 := hyS.cell 0; have f1 := hyS.cell 1
      simp at f0 f1
      have HBW := Lib.hid ((HB2.out.setCell (p := ⟨w.heap.size + 1, 0, none⟩) (by show w.heap.size ≤ w.heap.size + 1; omega) (.int .i64 0)).setCell (p := ⟨w.heap.size + 1, 1, none⟩) (by show w.heap.size ≤ w.heap.size + 1; omega) (.slice none 0 0))
      exact bodyPost_ret (v := .tuple #[.agg #[.int .i64 0, .slice none 0 0], .int .i64 (2)]) (by simp [results, Try.results39, go_sem, f0, f1]) rfl ⟨⟨_, rfl, Or.inl ⟨by rw [E.out]; decide, by rw [E.out]⟩⟩, HBW.out⟩
    · have HW := Lib.hid hwc
      clear hwc
      by_cases hlg : 4096 < val.size
      · have E := Lib.hid (show EE = 3 from HEE.out.symm.trans (setE_long HCM.out HW.out hlg))
        have g3 : decide ((4096 : Int) < (val.size : Int)) = true := decide_eq_true (by omega)
        clear hlg
        go_enter Try.func39, Try.ntmps39
        go_wp2_with fail
        (try rw [HU0.out])
        refine (HC2.out).mono ?_
        rintro _ u1 ⟨rfl, hb⟩
        have HB1 := Lib.hid (HB0.out.trans (hb.mono HB0.out.size))
        have HM1 := Lib.hid (HM0.out.below hb HM0.out.lt)
        have HR1 := Lib.hid (HR0.out.below hb HR0.out.lt)
        clear hb
        go_wp2_with fail
        refine (aword_is hns HW.out u1).mono ?_
        rintro _ u2 ⟨rfl, hb⟩
        have HB2 := Lib.hid (HB1.out.trans (hb.mono HB1.out.size))
        have HM2 := Lib.hid (HM1.out.below hb HM1.out.lt)
        have HR2 := Lib.hid (HR1.out.below hb HR1.out.lt)
        clear hb
        have t0 := HR2.out.frozen 0; have t1 := HR2.out.frozen 1
        have r0 := HR2.out.cell 0; have r1 := HR2.out.cell 1
        have hrlt := HR2.out.lt
        simp at r0 r1
        go_wp2_with fail
        have hyS := (HR2.out.set_ 0 (.int .i64 0)).set_ 1 (.slice none 0 0)
        have f0 := hyS.cell 0; have f1 := hyS.cell 1
        simp at f0 f1
        have HBW := Lib.hid ((HB2.out.setCell (p := ⟨w.heap.size + 1, 0, none⟩) (by show w.heap.size ≤ w.heap.size + 1; omega) (.int .i64 0)).setCell (p := ⟨w.heap.size + 1, 1, none⟩) (by show w.heap.size ≤ w.heap.size + 1; omega) (.slice none 0 0))
        exact bodyPost_ret (v := .tuple #[.agg #[.int .i64 0, .slice none 0 0], .int .i64 (3)]) (by simp [results, Try.results39, go_sem, f0, f1]) rfl ⟨⟨_, rfl, Or.inl ⟨by rw [E.out]; decide, by rw [E.out]⟩⟩, HBW.out⟩
      · have g3 : decide ((4096 : Int) < (val.size : Int)) = false := decide_eq_false (by omega)
        rcases atI_cases m.nodes id with ⟨j, hj, hj1, hj2⟩ | ⟨hj1, hj2⟩
        · have HAT := Lib.hid hj2
          have g4 : decide ((j : Int) < 0) = false := decide_eq_false (by omega)
          have E := Lib.hid (show EE = 0 from HEE.out.symm.trans (setE_ok HCM.out HW.out hlg (by rw [hj2]; omega)))
          clear hj2
          go_enter Try.func39, Try.ntmps39
          go_wp2_with fail
          (try rw [HU0.out])
          refine (HC2.out).mono ?_
          rintro _ u1 ⟨rfl, hb⟩
          have HB1 := Lib.hid (HB0.out.trans (hb.mono HB0.out.size))
          have HM1 := Lib.hid (HM0.out.below hb HM0.out.lt)
          have HR1 := Lib.hid (HR0.out.below hb HR0.out.lt)
          clear hb
          go_wp2_with fail
          refine (aword_is hns HW.out u1).mono ?_
          rintro _ u2 ⟨rfl, hb⟩
          have HB2 := Lib.hid (HB1.out.trans (hb.mono HB1.out.size))
          have HM2 := Lib.hid (HM1.out.below hb HM1.out.lt)
          have HR2 := Lib.hid (HR1.out.below hb HR1.out.lt)
          clear hb
          have m0 := HM2.out.cell 0; have m1 := HM2.out.cell 1
          have hmlt := HM2.out.lt
          simp at m0 m1
          go_wp2_with fail
          refine (int_is HAT.out (place_any A c m.next id m.nodes u2 F (fun b hb => Nat.lt_of_lt_of_le (hF b hb) HB2.out.size) (HH.out.keep ENode.stays (Keep.below HB2.out hF) (fun _ h => h)) HS.out hid (by omega))).mono ?_
          rintro _ u3 ⟨rfl, hb⟩
          have HB3 := Lib.hid (HB2.out.trans (hb.mono HB2.out.size))
          have HM3 := Lib.hid (HM2.out.below hb HM2.out.lt)
          have HR3 := Lib.hid (HR2.out.below hb HR2.out.lt)
          clear hb
          clear m0 m1 hmlt
          have m0 := HM3.out.cell 0; have m1 := HM3.out.cell 1
          have hmlt := HM3.out.lt
          simp at m0 m1
          go_wp2_with fail
          refine (twinA_any A c m u3 F (fun b hb => Nat.lt_of_lt_of_le (hF b hb) HB3.out.size) (HH.out.keep ENode.stays (Keep.below HB3.out hF) (fun _ h => h)) HZ'.out (by omega)).mono ?_
          rintro _ u4 ⟨vt, rfl, l, hown, hlm, hb⟩
          have HB4 := Lib.hid (HB3.out.trans (hb.mono HB3.out.size))
          have HM4 := Lib.hid (HM3.out.below hb HM3.out.lt)
          have HR4 := Lib.hid (HR3.out.below hb HR3.out.lt)
          have HSZ := Lib.hid HB3.out.size
          have hll : l.length = m.nodes.length := by rw [← hlm]; simp
          have hjl : j < l.length := by omega
          obtain ⟨g, cv, rfl, hnc, hcm, hgb, hgw⟩ := own_some hown.row (by omega)
          obtain ⟨Y, hY⟩ : ∃ Y, l[j] = Y := ⟨_, rfl⟩
          have hYn : m.nodes[j] = Y.n := by
            have h1 : (l.map LN.n)[j]? = some Y.n := by rw [List.getElem?_map, List.getElem?_eq_getElem hjl, hY]; rfl
            rw [hlm, List.getElem?_eq_getElem hj] at h1
            injection h1
          rw [hll] at hown hnc ⊢
          have HO := Lib.hid hown; have HLM := Lib.hid hlm
          have HY := Lib.hid (show ∃ h : j < l.length, l[j]'h = Y from ⟨hjl, hY⟩)
          have HYN := Lib.hid (show ∃ h : j < m.nodes.length, m.nodes[j]'h = Y.n from ⟨hj, hYn⟩)
          have HJ1 := Lib.hid (show ∃ h : j < m.nodes.length, (m.nodes[j]'h).id = id from ⟨hj, hj1⟩)
          have HSN : Hid (SrtN AProp.name Y.n.props) := Lib.hid (by rw [← hYn]; exact props_srt (HCM.out.2.1 _ (List.getElem_mem hj)).2.2.2.2.1)
          have hLN : Y.n.props.length ≤ 4398046510976 := by
            have := HZ'.out m.nodes[j] (List.getElem_mem hj)
            rw [hYn] at this
            unfold LensOK at this
            omega
          have HRS : Hid (w.heap.size + 1 < u3.heap.size) := Lib.hid HR3.out.lt
          clear hb hown hlm hll hjl hY hYn hj1 m0 m1 hmlt
          have m0 := HM4.out.cell 0; have m1 := HM4.out.cell 1
          have hmlt := HM4.out.lt
          simp at m0 m1
          go_upto_region 10 with fail
          obtain ⟨p, hp⟩ : ∃ p, u4.heap.size = p := ⟨_, rfl⟩
          obtain ⟨x1, hx1⟩ : ∃ z : World, u4.alloc (.cells #[.int .i64 m.next, .slice (some ⟨g, 0, none⟩) m.nodes.length cv] 24) = z := ⟨_, rfl⟩
          have HX : Hid (Below u4.heap.size u4 x1) := Lib.hid (by rw [← hx1]; exact (Below.refl _ _).alloc (Nat.le_refl _) _)
          have HP1 : Hid (Blk x1 p 24 #[.int .i64 m.next, .slice (some ⟨g, 0, none⟩) m.nodes.length cv]) := Lib.hid (by rw [← hx1, ← hp]; exact Blk.new _ _ _)
          have HO1 := Lib.hid (HO.out.below HX.out)
          have HB1x := Lib.hid (HB4.out.trans (HX.out.mono HB4.out.size))
          have HR1x := Lib.hid (HR4.out.below HX.out HR4.out.lt)
          have HYB : Hid (∀ b, some b ∈ Y.blocks → u3.heap.size ≤ b ∧ b < p) := Lib.hid (fun b hb => by
            rw [← hp]
            obtain ⟨h1, h2⟩ := HY.out
            exact (HO.out.lists Y (by rw [← h2]; exact List.getElem_mem h1)).lt b hb)
          have hgp : g < p := by omega
          have hpw : w.heap.size + 1 < p := by have := HRS.out; omega
          (try rw [hx1])
          (try rw [hp])
          clear hx1 hp m0 m1 hmlt HO HX hgw
          have p0 := HP1.out.cell 0; have p1 := HP1.out.cell 1
          have hplt := HP1.out.lt
          simp at p0 p1
          have hj0 : (0 : Int) ≤ j := by omega
          have hj1 : (j : Int) < m.nodes.length := by omega
          have CP := Lib.hid (fun (d : Nat) (os : Array Obj) => Calls.regrown_of (w := x1) (d := d) (os := os) (by
            have ho := HO1.out.below (below_regrown x1 d os)
            have := place_any (some ⟨g, 0, none⟩) cv m.next id m.nodes (Sort.grow (redrawn x1 d) os) (fun b => u3.heap.size ≤ b ∧ b < (Sort.grow (redrawn x1 d) os).heap.size) (fun b hb => hb.2) (by rw [← HLM.out]; exact ho.rowOf (fun b h1 h2 => ⟨h1, h2⟩)) HS.out hid (by omega)
            rw [HAT.out] at this; exact this))
          have k0 := cell_regrown p0; have k1 := cell_regrown p1
          clear p0 p1
          refine wp_region_quiet_below (by kernel_rfl) (by kernel_rfl) ?_
          repeat (first | go_big_quiet_step (exact CP.out _ _) | quiet_step (exact CP.out _ _))
          refine wpQuiet_nil ?_
          intro _ hw'
          obtain ⟨⟨dq, osq⟩, hw''⟩ := hw'
          subst hw''
          have hbr := below_regrown x1 dq osq
          have HB2 := Lib.hid (HB1x.out.trans (hbr.mono HB1x.out.size))
          have HP2 := Lib.hid (HP1.out.below hbr hplt)
          have HR2 := Lib.hid (HR1x.out.below hbr HR1x.out.lt)
          have HO2 := Lib.hid (HO1.out.below hbr)
          have hbx2 : p < (Sort.grow (redrawn x1 dq) osq).heap.size := Nat.lt_of_lt_of_le hplt hbr.size
          clear k0 k1 CP hbr
          obtain ⟨x2, hu⟩ : ∃ z : World, Sort.grow (redrawn x1 dq) osq = z := ⟨_, rfl⟩
          rw [hu] at HB2 HP2 HR2 HO2 hbx2 ⊢
          clear hu hplt HO1 HP1 HB1x HR1x
          have hgx2 : g < x2.heap.size := by omega
          obtain ⟨hjl, hY⟩ := HY.out
          have hYm : Y ∈ l := by rw [← hY]; exact List.getElem_mem hjl
          have c4 := HO2.out.cell (i := j) (j := 4) hjl (by omega)
          rw [hY] at c4
          simp [LN.cells, nodeCellsA] at c4
          have z4 := HO2.out.frozen (j * 7 + 4)
          have hOL := (HO2.out.lists Y hYm).p
          obtain ⟨Ap, cp, hAp⟩ := own_shape hOL
          have HPR := Lib.hid (IsRow.of_own (F := fun b => b < x2.heap.size) propCells_len hOL (own_at hOL (fun b _ h => h)))
          have HOL := Lib.hid hOL
          have HAP := Lib.hid hAp
          have HYS : Hid (∀ b, Y.p.ownBlock = some b → u3.heap.size ≤ b ∧ b < p) := Lib.hid (fun b hb => HYB.out b (by simp [LN.blocks, hb]))
          have HGY : Hid (Y.p.ownBlock ≠ some g) := Lib.hid (fun e => HO2.out.row_ne hYm (b := g) (by rw [← e]; simp [LN.blocks]) rfl)
          rw [hAp] at c4
          clear hY hYm hOL hAp
          have HSK := Lib.hid (seekProp_any Ap cp nm Y.n.props x2 (fun b => b < x2.heap.size) (fun b h => h) (by
            obtain ⟨A', c', e, _, _, h3⟩ := HPR.out
            rw [HAP.out] at e
            injection e with e1
            subst e1
            exact h3) HSN.out (by omega))
          go_wp2_with fail
          refine HSK.out.mono ?_
          rintro _ x3 ⟨k, b, rfl, hcut, hiff, hb⟩
          have HCUT := Lib.hid hcut; have HIFF := Lib.hid hiff
          have hkl := hcut.1
          have HB3 := Lib.hid (HB2.out.trans (hb.mono HB2.out.size))
          have HP3 := Lib.hid (HP2.out.below hb hbx2)
          have HR3 := Lib.hid (HR2.out.below hb HR2.out.lt)
          have HO3 := Lib.hid (HO2.out.below hb)
          have hgx3 : g < x3.heap.size := Nat.lt_of_lt_of_le hgx2 hb.size
          have hpx3 : p < x3.heap.size := Nat.lt_of_lt_of_le hbx2 hb.size
          have HOL3 := Lib.hid (own_keep HOL.out fun b e => hb.block b (HOL.out.lt b e).2)
          clear HSK hcut hiff hb c4 z4 HB2 HP2 HR2 HO2 HPR
          obtain ⟨hjl, hY⟩ := HY.out
          have hYm : Y ∈ l := by rw [← hY]; exact List.getElem_mem hjl
          have c4 := HO3.out.cell (i := j) (j := 4) hjl (by omega)
          rw [hY] at c4
          simp [LN.cells, nodeCellsA] at c4
          rw [HAP.out] at c4
          have z4 := HO3.out.frozen (j * 7 + 4)
          have k0 : (0 : Int) ≤ k := by omega
          clear hY hYm
          cases b
          · have HN : Hid (¬ ∃ h : k < Y.n.props.length, (Y.n.props[k]'h).name = nm) := Lib.hid (fun e => by have := HIFF.out.2 e; cases this)
            obtain ⟨q, hq⟩ : ∃ q, x3.heap.size = q := ⟨_, rfl⟩
            have HB4 := Lib.hid (HB3.out.alloc HB3.out.size (.cells #[.string nm, .string ⟨#[]⟩] 85))
            have HQ4 : Hid (Blk (x3.alloc (.cells #[.string nm, .string ⟨#[]⟩] 85)) q 85 (propCells (⟨nm, ⟨#[]⟩⟩ : AProp)).toArray) := Lib.hid (by rw [← hq]; exact Blk.new _ _ _)
            have HP4 := Lib.hid (HP3.out.alloc (.cells #[.string nm, .string ⟨#[]⟩] 85))
            have HR4 := Lib.hid (HR3.out.alloc (.cells #[.string nm, .string ⟨#[]⟩] 85))
            have HO4 := Lib.hid (HO3.out.below ((Below.refl x3.heap.size x3).alloc (Nat.le_refl _) (.cells #[.string nm, .string ⟨#[]⟩] 85)))
            have HOL4 := Lib.hid (own_keep (w' := x3.alloc (.cells #[.string nm, .string ⟨#[]⟩] 85)) HOL3.out fun b e => heap_alloc_old x3 _ (HOL3.out.lt b e).2)
            have hqp : p < q := by omega
            go_wp2_with fail
            (try rw [hq])
            obtain ⟨x4, hx4⟩ : ∃ z : World, x3.alloc (.cells #[.string nm, .string ⟨#[]⟩] 85) = z := ⟨_, rfl⟩
            have hgx4 : g < x4.heap.size := by rw [← hx4]; simp; omega
            have hux4 : u3.heap.size ≤ x4.heap.size := by omega
            rw [hx4] at HB4 HQ4 HP4 HR4 HO4 HOL4 ⊢
            clear hx4 hq c4 z4 HB3 HP3 HR3 HO3 HOL3
            refine (insProp_any (.slice Ap Y.n.props.length cp) Y.n.props k ⟨nm, ⟨#[]⟩⟩ q x4 u3.heap.size (by rw [← HAP.out]; exact HOL4.out) HQ4.out (by rw [← HAP.out]; intro e; have := HYS.out _ e; omega) (by omega) hux4 hkl).mono ?_
            rintro _ x5 ⟨v', rfl, hown5, hg5, hat5⟩
            rw [← HAP.out] at hg5 hat5
            have hil : (insAt Y.n.props k ⟨nm, ⟨#[]⟩⟩).length = Y.n.props.length + 1 := insAt_len hkl _
            have hgg : x5.heap[g]? = x4.heap[g]? := hg5.block g hgx4 (fun e => HGY.out e.symm)
            obtain ⟨hjl, hY⟩ := HY.out
            have c4 : x5.cell? ⟨g, j * 7 + 4, none⟩ = some Y.p := by
              have h := HO4.out.cell (i := j) (j := 4) hjl (by omega)
              rw [hY] at h
              rw [World.cell?_of_block (w := x4) (a := ⟨g, j * 7 + 4, none⟩) hgg, h]
              simp [LN.cells, nodeCellsA]
            have z4 : x5.frozen? ⟨g, j * 7 + 4, none⟩ = false := by
              rw [World.frozen?_of_block (w := x4) (a := ⟨g, j * 7 + 4, none⟩) hgg]; exact HO4.out.frozen _
            have HB5 : Hid (Below w.heap.size w x5) := Lib.hid (HB4.out.grown hg5 (by have := HB4.out.size; omega) (fun b e => by have := HYS.out b e; have := HSZ.out; omega))
            have HP5 := Lib.hid (HP4.out.grown hg5 (fun e => by have := HYS.out _ e.symm; omega))
            have HR5 := Lib.hid (HR4.out.grown hg5 (fun e => by have := HYS.out _ e.symm; have := HRS.out; omega))
            have hown6 : x5.ownsRow u3.heap.size 85 2 v' (insAt Y.n.props k ⟨nm, ⟨#[]⟩⟩).length ((insAt Y.n.props k ⟨nm, ⟨#[]⟩⟩).flatMap propCells) := by rw [hil]; exact hown5
            have HOLN := Lib.hid hown6
            have HO6 := Lib.hid (HO4.out.setProps hjl hY (insAt Y.n.props k ⟨nm, ⟨#[]⟩⟩) v' hg5 (hat5.imp (fun h => h) .inr) hown6)
            have HB6 := Lib.hid (HB5.out.setCell (p := ⟨g, j * 7 + 4, none⟩) (by have := HSZ.out; show w.heap.size ≤ g; omega) v')
            have HP6 := Lib.hid (HP5.out.far (p := ⟨g, j * 7 + 4, none⟩) (by show p ≠ g; omega) v')
            have HR6 := Lib.hid (HR5.out.far (p := ⟨g, j * 7 + 4, none⟩) (by have := HRS.out; show w.heap.size + 1 ≠ g; omega) v')
            obtain ⟨b1, c1, hv', _, _, hb1, hb1w⟩ := own_some hown5 (by omega)
            have HIL := Lib.hid hil
            have HV : Hid (b1 ≠ p ∧ b1 ≠ w.heap.size + 1 ∧ w.heap.size ≤ b1) := Lib.hid (by
              have h1 := HRS.out; have h2 := HSZ.out
              have hlt4 := HP4.out.lt
              refine ⟨fun e => ?_, by omega, by omega⟩
              rcases hat5 with e2 | ⟨b2, e2, hb2⟩
              · have := HYS.out b1 (by rw [← e2, hv']; rfl); omega
              · rw [hv'] at e2
                have hbb : b1 = b2 := by injection e2
                omega)
            subst hv'
            have hgx5 : g < x5.heap.size := by have := hg5.size; omega
            clear hgg hY hown5 hown6 hg5 hat5 hil
            have HWE : Hid (∃ z, z = x5.setCell ⟨g, j * 7 + 4, none⟩ (.slice (some ⟨b1, 0, none⟩) (Y.n.props.length + 1) c1)) := Lib.hid ⟨_, rfl⟩
            go_upto_region 14 with fail
            obtain ⟨x6, hx6⟩ := HWE.out
            rw [← hx6] at HO6 HB6 HP6 HR6
            (try rw [← hx6])
            have hgx6 : g < x6.heap.size := by rw [hx6]; simpa using hgx5
            have hb16 : b1 < x6.heap.size := by rw [hx6]; simpa using hb1w
            clear hx6 HWE c4 z4 HOLN HB4 HP4 HR4 HO4 HOL4
            obtain ⟨Y2, hY2⟩ : ∃ Y2 : LN, Y2 = ⟨{ Y.n with props := insAt Y.n.props k ⟨nm, ⟨#[]⟩⟩ }, .slice (some ⟨b1, 0, none⟩) (Y.n.props.length + 1) c1, Y.k, Y.r⟩ := ⟨_, rfl⟩
            rw [← hY2] at HO6
            have hjl2 : j < (l.set j Y2).length := by simpa using hjl
            have hYY : (l.set j Y2)[j] = Y2 := List.getElem_set_self _
            have hm2 : Y2 ∈ l.set j Y2 := List.mem_iff_getElem.2 ⟨j, hjl2, hYY⟩
            have hY2n : Y2.n.props = insAt Y.n.props k ⟨nm, ⟨#[]⟩⟩ := by rw [hY2]
            have hY2p : Y2.p = .slice (some ⟨b1, 0, none⟩) Y2.n.props.length c1 := by rw [hY2n, HIL.out, hY2]
            have c4 := HO6.out.cell (i := j) (j := 4) hjl2 (by omega)
            rw [hYY] at c4
            simp [LN.cells, nodeCellsA] at c4
            rw [hY2p, hY2n, HIL.out] at c4
            have hol := (HO6.out.lists Y2 hm2).p
            rw [hY2p, hY2n, HIL.out] at hol
            have hk1 : k < (insAt Y.n.props k ⟨nm, ⟨#[]⟩⟩).length := by rw [HIL.out]; omega
            have hk2 : (k : Int) < (Y.n.props.length : Int) + 1 := by omega
            have hk3 : k < Y.n.props.length + 1 := by omega
            have hat : (insAt Y.n.props k ⟨nm, ⟨#[]⟩⟩)[k] = ⟨nm, ⟨#[]⟩⟩ := insAt_at hkl _
            have d1 := own_cell hol (k * 2 + 1) (by omega)
            rw [flat_at propCells_len _ k 1 hk1 (by omega), hat] at d1
            simp [propCells] at d1
            have z1 := own_frozen hol (k * 2 + 1)
            have HO7 := Lib.hid (HO6.out.setInProps hjl2 hYY hY2p (k := k) (by rw [hY2n]; exact hk1) (r := 1) (by omega) (.string val) ⟨nm, val⟩ (by
              have : Y2.n.props[k]'(by rw [hY2n]; exact hk1) = ⟨nm, ⟨#[]⟩⟩ := by simp only [hY2n]; exact hat
              rw [this]; rfl))
            have HB7 := Lib.hid (HB6.out.setCell (p := ⟨b1, k * 2 + 1, none⟩) HV.out.2.2 (.string val))
            have HP7 := Lib.hid (HP6.out.far (p := ⟨b1, k * 2 + 1, none⟩) (Ne.symm HV.out.1) (.string val))
            have HR7 := Lib.hid (HR6.out.far (p := ⟨b1, k * 2 + 1, none⟩) (Ne.symm HV.out.2.1) (.string val))
            have HM7 : Hid (((l.set j Y2).set j ⟨{ Y2.n with props := Y2.n.props.set k ⟨nm, val⟩ }, Y2.p, Y2.k, Y2.r⟩).map LN.n = m.nodes.set j ((putN nm val) m.nodes[j])) := Lib.hid (by
              rw [List.set_set, List.map_set, HLM.out, HYN.out.2, hY2n, insAt_set hkl, setK_ins HSN.out HCUT.out HN.out, hY2]; rfl)
            have HWE : Hid (∃ z, z = x6.setCell ⟨b1, k * 2 + 1, none⟩ (.string val)) := Lib.hid ⟨_, rfl⟩
            clear hol hYY hm2 hY2p hat hY2n
            go_upto_region 15 with fail
            obtain ⟨x7, hx7⟩ := HWE.out
            rw [← hx7] at HO7 HB7 HP7 HR7
            (try rw [← hx7])
            clear hx7 HWE c4 d1 z1
            have p0 := HP7.out.cell 0; have p1 := HP7.out.cell 1
            have hplt := HP7.out.lt
            simp at p0 p1
            have t0 := HR7.out.frozen 0; have t1 := HR7.out.frozen 1
            have r0 := HR7.out.cell 0; have r1 := HR7.out.cell 1
            have hrlt := HR7.out.lt
            simp at r0 r1
            go_wp2_with fail
            have hyS := (HR7.out.set_ 0 (.int .i64 m.next)).set_ 1 (.slice (some ⟨g, 0, none⟩) m.nodes.length cv)
            have f0 := hyS.cell 0; have f1 := hyS.cell 1
            simp at f0 f1
            have HBW := Lib.hid ((HB7.out.setCell (p := ⟨w.heap.size + 1, 0, none⟩) (by show w.heap.size ≤ w.heap.size + 1; omega) (.int .i64 m.next)).setCell (p := ⟨w.heap.size + 1, 1, none⟩) (by show w.heap.size ≤ w.heap.size + 1; omega) (.slice (some ⟨g, 0, none⟩) m.nodes.length cv))
            refine bodyPost_ret (v := .tuple #[.agg #[.int .i64 m.next, .slice (some ⟨g, 0, none⟩) m.nodes.length cv], .int .i64 0]) (by simp [results, Try.results39, go_sem, f0, f1]) rfl ⟨⟨_, rfl, Or.inr ⟨E.out, _, _, rfl, (HO7.out.keep (fun b h1 _ => ?_)).weaken HSZ.out, j, HJ1.out.1, HJ1.out.2, ?_⟩⟩, HBW.out⟩
            · have := HRS.out
              exact (Below.heap_setCell _ _ _ _ (by show b ≠ w.heap.size + 1; omega)).trans (Below.heap_setCell _ _ _ _ (by show b ≠ w.heap.size + 1; omega))
            · exact HM7.out
          · obtain ⟨hk1, hkn⟩ := HIFF.out.1 rfl
            obtain ⟨b0, c0, e0, _, _, hb0, hb0w⟩ := own_some HOL3.out (by omega)
            rw [HAP.out] at e0
            injection e0 with e1 _ e2
            subst e1; subst e2
            have hk2 : (k : Int) < (Y.n.props.length : Int) := by omega
            have hol := HOL3.out
            rw [HAP.out] at hol
            have d1 := own_cell hol (k * 2 + 1) (by omega)
            rw [flat_at propCells_len _ k 1 hk1 (by omega)] at d1
            simp [propCells] at d1
            have z1 := own_frozen hol (k * 2 + 1)
            have HYB0 := HYS.out b0 (by rw [HAP.out]; rfl)
            obtain ⟨hjl, hY⟩ := HY.out
            have HO7 := Lib.hid (HO3.out.setInProps hjl hY HAP.out (k := k) hk1 (r := 1) (by omega) (.string val) ⟨nm, val⟩ (by rw [show nm = Y.n.props[k].name from hkn.symm]; rfl))
            have HB7 := Lib.hid (HB3.out.setCell (p := ⟨b0, k * 2 + 1, none⟩) (by have := HSZ.out; show w.heap.size ≤ b0; omega) (.string val))
            have HP7 := Lib.hid (HP3.out.far (p := ⟨b0, k * 2 + 1, none⟩) (by show p ≠ b0; omega) (.string val))
            have HR7 := Lib.hid (HR3.out.far (p := ⟨b0, k * 2 + 1, none⟩) (by have := HRS.out; show w.heap.size + 1 ≠ b0; omega) (.string val))
            have HM7 : Hid ((l.set j ⟨{ Y.n with props := Y.n.props.set k ⟨nm, val⟩ }, Y.p, Y.k, Y.r⟩).map LN.n = m.nodes.set j ((putN nm val) m.nodes[j])) := Lib.hid (by
              rw [List.map_set, HLM.out, HYN.out.2, setK_set HSN.out HCUT.out hk1 hkn]; rfl)
            have HWE : Hid (∃ z, z = x3.setCell ⟨b0, k * 2 + 1, none⟩ (.string val)) := Lib.hid ⟨_, rfl⟩
            clear hol hY hkn
            go_upto_region 15 with fail
            obtain ⟨x7, hx7⟩ := HWE.out
            rw [← hx7] at HO7 HB7 HP7 HR7
            (try rw [← hx7])
            clear hx7 HWE c4 z4 d1 z1
            have p0 := HP7.out.cell 0; have p1 := HP7.out.cell 1
            have hplt := HP7.out.lt
            simp at p0 p1
            have t0 := HR7.out.frozen 0; have t1 := HR7.out.frozen 1
            have r0 := HR7.out.cell 0; have r1 := HR7.out.cell 1
            have hrlt := HR7.out.lt
            simp at r0 r1
            go_wp2_with fail
            have hyS := (HR7.out.set_ 0 (.int .i64 m.next)).set_ 1 (.slice (some ⟨g, 0, none⟩) m.nodes.length cv)
            have f0 := hyS.cell 0; have f1 := hyS.cell 1
            simp at f0 f1
            have HBW := Lib.hid ((HB7.out.setCell (p := ⟨w.heap.size + 1, 0, none⟩) (by show w.heap.size ≤ w.heap.size + 1; omega) (.int .i64 m.next)).setCell (p := ⟨w.heap.size + 1, 1, none⟩) (by show w.heap.size ≤ w.heap.size + 1; omega) (.slice (some ⟨g, 0, none⟩) m.nodes.length cv))
            refine bodyPost_ret (v := .tuple #[.agg #[.int .i64 m.next, .slice (some ⟨g, 0, none⟩) m.nodes.length cv], .int .i64 0]) (by simp [results, Try.results39, go_sem, f0, f1]) rfl ⟨⟨_, rfl, Or.inr ⟨E.out, _, _, rfl, (HO7.out.keep (fun b h1 _ => ?_)).weaken HSZ.out, j, HJ1.out.1, HJ1.out.2, ?_⟩⟩, HBW.out⟩
            · have := HRS.out
              exact (Below.heap_setCell _ _ _ _ (by show b ≠ w.heap.size + 1; omega)).trans (Below.heap_setCell _ _ _ _ (by show b ≠ w.heap.size + 1; omega))
            · exact HM7.out
        · have HAT := Lib.hid hj2
          have E := Lib.hid (show EE = 20 from HEE.out.symm.trans (setE_node HCM.out HW.out hlg (by rw [hj2]; omega)))
          clear hj1 hj2
          go_enter Try.func39, Try.ntmps39
          go_wp2_with fail
          (try rw [HU0.out])
          refine (HC2.out).mono ?_
          rintro _ u1 ⟨rfl, hb⟩
          have HB1 := Lib.hid (HB0.out.trans (hb.mono HB0.out.size))
          have HM1 := Lib.hid (HM0.out.below hb HM0.out.lt)
          have HR1 := Lib.hid (HR0.out.below hb HR0.out.lt)
          clear hb
          go_wp2_with fail
          refine (aword_is hns HW.out u1).mono ?_
          rintro _ u2 ⟨rfl, hb⟩
          have HB2 := Lib.hid (HB1.out.trans (hb.mono HB1.out.size))
          have HM2 := Lib.hid (HM1.out.below hb HM1.out.lt)
          have HR2 := Lib.hid (HR1.out.below hb HR1.out.lt)
          clear hb
          have m0 := HM2.out.cell 0; have m1 := HM2.out.cell 1
          have hmlt := HM2.out.lt
          simp at m0 m1
          go_wp2_with fail
          refine (int_is HAT.out (place_any A c m.next id m.nodes u2 F (fun b hb => Nat.lt_of_lt_of_le (hF b hb) HB2.out.size) (HH.out.keep ENode.stays (Keep.below HB2.out hF) (fun _ h => h)) HS.out hid (by omega))).mono ?_
          rintro _ u3 ⟨rfl, hb⟩
          have HB3 := Lib.hid (HB2.out.trans (hb.mono HB2.out.size))
          have HM3 := Lib.hid (HM2.out.below hb HM2.out.lt)
          have HR3 := Lib.hid (HR2.out.below hb HR2.out.lt)
          clear hb
          clear m0 m1 hmlt
          have t0 := HR3.out.frozen 0; have t1 := HR3.out.frozen 1
          have r0 := HR3.out.cell 0; have r1 := HR3.out.cell 1
          have hrlt := HR3.out.lt
          simp at r0 r1
          go_wp2_with fail
          have hyS := (HR3.out.set_ 0 (.int .i64 0)).set_ 1 (.slice none 0 0)
          have f0 := hyS.cell 0; have f1 := hyS.cell 1
          simp at f0 f1
          have HBW := Lib.hid ((HB3.out.setCell (p := ⟨w.heap.size + 1, 0, none⟩) (by show w.heap.size ≤ w.heap.size + 1; omega) (.int .i64 0)).setCell (p := ⟨w.heap.size + 1, 1, none⟩) (by show w.heap.size ≤ w.heap.size + 1; omega) (.slice none 0 0))
          exact bodyPost_ret (v := .tuple #[.agg #[.int .i64 0, .slice none 0 0], .int .i64 (20)]) (by simp [results, Try.results39, go_sem, f0, f1]) rfl ⟨⟨_, rfl, Or.inl ⟨by rw [E.out]; decide, by rw [E.out]⟩⟩, HBW.out⟩
  · have HC2 := Lib.hid (int_is (checkI_no hc) HC.out)
    have E := Lib.hid (show EE = 29 from HEE.out.symm.trans (setE_check hc))
    clear hc HC
    go_enter Try.func39, Try.ntmps39
    go_wp2_with fail
    (try rw [HU0.out])
    refine (HC2.out).mono ?_
    rintro _ u1 ⟨rfl, hb⟩
    have HB1 := Lib.hid (HB0.out.trans (hb.mono HB0.out.size))
    have HM1 := Lib.hid (HM0.out.below hb HM0.out.lt)
    have HR1 := Lib.hid (HR0.out.below hb HR0.out.lt)
    clear hb
    have t0 := HR1.out.frozen 0; have t1 := HR1.out.frozen 1
    have r0 := HR1.out.cell 0; have r1 := HR1.out.cell 1
    have hrlt := HR1.out.lt
    simp at r0 r1
    go_wp2_with fail
    have hyS := (HR1.out.set_ 0 (.int .i64 0)).set_ 1 (.slice none 0 0)
    have f0 := hyS.cell 0; have f1 := hyS.cell 1
    simp at f0 f1
    have HBW := Lib.hid ((HB1.out.setCell (p := ⟨w.heap.size + 1, 0, none⟩) (by show w.heap.size ≤ w.heap.size + 1; omega) (.int .i64 0)).setCell (p := ⟨w.heap.size + 1, 1, none⟩) (by show w.heap.size ≤ w.heap.size + 1; omega) (.slice none 0 0))
    exact bodyPost_ret (v := .tuple #[.agg #[.int .i64 0, .slice none 0 0], .int .i64 (29)]) (by simp [results, Try.results39, go_sem, f0, f1]) rfl ⟨⟨_, rfl, Or.inl ⟨by rw [E.out]; decide, by rw [E.out]⟩⟩, HBW.out⟩

set_option maxRecDepth 100000 in
set_option maxHeartbeats 4000000 in
theorem aimA_any (A : Option Addr) (c : Nat) (m : AModel) (w : World) (F : Nat → Prop) (hF : ∀ b, F b → b < w.heap.size) (h : RowOf 7 ENode w F A m.nodes) (hz : ∀ x ∈ m.nodes, NodeOK x) (hz' : ∀ x ∈ m.nodes, LensOK x) (hl : m.nodes.length ≤ 9223372036854775807) (id : Int) (hid : InR id) (nm : ByteArray) (hns : nm.size ≤ 9223372036854775807) (tg : Int) (htg : InR tg) :
    Calls Try.prog 43 #[.agg #[.int .i64 m.next, .slice A m.nodes.length c], .int .i64 id, .string nm, .int .i64 tg] w fun e w' => (∃ v, e = .returned v ∧ SetAs w' w.heap.size m id (setE m nm False (atI m.nodes id < 0 ∨ atI m.nodes tg < 0)) (aimN nm tg) v) ∧ Below w.heap.size w w' := by
  obtain ⟨EE, hEE⟩ : ∃ EE, setE m nm False (atI m.nodes id < 0 ∨ atI m.nodes tg < 0) = EE := ⟨_, rfl⟩
  rw [hEE]
  have HEE := Lib.hid hEE
  clear hEE
  have HBA : Hid (Below w.heap.size w ((w.alloc (.cells #[.int .i64 m.next, .slice A m.nodes.length c] 24)).alloc (.cells #[.int .i64 0, .slice none 0 0] 24))) := Lib.hid ((((Below.refl w.heap.size w).alloc (Nat.le_refl _) _).alloc (by simp) _))
  have HC := Lib.hid (check_any A c m _ F (fun b hb => Nat.lt_of_lt_of_le (hF b hb) HBA.out.size) (h.keep ENode.stays (Keep.below HBA.out hF) (fun _ h => h)) hz hl)
  have HM0 : Hid (Blk ((w.alloc (.cells #[.int .i64 m.next, .slice A m.nodes.length c] 24)).alloc (.cells #[.int .i64 0, .slice none 0 0] 24)) w.heap.size 24 #[.int .i64 m.next, .slice A m.nodes.length c]) := Lib.hid (((Blk.new w _ _).alloc _))
  have HR0 : Hid (Blk ((w.alloc (.cells #[.int .i64 m.next, .slice A m.nodes.length c] 24)).alloc (.cells #[.int .i64 0, .slice none 0 0] 24)) (w.heap.size + 1) 24 #[.int .i64 0, .slice none 0 0]) := Lib.hid (Blk.new' (by simp))
  have HH := Lib.hid h; have HZ := Lib.hid hz; have HZ' := Lib.hid hz'
  clear h hz hz'
  obtain ⟨u0, hu0⟩ : ∃ u : World, (w.alloc (.cells #[.int .i64 m.next, .slice A m.nodes.length c] 24)).alloc (.cells #[.int .i64 0, .slice none 0 0] 24) = u := ⟨_, rfl⟩
  rw [hu0] at HBA HC HM0 HR0
  have HU0 := Lib.hid hu0
  clear hu0
  have HB0 := HBA
  by_cases hc : CheckM m
  · have HC2 := Lib.hid (int_is (checkI_yes hc) HC.out)
    have HCM := Lib.hid hc
    have HS := Lib.hid hc.1.srtB
    have hl4 : m.nodes.length ≤ 4096 := hc.1.1.2.2
    have hnx : 1 ≤ m.next ∧ m.next ≤ 1048577 := ⟨hc.1.1.1, hc.1.1.2.1⟩
    clear hc HC
    rcases hwc : wordA nm with _ | _
    · have E := Lib.hid (show EE = 2 from HEE.out.symm.trans (setE_word HCM.out hwc))
      have HW := Lib.hid hwc
      clear hwc
      go_enter Try.func43, Try.ntmps43
      go_wp2_with fail
      (try rw [HU0.out])
      refine (HC2.out).mono ?_
      rintro _ u1 ⟨rfl, hb⟩
      have HB1 := Lib.hid (HB0.out.trans (hb.mono HB0.out.size))
      have HM1 := Lib.hid (HM0.out.below hb HM0.out.lt)
      have HR1 := Lib.hid (HR0.out.below hb HR0.out.lt)
      clear hb
      go_wp2_with fail
      refine (aword_is hns HW.out u1).mono ?_
      rintro _ u2 ⟨rfl, hb⟩
      have HB2 := Lib.hid (HB1.out.trans (hb.mono HB1.out.size))
      have HM2 := Lib.hid (HM1.out.below hb HM1.out.lt)
      have HR2 := Lib.hid (HR1.out.below hb HR1.out.lt)
      clear hb
      have t0 := HR2.out.frozen 0; have t1 := HR2.out.frozen 1
      have r0 := HR2.out.cell 0; have r1 := HR2.out.cell 1
      have hrlt := HR2.out.lt
      simp at r0 r1
      go_wp2_with fail
      have hyS := (HR2.out.set_ 0 (.int .i64 0)).set_ 1 (.slice none 0 0)
      have f0 := hyS.cell 0; have f1 := hyS.cell 1
      simp at f0 f1
      have HBW := Lib.hid ((HB2.out.setCell (p := ⟨w.heap.size + 1, 0, none⟩) (by show w.heap.size ≤ w.heap.size + 1; omega) (.int .i64 0)).setCell (p := ⟨w.heap.size + 1, 1, none⟩) (by show w.heap.size ≤ w.heap.size + 1; omega) (.slice none 0 0))
      exact bodyPost_ret (v := .tuple #[.agg #[.int .i64 0, .slice none 0 0], .int .i64 (2)]) (by simp [results, Try.results43, go_sem, f0, f1]) rfl ⟨⟨_, rfl, Or.inl ⟨by rw [E.out]; decide, by rw [E.out]⟩⟩, HBW.out⟩
    · have HW := Lib.hid hwc
      clear hwc
      rcases atI_cases m.nodes id with ⟨j, hj, hj1, hj2⟩ | ⟨hj1, hj2⟩
      · have HAT := Lib.hid hj2
        have g4 : decide ((j : Int) < 0) = false := decide_eq_false (by omega)
        rcases atI_cases m.nodes tg with ⟨jt, hjt, hjt1, hjt2⟩ | ⟨hjt1, hjt2⟩
        · have HATT := Lib.hid hjt2
          have g5 : decide ((jt : Int) < 0) = false := decide_eq_false (by omega)
          have E := Lib.hid (show EE = 0 from HEE.out.symm.trans (setE_ok HCM.out HW.out (fun h => h) (by rw [hj2, hjt2]; omega)))
          clear hj2 hjt2 hjt1
          go_enter Try.func43, Try.ntmps43
          go_wp2_with fail
          (try rw [HU0.out])
          refine (HC2.out).mono ?_
          rintro _ u1 ⟨rfl, hb⟩
          have HB1 := Lib.hid (HB0.out.trans (hb.mono HB0.out.size))
          have HM1 := Lib.hid (HM0.out.below hb HM0.out.lt)
          have HR1 := Lib.hid (HR0.out.below hb HR0.out.lt)
          clear hb
          go_wp2_with fail
          refine (aword_is hns HW.out u1).mono ?_
          rintro _ u2 ⟨rfl, hb⟩
          have HB2 := Lib.hid (HB1.out.trans (hb.mono HB1.out.size))
          have HM2 := Lib.hid (HM1.out.below hb HM1.out.lt)
          have HR2 := Lib.hid (HR1.out.below hb HR1.out.lt)
          clear hb
          have m0 := HM2.out.cell 0; have m1 := HM2.out.cell 1
          have hmlt := HM2.out.lt
          simp at m0 m1
          go_wp2_with fail
          refine (int_is HAT.out (place_any A c m.next id m.nodes u2 F (fun b hb => Nat.lt_of_lt_of_le (hF b hb) HB2.out.size) (HH.out.keep ENode.stays (Keep.below HB2.out hF) (fun _ h => h)) HS.out hid (by omega))).mono ?_
          rintro _ u3 ⟨rfl, hb⟩
          have HB3 := Lib.hid (HB2.out.trans (hb.mono HB2.out.size))
          have HM3 := Lib.hid (HM2.out.below hb HM2.out.lt)
          have HR3 := Lib.hid (HR2.out.below hb HR2.out.lt)
          clear hb
          clear m0 m1 hmlt
          have m0 := HM3.out.cell 0; have m1 := HM3.out.cell 1
          have hmlt := HM3.out.lt
          simp at m0 m1
          go_wp2_with fail
          refine (int_is HATT.out (place_any A c m.next tg m.nodes u3 F (fun b hb => Nat.lt_of_lt_of_le (hF b hb) HB3.out.size) (HH.out.keep ENode.stays (Keep.below HB3.out hF) (fun _ h => h)) HS.out htg (by omega))).mono ?_
          rintro _ u4 ⟨rfl, hb⟩
          have HB4 := Lib.hid (HB3.out.trans (hb.mono HB3.out.size))
          have HM4 := Lib.hid (HM3.out.below hb HM3.out.lt)
          have HR4 := Lib.hid (HR3.out.below hb HR3.out.lt)
          clear hb
          clear m0 m1 hmlt
          have m0 := HM4.out.cell 0; have m1 := HM4.out.cell 1
          have hmlt := HM4.out.lt
          simp at m0 m1
          go_wp2_with fail
          refine (twinA_any A c m u4 F (fun b hb => Nat.lt_of_lt_of_le (hF b hb) HB4.out.size) (HH.out.keep ENode.stays (Keep.below HB4.out hF) (fun _ h => h)) HZ'.out (by omega)).mono ?_
          rintro _ u5 ⟨vt, rfl, l, hown, hlm, hb⟩
          have HB5 := Lib.hid (HB4.out.trans (hb.mono HB4.out.size))
          have HM5 := Lib.hid (HM4.out.below hb HM4.out.lt)
          have HR5 := Lib.hid (HR4.out.below hb HR4.out.lt)
          have HSZ := Lib.hid HB4.out.size
          have hll : l.length = m.nodes.length := by rw [← hlm]; simp
          have hjl : j < l.length := by omega
          obtain ⟨g, cv, rfl, hnc, hcm, hgb, hgw⟩ := own_some hown.row (by omega)
          obtain ⟨Y, hY⟩ : ∃ Y, l[j] = Y := ⟨_, rfl⟩
          have hYn : m.nodes[j] = Y.n := by
            have h1 : (l.map LN.n)[j]? = some Y.n := by rw [List.getElem?_map, List.getElem?_eq_getElem hjl, hY]; rfl
            rw [hlm, List.getElem?_eq_getElem hj] at h1
            injection h1
          rw [hll] at hown hnc ⊢
          have HO := Lib.hid hown; have HLM := Lib.hid hlm
          have HY := Lib.hid (show ∃ h : j < l.length, l[j]'h = Y from ⟨hjl, hY⟩)
          have HYN := Lib.hid (show ∃ h : j < m.nodes.length, m.nodes[j]'h = Y.n from ⟨hj, hYn⟩)
          have HJ1 := Lib.hid (show ∃ h : j < m.nodes.length, (m.nodes[j]'h).id = id from ⟨hj, hj1⟩)
          have HSN : Hid (SrtN ARef.role Y.n.refs) := Lib.hid (by rw [← hYn]; exact refs_srt (HCM.out.2.1 _ (List.getElem_mem hj)).2.2.2.2.2)
          have hLN : Y.n.refs.length ≤ 5864062014634 := by
            have := HZ'.out m.nodes[j] (List.getElem_mem hj)
            rw [hYn] at this
            unfold LensOK at this
            omega
          have HRS : Hid (w.heap.size + 1 < u4.heap.size) := Lib.hid HR4.out.lt
          clear hb hown hlm hll hjl hY hYn hj1 m0 m1 hmlt
          have m0 := HM5.out.cell 0; have m1 := HM5.out.cell 1
          have hmlt := HM5.out.lt
          simp at m0 m1
          go_upto_region 8 with fail
          obtain ⟨p, hp⟩ : ∃ p, u5.heap.size = p := ⟨_, rfl⟩
          obtain ⟨x1, hx1⟩ : ∃ z : World, u5.alloc (.cells #[.int .i64 m.next, .slice (some ⟨g, 0, none⟩) m.nodes.length cv] 24) = z := ⟨_, rfl⟩
          have HX : Hid (Below u5.heap.size u5 x1) := Lib.hid (by rw [← hx1]; exact (Below.refl _ _).alloc (Nat.le_refl _) _)
          have HP1 : Hid (Blk x1 p 24 #[.int .i64 m.next, .slice (some ⟨g, 0, none⟩) m.nodes.length cv]) := Lib.hid (by rw [← hx1, ← hp]; exact Blk.new _ _ _)
          have HO1 := Lib.hid (HO.out.below HX.out)
          have HB1x := Lib.hid (HB5.out.trans (HX.out.mono HB5.out.size))
          have HR1x := Lib.hid (HR5.out.below HX.out HR5.out.lt)
          have HYB : Hid (∀ b, some b ∈ Y.blocks → u4.heap.size ≤ b ∧ b < p) := Lib.hid (fun b hb => by
            rw [← hp]
            obtain ⟨h1, h2⟩ := HY.out
            exact (HO.out.lists Y (by rw [← h2]; exact List.getElem_mem h1)).lt b hb)
          have hgp : g < p := by omega
          have hpw : w.heap.size + 1 < p := by have := HRS.out; omega
          (try rw [hx1])
          (try rw [hp])
          clear hx1 hp m0 m1 hmlt HO HX hgw
          have p0 := HP1.out.cell 0; have p1 := HP1.out.cell 1
          have hplt := HP1.out.lt
          simp at p0 p1
          have hj0 : (0 : Int) ≤ j := by omega
          have hj1 : (j : Int) < m.nodes.length := by omega
          have CP := Lib.hid (fun (d : Nat) (os : Array Obj) => Calls.regrown_of (w := x1) (d := d) (os := os) (by
            have ho := HO1.out.below (below_regrown x1 d os)
            have := place_any (some ⟨g, 0, none⟩) cv m.next id m.nodes (Sort.grow (redrawn x1 d) os) (fun b => u4.heap.size ≤ b ∧ b < (Sort.grow (redrawn x1 d) os).heap.size) (fun b hb => hb.2) (by rw [← HLM.out]; exact ho.rowOf (fun b h1 h2 => ⟨h1, h2⟩)) HS.out hid (by omega)
            rw [HAT.out] at this; exact this))
          have k0 := cell_regrown p0; have k1 := cell_regrown p1
          clear p0 p1
          refine wp_region_quiet_below (by kernel_rfl) (by kernel_rfl) ?_
          repeat (first | go_big_quiet_step (exact CP.out _ _) | quiet_step (exact CP.out _ _))
          refine wpQuiet_nil ?_
          intro _ hw'
          obtain ⟨⟨dq, osq⟩, hw''⟩ := hw'
          subst hw''
          have hbr := below_regrown x1 dq osq
          have HB2 := Lib.hid (HB1x.out.trans (hbr.mono HB1x.out.size))
          have HP2 := Lib.hid (HP1.out.below hbr hplt)
          have HR2 := Lib.hid (HR1x.out.below hbr HR1x.out.lt)
          have HO2 := Lib.hid (HO1.out.below hbr)
          have hbx2 : p < (Sort.grow (redrawn x1 dq) osq).heap.size := Nat.lt_of_lt_of_le hplt hbr.size
          clear k0 k1 CP hbr
          obtain ⟨x2, hu⟩ : ∃ z : World, Sort.grow (redrawn x1 dq) osq = z := ⟨_, rfl⟩
          rw [hu] at HB2 HP2 HR2 HO2 hbx2 ⊢
          clear hu hplt HO1 HP1 HB1x HR1x
          have hgx2 : g < x2.heap.size := by omega
          obtain ⟨hjl, hY⟩ := HY.out
          have hYm : Y ∈ l := by rw [← hY]; exact List.getElem_mem hjl
          have c4 := HO2.out.cell (i := j) (j := 6) hjl (by omega)
          rw [hY] at c4
          simp [LN.cells, nodeCellsA] at c4
          have z4 := HO2.out.frozen (j * 7 + 6)
          have hOL := (HO2.out.lists Y hYm).r
          obtain ⟨Ap, cp, hAp⟩ := own_shape hOL
          have HPR := Lib.hid (IsRow.of_own (F := fun b => b < x2.heap.size) refCells_len hOL (own_at hOL (fun b _ h => h)))
          have HOL := Lib.hid hOL
          have HAP := Lib.hid hAp
          have HYS : Hid (∀ b, Y.r.ownBlock = some b → u4.heap.size ≤ b ∧ b < p) := Lib.hid (fun b hb => HYB.out b (by simp [LN.blocks, hb]))
          have HGY : Hid (Y.r.ownBlock ≠ some g) := Lib.hid (fun e => HO2.out.row_ne hYm (b := g) (by rw [← e]; simp [LN.blocks]) rfl)
          rw [hAp] at c4
          clear hY hYm hOL hAp
          have HSK := Lib.hid (seekRef_any Ap cp nm Y.n.refs x2 (fun b => b < x2.heap.size) (fun b h => h) (by
            obtain ⟨A', c', e, _, _, h3⟩ := HPR.out
            rw [HAP.out] at e
            injection e with e1
            subst e1
            exact h3) HSN.out (by omega))
          go_wp2_with fail
          refine HSK.out.mono ?_
          rintro _ x3 ⟨k, b, rfl, hcut, hiff, hb⟩
          have HCUT := Lib.hid hcut; have HIFF := Lib.hid hiff
          have hkl := hcut.1
          have HB3 := Lib.hid (HB2.out.trans (hb.mono HB2.out.size))
          have HP3 := Lib.hid (HP2.out.below hb hbx2)
          have HR3 := Lib.hid (HR2.out.below hb HR2.out.lt)
          have HO3 := Lib.hid (HO2.out.below hb)
          have hgx3 : g < x3.heap.size := Nat.lt_of_lt_of_le hgx2 hb.size
          have hpx3 : p < x3.heap.size := Nat.lt_of_lt_of_le hbx2 hb.size
          have HOL3 := Lib.hid (own_keep HOL.out fun b e => hb.block b (HOL.out.lt b e).2)
          clear HSK hcut hiff hb c4 z4 HB2 HP2 HR2 HO2 HPR
          obtain ⟨hjl, hY⟩ := HY.out
          have hYm : Y ∈ l := by rw [← hY]; exact List.getElem_mem hjl
          have c4 := HO3.out.cell (i := j) (j := 6) hjl (by omega)
          rw [hY] at c4
          simp [LN.cells, nodeCellsA] at c4
          rw [HAP.out] at c4
          have z4 := HO3.out.frozen (j * 7 + 6)
          have k0 : (0 : Int) ≤ k := by omega
          clear hY hYm
          cases b
          · have HN : Hid (¬ ∃ h : k < Y.n.refs.length, (Y.n.refs[k]'h).role = nm) := Lib.hid (fun e => by have := HIFF.out.2 e; cases this)
            obtain ⟨q, hq⟩ : ∃ q, x3.heap.size = q := ⟨_, rfl⟩
            have HB4 := Lib.hid (HB3.out.alloc HB3.out.size (.cells #[.string nm, .int .i64 0] 82))
            have HQ4 : Hid (Blk (x3.alloc (.cells #[.string nm, .int .i64 0] 82)) q 82 (refCells (⟨nm, 0⟩ : ARef)).toArray) := Lib.hid (by rw [← hq]; exact Blk.new _ _ _)
            have HP4 := Lib.hid (HP3.out.alloc (.cells #[.string nm, .int .i64 0] 82))
            have HR4 := Lib.hid (HR3.out.alloc (.cells #[.string nm, .int .i64 0] 82))
            have HO4 := Lib.hid (HO3.out.below ((Below.refl x3.heap.size x3).alloc (Nat.le_refl _) (.cells #[.string nm, .int .i64 0] 82)))
            have HOL4 := Lib.hid (own_keep (w' := x3.alloc (.cells #[.string nm, .int .i64 0] 82)) HOL3.out fun b e => heap_alloc_old x3 _ (HOL3.out.lt b e).2)
            have hqp : p < q := by omega
            go_wp2_with fail
            (try rw [hq])
            obtain ⟨x4, hx4⟩ : ∃ z : World, x3.alloc (.cells #[.string nm, .int .i64 0] 82) = z := ⟨_, rfl⟩
            have hgx4 : g < x4.heap.size := by rw [← hx4]; simp; omega
            have hux4 : u4.heap.size ≤ x4.heap.size := by omega
            rw [hx4] at HB4 HQ4 HP4 HR4 HO4 HOL4 ⊢
            clear hx4 hq c4 z4 HB3 HP3 HR3 HO3 HOL3
            refine (insRef_any (.slice Ap Y.n.refs.length cp) Y.n.refs k ⟨nm, 0⟩ q x4 u4.heap.size (by rw [← HAP.out]; exact HOL4.out) HQ4.out (by rw [← HAP.out]; intro e; have := HYS.out _ e; omega) (by omega) hux4 hkl).mono ?_
            rintro _ x5 ⟨v', rfl, hown5, hg5, hat5⟩
            rw [← HAP.out] at hg5 hat5
            have hil : (insAt Y.n.refs k ⟨nm, 0⟩).length = Y.n.refs.length + 1 := insAt_len hkl _
            have hgg : x5.heap[g]? = x4.heap[g]? := hg5.block g hgx4 (fun e => HGY.out e.symm)
            obtain ⟨hjl, hY⟩ := HY.out
            have c4 : x5.cell? ⟨g, j * 7 + 6, none⟩ = some Y.r := by
              have h := HO4.out.cell (i := j) (j := 6) hjl (by omega)
              rw [hY] at h
              rw [World.cell?_of_block (w := x4) (a := ⟨g, j * 7 + 6, none⟩) hgg, h]
              simp [LN.cells, nodeCellsA]
            have z4 : x5.frozen? ⟨g, j * 7 + 6, none⟩ = false := by
              rw [World.frozen?_of_block (w := x4) (a := ⟨g, j * 7 + 6, none⟩) hgg]; exact HO4.out.frozen _
            have HB5 : Hid (Below w.heap.size w x5) := Lib.hid (HB4.out.grown hg5 (by have := HB4.out.size; omega) (fun b e => by have := HYS.out b e; have := HSZ.out; omega))
            have HP5 := Lib.hid (HP4.out.grown hg5 (fun e => by have := HYS.out _ e.symm; omega))
            have HR5 := Lib.hid (HR4.out.grown hg5 (fun e => by have := HYS.out _ e.symm; have := HRS.out; omega))
            have hown6 : x5.ownsRow u4.heap.size 82 2 v' (insAt Y.n.refs k ⟨nm, 0⟩).length ((insAt Y.n.refs k ⟨nm, 0⟩).flatMap refCells) := by rw [hil]; exact hown5
            have HOLN := Lib.hid hown6
            have HO6 := Lib.hid (HO4.out.setRefs hjl hY (insAt Y.n.refs k ⟨nm, 0⟩) v' hg5 (hat5.imp (fun h => h) .inr) hown6)
            have HB6 := Lib.hid (HB5.out.setCell (p := ⟨g, j * 7 + 6, none⟩) (by have := HSZ.out; show w.heap.size ≤ g; omega) v')
            have HP6 := Lib.hid (HP5.out.far (p := ⟨g, j * 7 + 6, none⟩) (by show p ≠ g; omega) v')
            have HR6 := Lib.hid (HR5.out.far (p := ⟨g, j * 7 + 6, none⟩) (by have := HRS.out; show w.heap.size + 1 ≠ g; omega) v')
            obtain ⟨b1, c1, hv', _, _, hb1, hb1w⟩ := own_some hown5 (by omega)
            have HIL := Lib.hid hil
            have HV : Hid (b1 ≠ p ∧ b1 ≠ w.heap.size + 1 ∧ w.heap.size ≤ b1) := Lib.hid (by
              have h1 := HRS.out; have h2 := HSZ.out
              have hlt4 := HP4.out.lt
              refine ⟨fun e => ?_, by omega, by omega⟩
              rcases hat5 with e2 | ⟨b2, e2, hb2⟩
              · have := HYS.out b1 (by rw [← e2, hv']; rfl); omega
              · rw [hv'] at e2
                have hbb : b1 = b2 := by injection e2
                omega)
            subst hv'
            have hgx5 : g < x5.heap.size := by have := hg5.size; omega
            clear hgg hY hown5 hown6 hg5 hat5 hil
            have HWE : Hid (∃ z, z = x5.setCell ⟨g, j * 7 + 6, none⟩ (.slice (some ⟨b1, 0, none⟩) (Y.n.refs.length + 1) c1)) := Lib.hid ⟨_, rfl⟩
            go_upto_region 12 with fail
            obtain ⟨x6, hx6⟩ := HWE.out
            rw [← hx6] at HO6 HB6 HP6 HR6
            (try rw [← hx6])
            have hgx6 : g < x6.heap.size := by rw [hx6]; simpa using hgx5
            have hb16 : b1 < x6.heap.size := by rw [hx6]; simpa using hb1w
            clear hx6 HWE c4 z4 HOLN HB4 HP4 HR4 HO4 HOL4
            obtain ⟨Y2, hY2⟩ : ∃ Y2 : LN, Y2 = ⟨{ Y.n with refs := insAt Y.n.refs k ⟨nm, 0⟩ }, Y.p, Y.k, .slice (some ⟨b1, 0, none⟩) (Y.n.refs.length + 1) c1⟩ := ⟨_, rfl⟩
            rw [← hY2] at HO6
            have hjl2 : j < (l.set j Y2).length := by simpa using hjl
            have hYY : (l.set j Y2)[j] = Y2 := List.getElem_set_self _
            have hm2 : Y2 ∈ l.set j Y2 := List.mem_iff_getElem.2 ⟨j, hjl2, hYY⟩
            have hY2n : Y2.n.refs = insAt Y.n.refs k ⟨nm, 0⟩ := by rw [hY2]
            have hY2p : Y2.r = .slice (some ⟨b1, 0, none⟩) Y2.n.refs.length c1 := by rw [hY2n, HIL.out, hY2]
            have c4 := HO6.out.cell (i := j) (j := 6) hjl2 (by omega)
            rw [hYY] at c4
            simp [LN.cells, nodeCellsA] at c4
            rw [hY2p, hY2n, HIL.out] at c4
            have hol := (HO6.out.lists Y2 hm2).r
            rw [hY2p, hY2n, HIL.out] at hol
            have hk1 : k < (insAt Y.n.refs k ⟨nm, 0⟩).length := by rw [HIL.out]; omega
            have hk2 : (k : Int) < (Y.n.refs.length : Int) + 1 := by omega
            have hk3 : k < Y.n.refs.length + 1 := by omega
            have hat : (insAt Y.n.refs k ⟨nm, 0⟩)[k] = ⟨nm, 0⟩ := insAt_at hkl _
            have d1 := own_cell hol (k * 2 + 1) (by omega)
            rw [flat_at refCells_len _ k 1 hk1 (by omega), hat] at d1
            simp [refCells] at d1
            have z1 := own_frozen hol (k * 2 + 1)
            have HO7 := Lib.hid (HO6.out.setInRefs hjl2 hYY hY2p (k := k) (by rw [hY2n]; exact hk1) (r := 1) (by omega) (.int .i64 tg) ⟨nm, tg⟩ (by
              have : Y2.n.refs[k]'(by rw [hY2n]; exact hk1) = ⟨nm, 0⟩ := by simp only [hY2n]; exact hat
              rw [this]; rfl))
            have HB7 := Lib.hid (HB6.out.setCell (p := ⟨b1, k * 2 + 1, none⟩) HV.out.2.2 (.int .i64 tg))
            have HP7 := Lib.hid (HP6.out.far (p := ⟨b1, k * 2 + 1, none⟩) (Ne.symm HV.out.1) (.int .i64 tg))
            have HR7 := Lib.hid (HR6.out.far (p := ⟨b1, k * 2 + 1, none⟩) (Ne.symm HV.out.2.1) (.int .i64 tg))
            have HM7 : Hid (((l.set j Y2).set j ⟨{ Y2.n with refs := Y2.n.refs.set k ⟨nm, tg⟩ }, Y2.p, Y2.k, Y2.r⟩).map LN.n = m.nodes.set j ((aimN nm tg) m.nodes[j])) := Lib.hid (by
              rw [List.set_set, List.map_set, HLM.out, HYN.out.2, hY2n, insAt_set hkl, setK_ins HSN.out HCUT.out HN.out, hY2]; rfl)
            have HWE : Hid (∃ z, z = x6.setCell ⟨b1, k * 2 + 1, none⟩ (.int .i64 tg)) := Lib.hid ⟨_, rfl⟩
            clear hol hYY hm2 hY2p hat hY2n
            go_upto_region 13 with fail
            obtain ⟨x7, hx7⟩ := HWE.out
            rw [← hx7] at HO7 HB7 HP7 HR7
            (try rw [← hx7])
            clear hx7 HWE c4 d1 z1
            have p0 := HP7.out.cell 0; have p1 := HP7.out.cell 1
            have hplt := HP7.out.lt
            simp at p0 p1
            have t0 := HR7.out.frozen 0; have t1 := HR7.out.frozen 1
            have r0 := HR7.out.cell 0; have r1 := HR7.out.cell 1
            have hrlt := HR7.out.lt
            simp at r0 r1
            go_wp2_with fail
            have hyS := (HR7.out.set_ 0 (.int .i64 m.next)).set_ 1 (.slice (some ⟨g, 0, none⟩) m.nodes.length cv)
            have f0 := hyS.cell 0; have f1 := hyS.cell 1
            simp at f0 f1
            have HBW := Lib.hid ((HB7.out.setCell (p := ⟨w.heap.size + 1, 0, none⟩) (by show w.heap.size ≤ w.heap.size + 1; omega) (.int .i64 m.next)).setCell (p := ⟨w.heap.size + 1, 1, none⟩) (by show w.heap.size ≤ w.heap.size + 1; omega) (.slice (some ⟨g, 0, none⟩) m.nodes.length cv))
            refine bodyPost_ret (v := .tuple #[.agg #[.int .i64 m.next, .slice (some ⟨g, 0, none⟩) m.nodes.length cv], .int .i64 0]) (by simp [results, Try.results43, go_sem, f0, f1]) rfl ⟨⟨_, rfl, Or.inr ⟨E.out, _, _, rfl, (HO7.out.keep (fun b h1 _ => ?_)).weaken HSZ.out, j, HJ1.out.1, HJ1.out.2, ?_⟩⟩, HBW.out⟩
            · have := HRS.out
              exact (Below.heap_setCell _ _ _ _ (by show b ≠ w.heap.size + 1; omega)).trans (Below.heap_setCell _ _ _ _ (by show b ≠ w.heap.size + 1; omega))
            · exact HM7.out
          · obtain ⟨hk1, hkn⟩ := HIFF.out.1 rfl
            obtain ⟨b0, c0, e0, _, _, hb0, hb0w⟩ := own_some HOL3.out (by omega)
            rw [HAP.out] at e0
            injection e0 with e1 _ e2
            subst e1; subst e2
            have hk2 : (k : Int) < (Y.n.refs.length : Int) := by omega
            have hol := HOL3.out
            rw [HAP.out] at hol
            have d1 := own_cell hol (k * 2 + 1) (by omega)
            rw [flat_at refCells_len _ k 1 hk1 (by omega)] at d1
            simp [refCells] at d1
            have z1 := own_frozen hol (k * 2 + 1)
            have HYB0 := HYS.out b0 (by rw [HAP.out]; rfl)
            obtain ⟨hjl, hY⟩ := HY.out
            have HO7 := Lib.hid (HO3.out.setInRefs hjl hY HAP.out (k := k) hk1 (r := 1) (by omega) (.int .i64 tg) ⟨nm, tg⟩ (by rw [show nm = Y.n.refs[k].role from hkn.symm]; rfl))
            have HB7 := Lib.hid (HB3.out.setCell (p := ⟨b0, k * 2 + 1, none⟩) (by have := HSZ.out; show w.heap.size ≤ b0; omega) (.int .i64 tg))
            have HP7 := Lib.hid (HP3.out.far (p := ⟨b0, k * 2 + 1, none⟩) (by show p ≠ b0; omega) (.int .i64 tg))
            have HR7 := Lib.hid (HR3.out.far (p := ⟨b0, k * 2 + 1, none⟩) (by have := HRS.out; show w.heap.size + 1 ≠ b0; omega) (.int .i64 tg))
            have HM7 : Hid ((l.set j ⟨{ Y.n with refs := Y.n.refs.set k ⟨nm, tg⟩ }, Y.p, Y.k, Y.r⟩).map LN.n = m.nodes.set j ((aimN nm tg) m.nodes[j])) := Lib.hid (by
              rw [List.map_set, HLM.out, HYN.out.2, setK_set HSN.out HCUT.out hk1 hkn]; rfl)
            have HWE : Hid (∃ z, z = x3.setCell ⟨b0, k * 2 + 1, none⟩ (.int .i64 tg)) := Lib.hid ⟨_, rfl⟩
            clear hol hY hkn
            go_upto_region 13 with fail
            obtain ⟨x7, hx7⟩ := HWE.out
            rw [← hx7] at HO7 HB7 HP7 HR7
            (try rw [← hx7])
            clear hx7 HWE c4 z4 d1 z1
            have p0 := HP7.out.cell 0; have p1 := HP7.out.cell 1
            have hplt := HP7.out.lt
            simp at p0 p1
            have t0 := HR7.out.frozen 0; have t1 := HR7.out.frozen 1
            have r0 := HR7.out.cell 0; have r1 := HR7.out.cell 1
            have hrlt := HR7.out.lt
            simp at r0 r1
            go_wp2_with fail
            have hyS := (HR7.out.set_ 0 (.int .i64 m.next)).set_ 1 (.slice (some ⟨g, 0, none⟩) m.nodes.length cv)
            have f0 := hyS.cell 0; have f1 := hyS.cell 1
            simp at f0 f1
            have HBW := Lib.hid ((HB7.out.setCell (p := ⟨w.heap.size + 1, 0, none⟩) (by show w.heap.size ≤ w.heap.size + 1; omega) (.int .i64 m.next)).setCell (p := ⟨w.heap.size + 1, 1, none⟩) (by show w.heap.size ≤ w.heap.size + 1; omega) (.slice (some ⟨g, 0, none⟩) m.nodes.length cv))
            refine bodyPost_ret (v := .tuple #[.agg #[.int .i64 m.next, .slice (some ⟨g, 0, none⟩) m.nodes.length cv], .int .i64 0]) (by simp [results, Try.results43, go_sem, f0, f1]) rfl ⟨⟨_, rfl, Or.inr ⟨E.out, _, _, rfl, (HO7.out.keep (fun b h1 _ => ?_)).weaken HSZ.out, j, HJ1.out.1, HJ1.out.2, ?_⟩⟩, HBW.out⟩
            · have := HRS.out
              exact (Below.heap_setCell _ _ _ _ (by show b ≠ w.heap.size + 1; omega)).trans (Below.heap_setCell _ _ _ _ (by show b ≠ w.heap.size + 1; omega))
            · exact HM7.out
        · have HATT := Lib.hid hjt2
          have E := Lib.hid (show EE = 20 from HEE.out.symm.trans (setE_node HCM.out HW.out (fun h => h) (by rw [hjt2]; omega)))
          clear hj1 hj2 hjt1 hjt2
          go_enter Try.func43, Try.ntmps43
          go_wp2_with fail
          (try rw [HU0.out])
          refine (HC2.out).mono ?_
          rintro _ u1 ⟨rfl, hb⟩
          have HB1 := Lib.hid (HB0.out.trans (hb.mono HB0.out.size))
          have HM1 := Lib.hid (HM0.out.below hb HM0.out.lt)
          have HR1 := Lib.hid (HR0.out.below hb HR0.out.lt)
          clear hb
          go_wp2_with fail
          refine (aword_is hns HW.out u1).mono ?_
          rintro _ u2 ⟨rfl, hb⟩
          have HB2 := Lib.hid (HB1.out.trans (hb.mono HB1.out.size))
          have HM2 := Lib.hid (HM1.out.below hb HM1.out.lt)
          have HR2 := Lib.hid (HR1.out.below hb HR1.out.lt)
          clear hb
          have m0 := HM2.out.cell 0; have m1 := HM2.out.cell 1
          have hmlt := HM2.out.lt
          simp at m0 m1
          go_wp2_with fail
          refine (int_is HAT.out (place_any A c m.next id m.nodes u2 F (fun b hb => Nat.lt_of_lt_of_le (hF b hb) HB2.out.size) (HH.out.keep ENode.stays (Keep.below HB2.out hF) (fun _ h => h)) HS.out hid (by omega))).mono ?_
          rintro _ u3 ⟨rfl, hb⟩
          have HB3 := Lib.hid (HB2.out.trans (hb.mono HB2.out.size))
          have HM3 := Lib.hid (HM2.out.below hb HM2.out.lt)
          have HR3 := Lib.hid (HR2.out.below hb HR2.out.lt)
          clear hb
          clear m0 m1 hmlt
          have m0 := HM3.out.cell 0; have m1 := HM3.out.cell 1
          have hmlt := HM3.out.lt
          simp at m0 m1
          go_wp2_with fail
          refine (int_is HATT.out (place_any A c m.next tg m.nodes u3 F (fun b hb => Nat.lt_of_lt_of_le (hF b hb) HB3.out.size) (HH.out.keep ENode.stays (Keep.below HB3.out hF) (fun _ h => h)) HS.out htg (by omega))).mono ?_
          rintro _ u4 ⟨rfl, hb⟩
          have HB4 := Lib.hid (HB3.out.trans (hb.mono HB3.out.size))
          have HM4 := Lib.hid (HM3.out.below hb HM3.out.lt)
          have HR4 := Lib.hid (HR3.out.below hb HR3.out.lt)
          clear hb
          clear m0 m1 hmlt
          have t0 := HR4.out.frozen 0; have t1 := HR4.out.frozen 1
          have r0 := HR4.out.cell 0; have r1 := HR4.out.cell 1
          have hrlt := HR4.out.lt
          simp at r0 r1
          go_wp2_with fail
          have hyS := (HR4.out.set_ 0 (.int .i64 0)).set_ 1 (.slice none 0 0)
          have f0 := hyS.cell 0; have f1 := hyS.cell 1
          simp at f0 f1
          have HBW := Lib.hid ((HB4.out.setCell (p := ⟨w.heap.size + 1, 0, none⟩) (by show w.heap.size ≤ w.heap.size + 1; omega) (.int .i64 0)).setCell (p := ⟨w.heap.size + 1, 1, none⟩) (by show w.heap.size ≤ w.heap.size + 1; omega) (.slice none 0 0))
          exact bodyPost_ret (v := .tuple #[.agg #[.int .i64 0, .slice none 0 0], .int .i64 (20)]) (by simp [results, Try.results43, go_sem, f0, f1]) rfl ⟨⟨_, rfl, Or.inl ⟨by rw [E.out]; decide, by rw [E.out]⟩⟩, HBW.out⟩
      · have HAT := Lib.hid hj2
        have E := Lib.hid (show EE = 20 from HEE.out.symm.trans (setE_node HCM.out HW.out (fun h => h) (by rw [hj2]; omega)))
        clear hj1 hj2
        go_enter Try.func43, Try.ntmps43
        go_wp2_with fail
        (try rw [HU0.out])
        refine (HC2.out).mono ?_
        rintro _ u1 ⟨rfl, hb⟩
        have HB1 := Lib.hid (HB0.out.trans (hb.mono HB0.out.size))
        have HM1 := Lib.hid (HM0.out.below hb HM0.out.lt)
        have HR1 := Lib.hid (HR0.out.below hb HR0.out.lt)
        clear hb
        go_wp2_with fail
        refine (aword_is hns HW.out u1).mono ?_
        rintro _ u2 ⟨rfl, hb⟩
        have HB2 := Lib.hid (HB1.out.trans (hb.mono HB1.out.size))
        have HM2 := Lib.hid (HM1.out.below hb HM1.out.lt)
        have HR2 := Lib.hid (HR1.out.below hb HR1.out.lt)
        clear hb
        have m0 := HM2.out.cell 0; have m1 := HM2.out.cell 1
        have hmlt := HM2.out.lt
        simp at m0 m1
        go_wp2_with fail
        refine (int_is HAT.out (place_any A c m.next id m.nodes u2 F (fun b hb => Nat.lt_of_lt_of_le (hF b hb) HB2.out.size) (HH.out.keep ENode.stays (Keep.below HB2.out hF) (fun _ h => h)) HS.out hid (by omega))).mono ?_
        rintro _ u3 ⟨rfl, hb⟩
        have HB3 := Lib.hid (HB2.out.trans (hb.mono HB2.out.size))
        have HM3 := Lib.hid (HM2.out.below hb HM2.out.lt)
        have HR3 := Lib.hid (HR2.out.below hb HR2.out.lt)
        clear hb
        clear m0 m1 hmlt
        have t0 := HR3.out.frozen 0; have t1 := HR3.out.frozen 1
        have r0 := HR3.out.cell 0; have r1 := HR3.out.cell 1
        have hrlt := HR3.out.lt
        simp at r0 r1
        go_wp2_with fail
        have hyS := (HR3.out.set_ 0 (.int .i64 0)).set_ 1 (.slice none 0 0)
        have f0 := hyS.cell 0; have f1 := hyS.cell 1
        simp at f0 f1
        have HBW := Lib.hid ((HB3.out.setCell (p := ⟨w.heap.size + 1, 0, none⟩) (by show w.heap.size ≤ w.heap.size + 1; omega) (.int .i64 0)).setCell (p := ⟨w.heap.size + 1, 1, none⟩) (by show w.heap.size ≤ w.heap.size + 1; omega) (.slice none 0 0))
        exact bodyPost_ret (v := .tuple #[.agg #[.int .i64 0, .slice none 0 0], .int .i64 (20)]) (by simp [results, Try.results43, go_sem, f0, f1]) rfl ⟨⟨_, rfl, Or.inl ⟨by rw [E.out]; decide, by rw [E.out]⟩⟩, HBW.out⟩
  · have HC2 := Lib.hid (int_is (checkI_no hc) HC.out)
    have E := Lib.hid (show EE = 29 from HEE.out.symm.trans (setE_check hc))
    clear hc HC
    go_enter Try.func43, Try.ntmps43
    go_wp2_with fail
    (try rw [HU0.out])
    refine (HC2.out).mono ?_
    rintro _ u1 ⟨rfl, hb⟩
    have HB1 := Lib.hid (HB0.out.trans (hb.mono HB0.out.size))
    have HM1 := Lib.hid (HM0.out.below hb HM0.out.lt)
    have HR1 := Lib.hid (HR0.out.below hb HR0.out.lt)
    clear hb
    have t0 := HR1.out.frozen 0; have t1 := HR1.out.frozen 1
    have r0 := HR1.out.cell 0; have r1 := HR1.out.cell 1
    have hrlt := HR1.out.lt
    simp at r0 r1
    go_wp2_with fail
    have hyS := (HR1.out.set_ 0 (.int .i64 0)).set_ 1 (.slice none 0 0)
    have f0 := hyS.cell 0; have f1 := hyS.cell 1
    simp at f0 f1
    have HBW := Lib.hid ((HB1.out.setCell (p := ⟨w.heap.size + 1, 0, none⟩) (by show w.heap.size ≤ w.heap.size + 1; omega) (.int .i64 0)).setCell (p := ⟨w.heap.size + 1, 1, none⟩) (by show w.heap.size ≤ w.heap.size + 1; omega) (.slice none 0 0))
    exact bodyPost_ret (v := .tuple #[.agg #[.int .i64 0, .slice none 0 0], .int .i64 (29)]) (by simp [results, Try.results43, go_sem, f0, f1]) rfl ⟨⟨_, rfl, Or.inl ⟨by rw [E.out]; decide, by rw [E.out]⟩⟩, HBW.out⟩
end Go.Proofs.Ytmafhaadcjgcbaa
end
