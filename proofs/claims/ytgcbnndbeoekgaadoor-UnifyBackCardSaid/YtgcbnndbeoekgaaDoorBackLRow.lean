import Derived.Test.YtgcbnndbeoekgaaDoorAwakeP
import Derived.Test.YtgcbnndbeoekgaaDoorUSolve
import Derived.Test.YtgcbnndbeoekgaaDoorTerm
import Derived.Test.YtgcbnndbeoekgaaDoorNodesX
import Derived.Test.YtgcbnndbeoekgaaDoorFewP
import Derived.KernelRfl
import Derived.Test.YtgcbnndbeoekgaaDoorFoldsU
import Derived.Test.YtgcbnndbeoekgaaDoorApplyU
import Derived.Lib.QuietBelow
import Derived.Test.YtgcbnndbeoekgaaDoorRows
import Derived.Test.YtgcbnndbeoekgaaDoorCards
import Derived.Test.YtgcbnndbeoekgaaDoorTie
import Derived.Test.YtgcbnndbeoekgaaDoorBackL
import Derived.Test.YtgcbnndbeoekgaaDoorData15
import Derived.HandedShaped
import Derived.ProofKit
import Derived.LaidMore
import Derived.OpenShut
import Derived.ChangeMaps5
import Derived.Stop.Joined
import Derived.Stop.LaidErr
import Derived.SevenTiedAt
set_option linter.unusedSimpArgs false
set_option linter.unusedVariables false
section
/- terms that the law reads of texts, pairs that it makes -/
namespace Go.Proofs.YtgcbnndbeoekgaaDoor
open Go Go.RowKit

theorem flat_pairs : ∀ (L : List ((Value × Value) × (List TN × List TN))) (i j : Nat) (h : i < L.length), j < 2 → (L.flatMap fun x => [x.1.1, x.1.2])[i * 2 + j]? = [L[i].1.1, L[i].1.2][j]?
  | [], i, j, h, _ => absurd h (Nat.not_lt_zero _)
  | x :: r, 0, j, h, hj => by
    match j, hj with
    | 0, _ => rfl
    | 1, _ => rfl
  | x :: r, i + 1, j, h, hj => by
    have ih := flat_pairs r i j (Nat.lt_of_succ_lt_succ h) hj
    rw [show (i + 1) * 2 + j = i * 2 + j + 1 + 1 by omega]
    exact ih
theorem pairs_row {w : World} {F : Nat → Prop} {q : Nat} (L : List ((Value × Value) × (List TN × List TN))) (hr : ∀ x ∈ L, IsRow 3 ETN w F x.1.1 x.2.1 ∧ IsRow 3 ETN w F x.1.2 x.2.2) (hq : Blk w q 45 (L.flatMap fun x => [x.1.1, x.1.2]).toArray) (hF : F q) :
    RowOf 2 EPair w F (some ⟨q, 0, none⟩) (L.map (·.2)) := by
  refine ⟨fun _ => ⟨q, 0, rfl, hF⟩, fun i hi => ?_⟩
  have hi' : i < L.length := by simpa using hi
  refine ⟨[L[i].1.1, L[i].1.2], rfl, ⟨_, _, rfl, ?_, ?_⟩, fun b off hA j hj => ?_⟩
  · rw [List.getElem_map]; exact (hr _ (List.getElem_mem hi')).1
  · rw [List.getElem_map]; exact (hr _ (List.getElem_mem hi')).2
  · cases hA
    rw [Nat.zero_add, hq.cell, List.getElem?_toArray]
    exact flat_pairs L i j hi' hj
end Go.Proofs.YtgcbnndbeoekgaaDoor
end
section
/- Solve of pairs that the law makes of trees -/
namespace Go.Proofs.YtgcbnndbeoekgaaDoor
open Go Go.RowKit

theorem usolve_flats (L : List ((Value × Value) × (Fo × Fo))) (w : World) (q c : Nat) (hq : Blk w q 45 (L.flatMap fun x => [x.1.1, x.1.2]).toArray) (hql : q < w.heap.size)
    (hr : ∀ x ∈ L, IsRow 3 ETN w (fun b => b < w.heap.size) x.1.1 (x.2.1.flat 0) ∧ IsRow 3 ETN w (fun b => b < w.heap.size) x.1.2 (x.2.2.flat 0)) (hok : ∀ x ∈ L, OkT x.2.1 ∧ OkT x.2.2) (hlc : L.length ≤ c) (hc : c ≤ maxLen)
    (hsum : (pairLens (flats (L.map (·.2))) (flats (L.map (·.2))).length).sum ≤ 2000) {err at_ : Int} {out : List ABind} (hs : SolveSays (flats (L.map (·.2))) err at_ out) :
    Calls Tryd.prog 18 #[.slice (some ⟨q, 0, none⟩) L.length c] w fun e w' => ∃ v, e = .returned (.tuple #[v, .int .i64 at_, .int .i64 err]) ∧ IsRow 2 EBind w' (fun b => b < w'.heap.size) v out ∧ Below w.heap.size w w' := by
  have e : (L.map fun x => (x.1, (x.2.1.flat 0, x.2.2.flat 0))).map (·.2) = flats (L.map (·.2)) := by
    unfold flats
    rw [List.map_map, List.map_map]
    rfl
  have e2 : (L.map fun x => (x.1, (x.2.1.flat 0, x.2.2.flat 0))).flatMap (fun x => [x.1.1, x.1.2]) = L.flatMap fun x => [x.1.1, x.1.2] := by
    rw [List.flatMap_map]
  have h1 := pairs_row (w := w) (F := fun b => b < w.heap.size) (q := q) (L.map fun x => (x.1, (x.2.1.flat 0, x.2.2.flat 0))) (fun x hx => by
    obtain ⟨y, hy, rfl⟩ := List.mem_map.1 hx
    exact hr y hy) (by rw [e2]; exact hq) hql
  rw [e] at h1
  have hl : (flats (L.map (·.2))).length = L.length := by unfold flats; simp
  have h2 := usolve_any (some ⟨q, 0, none⟩) c (flats (L.map (·.2))) w (fun b => b < w.heap.size) (fun b h => h) h1 (by rw [hl]; exact hlc) hc (fun p hp => by
    obtain ⟨y, hy, rfl⟩ := List.mem_map.1 hp
    obtain ⟨x, hx, rfl⟩ := List.mem_map.1 hy
    exact ⟨fun t ht => (nodeR_small (flat_nodeR _ 0 (hok x hx).1.2.1 t ht)).1, fun t ht => (nodeR_small (flat_nodeR _ 0 (hok x hx).2.2.1 t ht)).1⟩) (fun _ k o h => Nat.le_trans h.few hsum)
  rw [hl] at h2
  refine h2.mono ?_
  rintro e w' ⟨err', at', out', v, hs', rfl, hrow, hb⟩
  obtain ⟨rfl, rfl, rfl⟩ := hs'.same hs
  exact ⟨v, rfl, hrow.keep EBind.stays (Keep.refl _ _) (fun b h => h.2), hb⟩
end Go.Proofs.YtgcbnndbeoekgaaDoor
end
section
/- what Solve says of the awake pairs -/
namespace Go.Proofs.YtgcbnndbeoekgaaDoor
open Go Go.RowKit

theorem says_one : SolveSays (flats [(tF12, tF2a)]) 0 0 ([(1, tA), (2, tA)].map bindOf) :=
  says_ok (fun p hp => by simp at hp; subst hp; exact ⟨ok_tF12, ok_tF2a⟩) (by decide) (fun i hi => by
    match i, hi with
    | 0, _ => exact ⟨[], comes_nil⟩
    | 1, _ => exact ⟨_, comes_one⟩) comes_one
theorem says_two : SolveSays (flats [(tH 1, tA), (tH 1, tB)]) 150 ((1 : Nat) : Int) [] :=
  says_no (o := .clash) (fun p hp => by simp at hp; rcases hp with rfl | rfl; exact ⟨ok_tH1, ok_tA⟩; exact ⟨ok_tH1, ok_tB⟩) (by decide) (by decide) (fun i hi => by
    match i, hi with
    | 0, _ => exact ⟨[], comes_nil⟩
    | 1, _ => exact ⟨_, comes_1a⟩) comes_two (fun bs e => by cases e) ⟨rfl, rfl⟩
theorem says_three : SolveSays (flats [(tH 1, tF1)]) 151 ((0 : Nat) : Int) [] :=
  says_no (o := .occurs) (fun p hp => by simp at hp; subst hp; exact ⟨ok_tH1, ok_tF1⟩) (by decide) (by decide) (fun i hi => by
    match i, hi with
    | 0, _ => exact ⟨[], comes_nil⟩) comes_three (fun bs e => by cases e) ⟨rfl, rfl⟩
theorem sum_one : (pairLens (flats [(tF12, tF2a)]) (flats [(tF12, tF2a)]).length).sum ≤ 2000 := by decide
theorem sum_two : (pairLens (flats [(tH 1, tA), (tH 1, tB)]) (flats [(tH 1, tA), (tH 1, tB)]).length).sum ≤ 2000 := by decide
theorem sum_three : (pairLens (flats [(tH 1, tF1)]) (flats [(tH 1, tF1)]).length).sum ≤ 2000 := by decide
/-- the texts -/
theorem txt_F12 : tF12.txt false = [102, 40, 63, 49, 44, 63, 50, 41] := by decide +kernel
theorem txt_F2a : tF2a.txt false = [102, 40, 63, 50, 44, 97, 41] := by decide +kernel
theorem txt_H1 : (tH 1).txt false = [63, 49] := by decide +kernel
theorem txt_A : tA.txt false = [97] := by decide +kernel
theorem txt_B : tB.txt false = [98] := by decide +kernel
theorem txt_F1 : tF1.txt false = [102, 40, 63, 49, 41] := by decide +kernel
theorem txt_G23 : tG23.txt false = [103, 40, 63, 50, 44, 63, 51, 41] := by decide +kernel
end Go.Proofs.YtgcbnndbeoekgaaDoor
end
section
/- the awake term with its bound applied -/
namespace Go.Proofs.YtgcbnndbeoekgaaDoor
open Go Go.RowKit

def bdA : List ABind := [(1, tA), (2, tA)].map bindOf
def tGa3 : Fo := .app bG (.app bA .nil (.hole 3 .nil)) .nil
theorem wf_one : WfE [(tF12, tF2a)] := fun p hp => by simp at hp; subst hp; exact ⟨ok_tF12.2.1, ok_tF2a.2.1⟩
theorem sub_G23 : subOf bdA (tG23.flat 0) = tGa3 := by
  unfold subOf bdA
  rw [bsOf_map wf_one comes_one, treeOf_flat ok_tG23.1 ok_tG23.2.1 ok_tG23.2.2]
  rfl
theorem apply_G23 : applyE bdA (tG23.flat 0) = 0 ∧ applyL bdA (tG23.flat 0) = tGa3.flat 0 := by
  have h1 : MayP bdA := ok_may wf_one comes_one
  have h2 : rightI (tG23.flat 0) = 0 := right_tree ok_tG23.1 ok_tG23.2.1 ok_tG23.2.2
  have h3 : ¬ 256 < (subOf bdA (tG23.flat 0)).size := by rw [sub_G23]; decide
  unfold applyE applyL
  rw [if_pos h1, if_pos h2, if_neg h3, if_pos ⟨h1, h2, h3⟩, sub_G23]
  exact ⟨rfl, rfl⟩
theorem ok_tGa3 : OkT tGa3 := ⟨rfl, ⟨right_bG, ⟨right_bA, trivial, by decide, by decide, trivial⟩, trivial⟩, by decide⟩
theorem txt_Ga3 : tGa3.txt false = [103, 40, 97, 44, 63, 51, 41] := by decide +kernel
end Go.Proofs.YtgcbnndbeoekgaaDoor
end
section
/- a term that the law reads of a text -/
namespace Go.Proofs.YtgcbnndbeoekgaaDoor
open Go Go.RowKit

theorem term_set {w : World} {q : Nat} {v x u : Value} {l : List TN} (h : IsRow 3 ETN w (fun b => b < w.heap.size) v l) {A : Option Addr} {n c : Nat} (hx : x = .slice A n c) (hq : Blk w q 24 #[x]) : IsRow 3 ETN (w.setCell ⟨q, 0, none⟩ u) (fun b => b < (w.setCell ⟨q, 0, none⟩ u).heap.size) v l := by
  subst hx
  obtain ⟨Ac, cc, hc0, hc1, hc2, hc3⟩ := h
  exact ⟨Ac, cc, hc0, hc1, hc2, (nodes_avoid hc3 (slice_noint hq)).keep ETN.stays (keep_far (p := ⟨q, 0, none⟩) (fun b h => h.2) _) (fun b h => by simpa using h.1)⟩

set_option maxRecDepth 100000 in
set_option maxHeartbeats 1000000 in
theorem uread_any (T : Fo) (hT : OkT T) (s : ByteArray) (hs : s.data.toList = T.txt false) (hsz : s.size ≤ 1000) (w : World) :
    Calls Tryd.prog 30 #[.string s] w fun e w' => ∃ v, e = .returned (.agg #[v]) ∧ IsRow 3 ETN w' (fun b => b < w'.heap.size) v (T.flat 0) ∧ Below w.heap.size w w' := by
  have HRD := Lib.hid (reads_one hT.1 hT.2.1 hT.2.2 hs)
  have HX0 := Lib.hid (Blk.new w 24 #[.slice none 0 0])
  have HB0 : Hid (Below w.heap.size w (w.alloc (.cells #[.slice none 0 0] 24))) := Lib.hid ((Below.refl _ _).alloc (Nat.le_refl _) _)
  go_enter Tryd.func30, Tryd.ntmps30
  go_wp2_with fail
  refine (parse_any s (by omega) _).mono ?_
  rintro _ w1 ⟨v, i, err, l, rfl, hS, hb1, hr1⟩
  obtain ⟨rfl, rfl, rfl⟩ := hS.same (.inl ⟨rfl, rfl, HRD.out⟩)
  have HX1 := Lib.hid (HX0.out.below hb1 HX0.out.lt)
  have HB1 := Lib.hid (HB0.out.trans (hb1.mono HB0.out.size))
  have HR1 := Lib.hid hr1
  obtain ⟨S, c, rfl, _, _, _⟩ := hr1
  obtain ⟨n, hn⟩ : ∃ n, (T.flat 0).length = n := ⟨_, rfl⟩
  have HN := Lib.hid hn
  rw [hn] at HR1 ⊢
  have x0 := HX1.out.cell 0
  have xf := HX1.out.frozen 0
  have xl := HX1.out.lt
  simp at x0
  clear hS hb1 HX0 HB0 hn
  have HR3 := Lib.hid (term_set (u := .slice S n c) HR1.out rfl HX1.out)
  have HR4 := Lib.hid (HR3.out.keep (w' := (w1.setCell ⟨w.heap.size, 0, none⟩ (.slice S n c)).alloc (.cells #[.slice S n c] 24)) (F' := fun b => b < ((w1.setCell ⟨w.heap.size, 0, none⟩ (.slice S n c)).alloc (.cells #[.slice S n c] 24)).heap.size) ETN.stays (Keep.alloc _ _ (fun _ h => h)) (fun b h => by simp at h ⊢; omega))
  have HX4 := Lib.hid ((HX1.out.set_ 0 (.slice S n c)).alloc (.cells #[.slice S n c] 24))
  have HB4 : Hid (Below w.heap.size w ((w1.setCell ⟨w.heap.size, 0, none⟩ (.slice S n c)).alloc (.cells #[.slice S n c] 24))) := Lib.hid ((HB1.out.setCell (p := ⟨w.heap.size, 0, none⟩) (Nat.le_refl _) _).alloc (by simpa using HB1.out.size) _)
  go_wp2
  have r0 := HX4.out.cell 0
  simp at r0
  refine bodyPost_ret (v := .agg #[.slice S n c]) (by simp [results, Tryd.results30, go_sem, r0]) rfl ?_
  exact ⟨_, rfl, HR4.out, HB4.out⟩
end Go.Proofs.YtgcbnndbeoekgaaDoor
end
section
/- the text f(a,) is refused at its fifth byte -/
namespace Go.Proofs.YtgcbnndbeoekgaaDoor
open Go Go.RowKit

theorem says_bad : Says ⟨#[102, 40, 97, 44, 41]⟩ 4 2 [] := .inr ⟨by decide, rfl, 4, rfl, 8, by kernel_rfl⟩
end Go.Proofs.YtgcbnndbeoekgaaDoor
end
section
/- the awake terms: awake answers true -/
namespace Go.Proofs.YtgcbnndbeoekgaaDoor
open Go Go.RowKit Go.Maps

theorem row_lift {x y : World} {v : Value} {l : List TN} (h : IsRow 3 ETN x (fun b => b < x.heap.size) v l) (hb : Below x.heap.size x y) : IsRow 3 ETN y (fun b => b < y.heap.size) v l :=
  h.keep ETN.stays (Keep.below hb (fun b h => h)) (fun b h => Nat.lt_of_lt_of_le h hb.size)
theorem bind_lift {x y : World} {v : Option Addr} {l : List ABind} (h : RowOf 2 EBind x (fun b => b < x.heap.size) v l) (hb : Below x.heap.size x y) : RowOf 2 EBind y (fun b => b < y.heap.size) v l :=
  h.keep EBind.stays (Keep.below hb (fun b h => h)) (fun b h => Nat.lt_of_lt_of_le h hb.size)
theorem says_two' : SolveSays (flats [(tH 1, tA), (tH 1, tB)]) 150 1 [] := says_two
theorem says_three' : SolveSays (flats [(tH 1, tF1)]) 151 0 [] := says_three
theorem right_nil : rightI [] = 2 := rightI_bad (by decide) fun hg => by
  have h2 := treeOf_ok (rightI_good (l := []) (by decide) hg)
  have h3 := congrArg List.length h2.2.2.1
  rw [Fo.flat_len] at h3
  have h4 := Fo.one_size h2.1
  have h3 : 0 = (treeOf []).size := h3
  omega
theorem small_names {T : Fo} (h : OkT T) : ∀ t ∈ T.flat 0, t.name.size ≤ 9223372036854775807 := fun t ht => node_small (flat_nodeR T 0 h.2.1 t ht)
theorem small_bdA : ∀ x ∈ bdA, ∀ t ∈ x.term, t.name.size ≤ 9223372036854775807 ∧ InI t.var := fun x hx t ht => by
  unfold bdA at hx
  obtain ⟨p, hp, rfl⟩ := List.mem_map.1 hx
  simp at hp
  rcases hp with rfl | rfl <;> exact nodeR_small (flat_nodeR tA 0 ok_tA.2.1 t ht)

set_option maxRecDepth 100000 in
set_option maxHeartbeats 16000000 in
theorem awake_any : AwakeOk := fun w ht => by
  have HTB := Lib.hid ht
  clear ht
  go_enter Tryd.func13, Tryd.ntmps13
  go_wp2_with fail
  refine (uread_any tF12 ok_tF12 _ (by rw [txt_F12]) (by decide) _).mono ?_
  rintro _ w1 ⟨v1, rfl, hr, hb⟩
  have Hv1 := Lib.hid hr
  have HB := Lib.hid hb
  clear hr hb
  go_wp2_with fail
  refine (uread_any tF2a ok_tF2a _ (by rw [txt_F2a]) (by decide) _).mono ?_
  rintro _ w2 ⟨v2, rfl, hr, hb⟩
  have Hv2 := Lib.hid hr
  replace Hv1 := Lib.hid (row_lift Hv1.out hb)
  replace HB := Lib.hid (HB.out.trans (hb.mono HB.out.size))
  clear hr hb
  obtain ⟨u, hu⟩ : ∃ u : World, w2.alloc (.cells #[v1, v2] 45) = u := ⟨_, rfl⟩
  have HBU : Hid (Below w2.heap.size w2 u) := Lib.hid (by rw [← hu]; exact (Below.refl _ _).alloc (Nat.le_refl _) _)
  have HQ : Hid (Blk u w2.heap.size 45 #[v1, v2]) := Lib.hid (by rw [← hu]; exact Blk.new _ _ _)
  have HUE := Lib.hid hu
  clear hu
  replace Hv1 := Lib.hid (row_lift Hv1.out HBU.out)
  replace Hv2 := Lib.hid (row_lift Hv2.out HBU.out)
  replace HB := Lib.hid (HB.out.trans (HBU.out.mono HB.out.size))
  have HS := Lib.hid (usolve_flats [((v1, v2), (tF12, tF2a))] u w2.heap.size 1 HQ.out HQ.out.lt (fun x hx => by
      simp at hx
      rcases hx with rfl
      · exact ⟨Hv1.out, Hv2.out⟩
    ) (fun x hx => by
      simp at hx
      rcases hx with rfl
      · exact ⟨ok_tF12, ok_tF2a⟩
    ) (Nat.le_refl _) (by decide) sum_one says_one)
  go_wp2_with fail
  (try rw [HUE.out])
  refine HS.out.mono ?_
  rintro _ w3 ⟨vb, rfl, hr, hb⟩
  clear Hv1 Hv2
  replace HB := Lib.hid (HB.out.trans (hb.mono HB.out.size))
  obtain ⟨Avb, cvb, rfl, y1, y2, y3⟩ := hr
  have Hvb := Lib.hid y3
  have HvbC := Lib.hid (And.intro y1 y2)
  clear y1 y2 y3
  clear hb HS HUE HQ HBU
  change Hid (2 ≤ cvb ∧ cvb ≤ maxLen) at HvbC
  change Hid (RowOf 2 EBind w3 (fun b => b < w3.heap.size) Avb bdA) at Hvb
  rw [show (List.map bindOf [(1, tA), (2, tA)]).length = 2 from rfl]
  go_wp2_with fail
  refine (uread_any (tH 1) ok_tH1 _ (by rw [txt_H1]) (by decide) _).mono ?_
  rintro _ w4 ⟨v3, rfl, hr, hb⟩
  have Hv3 := Lib.hid hr
  replace Hvb := Lib.hid (bind_lift Hvb.out hb)
  replace HB := Lib.hid (HB.out.trans (hb.mono HB.out.size))
  clear hr hb
  go_wp2_with fail
  refine (uread_any tA ok_tA _ (by rw [txt_A]) (by decide) _).mono ?_
  rintro _ w5 ⟨v4, rfl, hr, hb⟩
  have Hv4 := Lib.hid hr
  replace Hv3 := Lib.hid (row_lift Hv3.out hb)
  replace Hvb := Lib.hid (bind_lift Hvb.out hb)
  replace HB := Lib.hid (HB.out.trans (hb.mono HB.out.size))
  clear hr hb
  go_wp2_with fail
  refine (uread_any (tH 1) ok_tH1 _ (by rw [txt_H1]) (by decide) _).mono ?_
  rintro _ w6 ⟨v5, rfl, hr, hb⟩
  have Hv5 := Lib.hid hr
  replace Hv3 := Lib.hid (row_lift Hv3.out hb)
  replace Hv4 := Lib.hid (row_lift Hv4.out hb)
  replace Hvb := Lib.hid (bind_lift Hvb.out hb)
  replace HB := Lib.hid (HB.out.trans (hb.mono HB.out.size))
  clear hr hb
  go_wp2_with fail
  refine (uread_any tB ok_tB _ (by rw [txt_B]) (by decide) _).mono ?_
  rintro _ w7 ⟨v6, rfl, hr, hb⟩
  have Hv6 := Lib.hid hr
  replace Hv3 := Lib.hid (row_lift Hv3.out hb)
  replace Hv4 := Lib.hid (row_lift Hv4.out hb)
  replace Hv5 := Lib.hid (row_lift Hv5.out hb)
  replace Hvb := Lib.hid (bind_lift Hvb.out hb)
  replace HB := Lib.hid (HB.out.trans (hb.mono HB.out.size))
  clear hr hb
  obtain ⟨u, hu⟩ : ∃ u : World, w7.alloc (.cells #[v3, v4, v5, v6] 45) = u := ⟨_, rfl⟩
  have HBU : Hid (Below w7.heap.size w7 u) := Lib.hid (by rw [← hu]; exact (Below.refl _ _).alloc (Nat.le_refl _) _)
  have HQ : Hid (Blk u w7.heap.size 45 #[v3, v4, v5, v6]) := Lib.hid (by rw [← hu]; exact Blk.new _ _ _)
  have HUE := Lib.hid hu
  clear hu
  replace Hv3 := Lib.hid (row_lift Hv3.out HBU.out)
  replace Hv4 := Lib.hid (row_lift Hv4.out HBU.out)
  replace Hv5 := Lib.hid (row_lift Hv5.out HBU.out)
  replace Hv6 := Lib.hid (row_lift Hv6.out HBU.out)
  replace Hvb := Lib.hid (bind_lift Hvb.out HBU.out)
  replace HB := Lib.hid (HB.out.trans (HBU.out.mono HB.out.size))
  have HS := Lib.hid (usolve_flats [((v3, v4), (tH 1, tA)), ((v5, v6), (tH 1, tB))] u w7.heap.size 2 HQ.out HQ.out.lt (fun x hx => by
      simp at hx
      rcases hx with rfl | rfl
      · exact ⟨Hv3.out, Hv4.out⟩
      · exact ⟨Hv5.out, Hv6.out⟩
    ) (fun x hx => by
      simp at hx
      rcases hx with rfl | rfl
      · exact ⟨ok_tH1, ok_tA⟩
      · exact ⟨ok_tH1, ok_tB⟩
    ) (Nat.le_refl _) (by decide) sum_two says_two')
  go_wp2_with fail
  (try rw [HUE.out])
  refine HS.out.mono ?_
  rintro _ w8 ⟨vc, rfl, hr, hb⟩
  clear Hv3 Hv4 Hv5 Hv6
  replace Hvb := Lib.hid (bind_lift Hvb.out hb)
  replace HB := Lib.hid (HB.out.trans (hb.mono HB.out.size))
  clear hr
  clear hb HS HUE HQ HBU
  go_wp2_with fail
  refine (uread_any (tH 1) ok_tH1 _ (by rw [txt_H1]) (by decide) _).mono ?_
  rintro _ w9 ⟨v7, rfl, hr, hb⟩
  have Hv7 := Lib.hid hr
  replace Hvb := Lib.hid (bind_lift Hvb.out hb)
  replace HB := Lib.hid (HB.out.trans (hb.mono HB.out.size))
  clear hr hb
  go_wp2_with fail
  refine (uread_any tF1 ok_tF1 _ (by rw [txt_F1]) (by decide) _).mono ?_
  rintro _ w10 ⟨v8, rfl, hr, hb⟩
  have Hv8 := Lib.hid hr
  replace Hv7 := Lib.hid (row_lift Hv7.out hb)
  replace Hvb := Lib.hid (bind_lift Hvb.out hb)
  replace HB := Lib.hid (HB.out.trans (hb.mono HB.out.size))
  clear hr hb
  obtain ⟨u, hu⟩ : ∃ u : World, w10.alloc (.cells #[v7, v8] 45) = u := ⟨_, rfl⟩
  have HBU : Hid (Below w10.heap.size w10 u) := Lib.hid (by rw [← hu]; exact (Below.refl _ _).alloc (Nat.le_refl _) _)
  have HQ : Hid (Blk u w10.heap.size 45 #[v7, v8]) := Lib.hid (by rw [← hu]; exact Blk.new _ _ _)
  have HUE := Lib.hid hu
  clear hu
  replace Hv7 := Lib.hid (row_lift Hv7.out HBU.out)
  replace Hv8 := Lib.hid (row_lift Hv8.out HBU.out)
  replace Hvb := Lib.hid (bind_lift Hvb.out HBU.out)
  replace HB := Lib.hid (HB.out.trans (HBU.out.mono HB.out.size))
  have HS := Lib.hid (usolve_flats [((v7, v8), (tH 1, tF1))] u w10.heap.size 1 HQ.out HQ.out.lt (fun x hx => by
      simp at hx
      rcases hx with rfl
      · exact ⟨Hv7.out, Hv8.out⟩
    ) (fun x hx => by
      simp at hx
      rcases hx with rfl
      · exact ⟨ok_tH1, ok_tF1⟩
    ) (Nat.le_refl _) (by decide) sum_three says_three')
  go_wp2_with fail
  (try rw [HUE.out])
  refine HS.out.mono ?_
  rintro _ w11 ⟨vd, rfl, hr, hb⟩
  clear Hv7 Hv8
  replace Hvb := Lib.hid (bind_lift Hvb.out hb)
  replace HB := Lib.hid (HB.out.trans (hb.mono HB.out.size))
  clear hr
  clear hb HS HUE HQ HBU
  go_wp2_with fail
  refine (uread_any tG23 ok_tG23 _ (by rw [txt_G23]) (by decide) _).mono ?_
  rintro _ w12 ⟨v9, rfl, hr, hb⟩
  have Hv9 := Lib.hid hr
  replace Hvb := Lib.hid (bind_lift Hvb.out hb)
  replace HB := Lib.hid (HB.out.trans (hb.mono HB.out.size))
  clear hr hb
  obtain ⟨A9, c9, rfl, y1, y2, y3⟩ := Hv9.out
  have HAP : Hid (Calls Tryd.prog 19 #[.slice Avb 2 cvb, .agg #[.slice A9 (tG23.flat 0).length c9]] w12 (TermRes w12 0 (tGa3.flat 0))) := Lib.hid (by
    have h := uapply_any Avb cvb bdA A9 c9 (tG23.flat 0) w12 (fun b => b < w12.heap.size) (fun b h => h) y3 Hvb.out y1 y2 HvbC.out.1 HvbC.out.2 (by decide) (small_names ok_tG23) small_bdA
    rw [apply_G23.1, apply_G23.2] at h
    exact h)
  clear y1 y2 y3 Hv9
  go_wp2_with fail
  refine HAP.out.mono ?_
  rintro _ wa ⟨vx, rfl, hb, hr⟩
  have HX := Lib.hid hr
  replace Hvb := Lib.hid (bind_lift Hvb.out hb)
  replace HB := Lib.hid (HB.out.trans (hb.mono HB.out.size))
  clear hb hr HAP
  obtain ⟨Ax, cx, rfl, x1, x2, x3⟩ := HX.out
  have HXC := Lib.hid (And.intro x1 x2)
  obtain ⟨n, hn⟩ : ∃ n, (tGa3.flat 0).length = n := ⟨_, rfl⟩
  have HN := Lib.hid hn
  rw [hn] at HX ⊢
  clear x1 x2 x3 hn
  obtain ⟨u, hu⟩ : ∃ u : World, wa.alloc (.cells #[.slice Ax n cx] 24) = u := ⟨_, rfl⟩
  have HBU : Hid (Below wa.heap.size wa u) := Lib.hid (by rw [← hu]; exact (Below.refl _ _).alloc (Nat.le_refl _) _)
  have HQ : Hid (Blk u wa.heap.size 24 #[.slice Ax n cx]) := Lib.hid (by rw [← hu]; exact Blk.new _ _ _)
  have HUE := Lib.hid hu
  clear hu
  replace HX := Lib.hid (row_lift HX.out HBU.out)
  replace Hvb := Lib.hid (bind_lift Hvb.out HBU.out)
  replace HB := Lib.hid (HB.out.trans (HBU.out.mono HB.out.size))
  go_wp2_with fail
  (try rw [HUE.out])
  refine (parse_any _ (by decide) _).mono ?_
  rintro _ wp ⟨vz, zi, ze, zl, rfl, hs, hb, hr⟩
  obtain ⟨rfl, rfl, rfl⟩ := hs.same says_bad
  replace HX := Lib.hid (row_lift HX.out hb)
  replace Hvb := Lib.hid (bind_lift Hvb.out hb)
  replace HB := Lib.hid (HB.out.trans (hb.mono HB.out.size))
  replace HQ := Lib.hid (HQ.out.below hb HQ.out.lt)
  obtain ⟨Az, cz, rfl, _, _, _⟩ := hr
  clear hs hb HBU HUE
  obtain ⟨u2, hu⟩ : ∃ u : World, wp.alloc (.cells #[.slice Az 0 cz] 24) = u := ⟨_, rfl⟩
  have HBU : Hid (Below wp.heap.size wp u2) := Lib.hid (by rw [← hu]; exact (Below.refl _ _).alloc (Nat.le_refl _) _)
  replace HQ : Hid (Blk u2 wa.heap.size 24 #[.slice Ax n cx]) := Lib.hid (HQ.out.below HBU.out HQ.out.lt)
  have HUE := Lib.hid hu
  clear hu
  replace HX := Lib.hid (row_lift HX.out HBU.out)
  replace Hvb := Lib.hid (bind_lift Hvb.out HBU.out)
  replace HB := Lib.hid (HB.out.trans (HBU.out.mono HB.out.size))
  obtain ⟨b0, off0, S0, k0, he0, hbF, d0, d1, hk1, hk2, hrow⟩ := bind_at Hvb.out (i := 0) (by decide)
  obtain ⟨b1, off1, S1, k1, he1, _, e0, _, _, _, _⟩ := bind_at Hvb.out (i := 1) (by decide)
  subst he0
  injection he1 with he1
  injection he1 with g1 g2 _
  subst g1; subst g2
  have HROW : Hid (RowOf 3 ETN u2 (fun b => b < u2.heap.size) S0 (tA.flat 0)) := Lib.hid hrow
  have HPX : Hid (∀ w', Below u2.heap.size u2 w' → Calls Tryd.prog 10 #[.agg #[.slice Ax n cx]] w' fun e w2 => e = .returned (.string ⟨#[103, 40, 97, 44, 63, 51, 41]⟩) ∧ Below w'.heap.size w' w2) := Lib.hid (fun w' hb => by
    obtain ⟨A', c', he, z1, z2, z3⟩ := HX.out
    injection he with e1 _ e3
    subst e1; subst e3
    have h := uprint_good Ax cx tGa3 w' (fun b => b < w'.heap.size) (fun b h => h) ok_tGa3.1 ok_tGa3.2.1 ok_tGa3.2.2 z1 z2 (z3.keep ETN.stays (Keep.below hb (fun b h => h)) (fun b h => Nat.lt_of_lt_of_le h hb.size)) (right_tree ok_tGa3.1 ok_tGa3.2.1 ok_tGa3.2.2) (small_names ok_tGa3) (Tab.below (Tab.below HTB.out HB.out) hb)
    rw [HN.out, txt_Ga3] at h
    exact h)
  have HPA : Hid (∀ w', Below u2.heap.size u2 w' → Calls Tryd.prog 10 #[.agg #[.slice S0 1 k0]] w' fun e w2 => e = .returned (.string ⟨#[97]⟩) ∧ Below w'.heap.size w' w2) := Lib.hid (fun w' hb => by
    have h := uprint_good S0 k0 tA w' (fun b => b < w'.heap.size) (fun b h => h) ok_tA.1 ok_tA.2.1 ok_tA.2.2 hk1 hk2 (HROW.out.keep ETN.stays (Keep.below hb (fun b h => h)) (fun b h => Nat.lt_of_lt_of_le h hb.size)) (right_tree ok_tA.1 ok_tA.2.1 ok_tA.2.2) (small_names ok_tA) (Tab.below (Tab.below HTB.out HB.out) hb)
    rw [txt_A] at h
    exact h)
  have HRN : Hid (∀ w', Calls Tryd.prog 9 #[.agg #[.slice none 0 0]] w' fun e w2 => e = .returned (.int .i64 2) ∧ Below w'.heap.size w' w2) := Lib.hid (fun w' =>
    right_nil ▸ uright_any none 0 [] w' (fun b => b < w'.heap.size) (fun b h => h) (RowOf.nil none) (Nat.le_refl _) (by decide) (fun t h => by cases h))
  have d0 : u2.cell? ⟨b0, off0, none⟩ = some (.int .i64 1) := d0
  have e0 : u2.cell? ⟨b0, off0 + 2, none⟩ = some (.int .i64 2) := e0
  have HD1 : Hid (u2.cell? ⟨b0, off0 + 1, none⟩ = some (.slice S0 1 k0)) := Lib.hid d1
  have HBF := Lib.hid hbF
  have q0 := HQ.out.cell 0
  have ql := HQ.out.lt
  simp at q0
  clear d1 hk1 hk2 hrow HX Hvb HvbC HXC
  go_upto_region 6 with fail
  rw [HUE.out]
  go_wp2_with fail

  refine (HPX.out _ (Below.refl _ _)).mono ?_
  rintro _ wy ⟨rfl, hb⟩
  have HBY := Lib.hid hb
  have d1 := (hb.cell (p := ⟨b0, off0 + 1, none⟩) HBF.out).trans HD1.out
  clear hb q0 ql d0 e0 HUE
  go_wp2_with fail
  refine (HPA.out _ HBY.out).mono ?_
  rintro _ wz ⟨rfl, hb⟩
  have HBZ := Lib.hid (HBY.out.trans (hb.mono HBY.out.size))
  clear hb d1
  go_wp2_with fail
  refine (HRN.out _).mono ?_
  rintro _ wq ⟨rfl, hb⟩
  have HBQ := Lib.hid (HB.out.trans ((HBZ.out.trans (hb.mono HBZ.out.size)).mono HB.out.size))
  clear hb
  go_wp2
  go_ret
  exact ⟨rfl, HBQ.out⟩
end Go.Proofs.YtgcbnndbeoekgaaDoor
end
section
/- PROVED: UnifyBack answers true for every input, and its arguments read afterwards as they read before. No condition but that the listed variables of the library read as the program's text lays them, which the card ties. -/
namespace Go.Proofs.YtgcbnndbeoekgaaDoor
open Go.ChangeShapes Go.WideShapes Go.ChangeAt Go.RowKit Go.Deep

theorem Tryd.own : ownKnob Tryd.prog.godebug = none := by kernel_rfl
theorem Tryd.laidOut : laidOutB Tryd.prog = true := by kernel_rfl
theorem pow10_data : (Rows.laid_internal_strconv_uint64pow10 : DataW Unit) = Lib.tabData .u64 Lib.pow10Tab := by kernel_rfl
theorem gPow : Tryd.prog.globalNamed "internal/strconv.uint64pow10" = some 0 := by kernel_rfl
theorem gPowType : (Tryd.prog.globals[0]?).map (·.type) = some 137 := by kernel_rfl
def laid3 : List (String × DataW Unit) := [("math/bits.deBruijn32tab", Rows.laid_math_bits_deBruijn32tab), ("math/bits.deBruijn64tab", Rows.laid_math_bits_deBruijn64tab), ("internal/strconv.uint64pow10", Rows.laid_internal_strconv_uint64pow10)]
/-- what the condition gives the walks -/
theorem tab_of_laid {W : World} (h : laidMetH Tryd.prog laid3 W) : Lib.TabIs Tryd.prog W "internal/strconv.uint64pow10" .u64 Lib.pow10Tab := by
  rw [MakeChecks.laidMetH_plain _ _ _ (by kernel_rfl)] at h
  have h3 := (laidMet.tail (laidMet.tail h))
  rw [pow10_data] at h3
  exact Lib.tabIs_of_head gPow gPowType Tryd.underlying137 Tryd.underlying109 (by kernel_rfl) (by kernel_rfl) h3
/-- the door's own heap meets the condition -/
theorem door_met (os : Os) (args : Array Value) : laidMetH Tryd.prog laid3 ((World.doorLaid Tryd.prog 400 os).forCall (fun _ _ => 0) ⟨#[], args, []⟩).memory :=
  laidMetH_of_parts3 (fuel := 8) (laidMet_of_run' 8 (by kernel_rfl) (by kernel_rfl)) (by kernel_rfl) (by kernel_rfl)

set_option maxRecDepth 100000 in
theorem lifted (os : Os) (started : os.Started) (H : Type) (enc : TypeId × Value → H) :
    ReturnsInHanded {} Tryd.checked os 4 .any (fun w args => (Rows.unifyBackSpec.pre enc Tryd.prog Tryd.f4 [] false w args ∧ laidMetH Tryd.prog laid3 w) ∧ sizedMet enc Tryd.prog Tryd.f4 (OpenSpec.ofChange Rows.unifyBackSpec) false w args)
      (Rows.unifyBackSpec.post enc Tryd.prog Tryd.f4 false true false false) := by
  refine returnsInHanded_of_change_and (C := Tryd.checked) (X := fun w _ => laidMetH Tryd.prog laid3 w) (fun _ _ _ hh h => h.of_heap hh) Tryd.own started (by kernel_rfl) Tryd.func4
    (ChangeSpec.witness_shaped (enc := enc) (C := Tryd.checked) (os := os) (X := fun w _ => laidMetH Tryd.prog laid3 w) false (World.doorLaid Tryd.prog 400 os) #[.agg #[.slice none 0 0], .string ⟨#[]⟩] 8 rfl (World.shaped_of_RefB (by kernel_rfl) (by kernel_rfl)) (by kernel_rfl) (by kernel_rfl) (by kernel_rfl) (door_met os _)) ?_
  intro W base args ds gs before hval0 hW _ hwt hL _
  have hval : ∀ (j : Nat) t v, Tryd.f4.params[j]? = some t → args[j]? = some v → Value.okWide Tryd.prog W .any base t v := hval0
  have hW' := hW
  obtain ⟨p, q, hA0, hV, rfl, hfz, hnd⟩ := hW
  have hA : DataW.TrodAll enc Tryd.prog W 0 (fun _ => true) true Tryd.f4.params.toList args.toList ds p := hA0
  have hwt : (DataW.weightsEach Tryd.prog (Tryd.f4.params.toList ++ Rows.unifyBackSpec.plain.varTypes Tryd.prog) (ds ++ gs)).all (· ≤ reachBytes) = true := hwt
  rw [Tryd.params4] at hA hval hwt
  obtain ⟨v0, v1, d0, d1, p0, p1, rfl, rfl, rfl, h0, h1⟩ := trodAll_two hA
  obtain ⟨rfl, rfl⟩ := trodVars_none hV
  obtain ⟨u0, l0, rfl, hl0, hz0⟩ := term_arg (hval 0 24 v0 rfl rfl) h0 (WtOK.args hwt (i := 0) rfl rfl)
  obtain ⟨s1, rfl, rfl, rfl, hz1⟩ := Go.ChangeMaps.open_string Tryd.underlying9 (hval 1 9 v1 rfl rfl) h1
  clear hA0 hval0
  simp only [List.append_nil] at hW'
  have hlt : ∀ x ∈ p0 ++ ([] : List MemPlace), x.block < W.heap.size := fun x hx => hW'.lt x (by simpa using hx)
  refine (backL_any awake_any u0 l0 s1 W hl0 hz0 (by unfold maxLen at hz1; exact hz1) (tab_of_laid hL)).mono fun e W' ⟨he, hbw⟩ => ?_
  subst he
  exact ⟨_, rfl, post_of_below (pa := p0 ++ ([] : List MemPlace)) (pv := []) hW' (fun _ _ _ => trodAll_mk1 (shut_bool Tryd.underlying4 _))
    (fun sp hsp => trodAll_mk2 (trod_behind Tryd.laidOut (by kernel_rfl) (of_decide_eq_true (by kernel_rfl)) h0 hbw (fun x hx => hlt x (by simp [hx])) sp (fun x hx => hsp x (by simp [hx]))) (Go.ChangeMaps.shut_string Tryd.underlying9 hz1))
    (fun _ _ => rfl) (by simp) hbw (ok_one (by kernel_rfl) rfl (okWide_bool_mk Tryd.underlying4 _))⟩

theorem unifyBack_row : Rows.UnifyBackSaid :=
  OpenClaim.holds_of_wide 4 Tryd.f4 rfl rfl rfl rfl rfl rfl rfl ⟨rfl, rfl, rfl, rfl, rfl⟩ rfl rfl rfl rfl rfl (by kernel_rfl) Tryd.func4 (by kernel_rfl)
    (of_decide_eq_true (by kernel_rfl)) (by unfold Func.isWrapper; rw [if_neg (of_decide_eq_false (by kernel_rfl))]; exact ⟨rfl, rfl⟩)
    (fun os started H enc _ => lifted os started H enc)
theorem unifyBack_holds : Rows.UnifyBackCardSaid :=
  Claim7.holds_tied_plain_at .later [] [.data, .data, .data] true (true, "b0d9cfdad5aef361cf89fb0443a34939ac291df95c06b08da7713b1971208b8e") false
    unifyBack_row (fun _ h => by cases h) (by kernel_rfl) (fun _ h => by cases h) unifyBack_row_tie rfl ⟨rfl, rfl⟩ (by kernel_rfl) rfl
    (fun f fn hf hfn => by
      obtain rfl : f = 4 := Option.some.inj ((show Tryd.prog.funcNamed "topiary/topiarylaw15.UnifyBack" = some 4 by kernel_rfl).symm.trans hf) |>.symm
      obtain rfl : fn = Tryd.f4 := (Option.some.inj (Tryd.func4.symm.trans hfn)).symm
      exact ⟨by kernel_rfl, fun j t ht => by
        rw [Tryd.params4] at ht
        have hm : t ∈ [24, 9] := by simpa using Array.mem_of_getElem? ht
        have hall : ([24, 9].all fun u => !Tryd.prog.wantsStandIn u) = true := by kernel_rfl
        exact (show Tryd.prog.wantsStandIn t = false by simpa using List.all_eq_true.1 hall t hm)⟩)
    (by kernel_rfl)
#print axioms unifyBack_holds
end Go.Proofs.YtgcbnndbeoekgaaDoor
end
