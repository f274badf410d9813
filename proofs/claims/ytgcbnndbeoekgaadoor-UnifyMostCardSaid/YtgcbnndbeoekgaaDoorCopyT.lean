import Derived.Test.YtgcbnndbeoekgaaDoorApplyP
import Derived.Test.YtgcbnndbeoekgaaDoorWide
import Derived.Test.YtgcbnndbeoekgaaDoorNodesX
set_option linter.unusedSimpArgs false
set_option linter.unusedVariables false
/- the document's copy of a term -/
namespace Go.Proofs.YtgcbnndbeoekgaaDoor
open Go Go.RowKit

theorem ints_map15 (l : List Int) : l.flatMap intCell = l.map (Value.int .i64) := by
  induction l with
  | nil => rfl
  | cons x r ih => rw [List.flatMap_cons, ih]; rfl
theorem own_base {w : World} {base base' : Nat} {e : TypeId} {size : Nat} {v : Value} {n : Nat} {xs : List Value} (h : w.ownsRow base e size v n xs) (hb : base' ≤ base) : w.ownsRow base' e size v n xs := by
  refine ⟨h.1, ?_⟩
  rcases h.2 with h0 | ⟨g, cap, cur, h1, h2, h3⟩
  · exact .inl h0
  · exact .inr ⟨g, cap, cur, h1, by omega, h3⟩

set_option maxRecDepth 100000 in
set_option maxHeartbeats 4000000 in
theorem rcopyT_any (A : Option Addr) (c : Nat) (l : List TN) (w : World) (F : Nat → Prop) (hF : ∀ b, F b → b < w.heap.size) (hr : RowOf 3 ETN w F A l) (hlc : l.length ≤ c) (hc : c ≤ maxLen) (hl : l.length ≤ 2932031007402) (hla : ∀ t ∈ l, t.args.length ≤ 17592186044416) :
    Calls Tryd.prog 34 #[.agg #[.slice A l.length c]] w fun e w' => ∃ v, e = .returned (.agg #[v]) ∧ IsRow 3 ETN w' (fun b => w.heap.size ≤ b ∧ b < w'.heap.size) v l ∧ Below w.heap.size w w' := by
  have HR := Lib.hid hr; have HLA := Lib.hid hla
  unfold maxLen at hc
  clear hr hla
  go_enter Tryd.func34, Tryd.ntmps34
  go_upto_region 3 with fail
  go_loopg [4] l.length (fun g s4 wx => ∃ (i : Nat) (v : Value), s4 = .int .i64 i ∧ g = l.length - i ∧ i ≤ l.length ∧ Below w.heap.size w wx ∧ Blk wx w.heap.size 24 #[.slice A l.length c] ∧ Blk wx (w.heap.size + 1) 24 #[.slice none 0 0] ∧ Blk wx (w.heap.size + 1 + 1) 24 #[v] ∧ OwnX 58 3 wx w.heap.size v (l.take i) (fun _ => False))
  case atStart => exact ⟨0, _, rfl, rfl, Nat.zero_le _, (((Below.refl _ _).alloc (Nat.le_refl _) _).alloc (by simp) _).alloc (by simp; omega) _, ((Blk.new _ _ _).alloc _).alloc _, (Blk.new' (by simp)).alloc _, Blk.new' (by simp), by simpa using OwnX.nil _ _⟩
  case round =>
    obtain ⟨i, v, rfl, rfl, hi, hb, hx, hy, hz, hown⟩ := hrel
    have HB := Lib.hid hb; have HX := Lib.hid hx; have HY := Lib.hid hy; have HZ := Lib.hid hz; have HO := Lib.hid hown
    have x0 := hx.cell 0
    have hxl := hx.lt; have hzl := hz.lt
    simp at x0
    obtain ⟨Av, cv, rfl⟩ := hown.shape
    have i0 : (0 : Int) ≤ i := by omega
    have htl : (l.take i).length = i := by rw [List.length_take]; omega
    clear hx hy hz hown
    rw [htl] at HZ HO
    by_cases hlt : i < l.length
    · have hlt' : (i : Int) < l.length := by omega
      obtain ⟨b, off, S, k, rfl, hbF, d0, d1, d2, hk1, hk2, hrow⟩ := nodes_at HR.out hlt
      have hbw := hF b hbF
      have d0 := (hb.cell (p := ⟨b, off + i * 3, none⟩) hbw).trans d0
      have d1 := (hb.cell (p := ⟨b, off + i * 3 + 1, none⟩) hbw).trans d1
      have d2 := (hb.cell (p := ⟨b, off + i * 3 + 2, none⟩) hbw).trans d2
      have hll := HLA.out _ (List.getElem_mem hlt)
      have HTK : Hid (l.take (i + 1) = l.take i ++ [l[i]]) := Lib.hid (List.take_succ_eq_append_getElem hlt)
      obtain ⟨t, ht⟩ : ∃ t, l[i] = t := ⟨_, rfl⟩
      rw [ht] at d0 d1 d2 hk1 hrow hll HTK
      clear ht
      obtain ⟨x, y, la⟩ := t
      simp only at d0 d1 d2 hk1 hrow hll
      have HROW := Lib.hid hrow
      have hsz := hb.size
      clear hrow hb
      unfold maxLen at hk2
      go_upto_region 6 with fail
      clear d0 d1 d2 x0
      obtain ⟨u, hu⟩ : ∃ u : World, wr.alloc (.cells #[.int .i64 x, .string y, .slice S la.length k] 58) = u := ⟨_, rfl⟩
      obtain ⟨q, hq⟩ : ∃ q, wr.heap.size = q := ⟨_, rfl⟩
      have hbu : Below wr.heap.size wr u := by rw [← hu]; exact (Below.refl _ _).alloc (Nat.le_refl _) _
      have HBU := Lib.hid (HB.out.trans (hbu.mono HB.out.size))
      have HXU := Lib.hid (HX.out.below hbu hxl); have HYU := Lib.hid (HY.out.below hbu HY.out.lt); have HZU := Lib.hid (HZ.out.below hbu hzl)
      have HOU := Lib.hid (HO.out.below hbu)
      have HTU : Hid (Blk u q 58 #[.int .i64 x, .string y, .slice S la.length k]) := Lib.hid (by rw [← hu]; exact Blk.new' hq.symm)
      have HVQ : Hid ((Value.slice Av i cv).ownBlock ≠ some q) := Lib.hid (fun e => by have := (HO.out.lt q e).2; omega)
      have HQ : Hid (w.heap.size + 1 + 1 < q) := Lib.hid (by omega)
      have hql := HTU.out.lt
      (try rw [hu])
      (try rw [hq])
      clear hbu hu hq HB HX HY HZ HO hsz hxl hzl
      have t2 := HTU.out.cell 2
      have hun : w.heap.size ≤ u.heap.size := HBU.out.size
      simp at t2
      have HM : Hid ((u.alloc (.cells #[] 3)).ownsRow u.heap.size 3 1 (.slice (some ⟨u.heap.size, 0, none⟩) 0 0) 0 []) := Lib.hid (World.ownsRow_made (base := u.heap.size) (e := 3) (size := 1) u #[] 0 (Nat.le_refl _) (Nat.zero_le _) (by simp))
      have HCL : Hid (∀ ad, S = some ad → ∀ j z, (la.map (Value.int .i64))[j]? = some z → (u.alloc (.cells #[] 3)).cell? (ad.add j) = some z) := Lib.hid (fun ad e j z hz => by
        have h1 := RowOf.cellsFrom intCell_len (HROW.out.keep EInt.stays (Keep.below (HBU.out.alloc HBU.out.size (.cells #[] 3)) hF) (F' := F) (fun _ h => h)) ad e j z
        rw [ints_map15] at h1
        exact h1 hz)
      have HNON : Hid (S = none → la.length = 0) := Lib.hid (fun e => by have h := HROW.out; rw [e] at h; rw [h.none_nil]; rfl)
      obtain ⟨n, hn⟩ : ∃ n, la.length = n := ⟨_, rfl⟩
      have HN := Lib.hid hn
      have HLN : Hid ((la.map (Value.int .i64)).length = n * 1) := Lib.hid (by simp [hn])
      rw [hn] at HTU HNON t2 hk1 hll
      (try rw [hn])
      clear hn
      go_wp2_with (at_builtin; refine wpList_append_from _ rfl (.tmp 18) (.tmp 20) 51 rfl u.heap.size 3 Tryd.underlying51 int_info15 rfl (by omega) (.slice (some ⟨u.heap.size, 0, none⟩) 0 0) 0 [] rfl HM.out S n k (la.map (Value.int .i64)) rfl HLN.out HNON.out HCL.out (by simp [Value.oneCell']) ?a1 ?a2 ?a3 ?a4)
      try (case a1 => unfold maxLen; omega)
      try (case a2 => omega)
      try (case a3 => simp)
      case a4 =>
      intro A7 c7 w7 hown7 hg7 _
      (try simp only [Nat.zero_add, List.nil_append] at hown7)
      (try simp only [Nat.zero_add])
      have hgb : Below u.heap.size u w7 := ((Below.refl u.heap.size u).alloc (Nat.le_refl _) (.cells #[] 3)).grown hg7 (by simp) (fun k e => (HM.out.lt k e).1)
      have HB7 := Lib.hid (HBU.out.trans (hgb.mono hun))
      have HX7 := Lib.hid (HXU.out.below hgb HXU.out.lt); have HY7 := Lib.hid (HYU.out.below hgb HYU.out.lt); have HZ7 := Lib.hid (HZU.out.below hgb HZU.out.lt); have HT7 := Lib.hid (HTU.out.below hgb hql)
      have HO7 := Lib.hid ((HOU.out.widen (Y := fun b => u.heap.size ≤ b) (fun b h => .inr h)).below hgb)
      have HA7 : Hid (w7.ownsRow u.heap.size 3 1 (.slice A7 n c7) n (la.map (.int .i64))) := Lib.hid hown7
      have HW7 : Hid (u.heap.size ≤ w7.heap.size) := Lib.hid hgb.size
      have hq7 := HT7.out.lt
      have f7 := HT7.out.frozen 2
      have e7 := HT7.out.cell 2
      simp at e7
      clear hgb hown7 hg7 t2 HBU HXU HYU HZU HTU HOU HM HCL
      obtain ⟨w8, hw8⟩ : ∃ w8 : World, w7.setCell ⟨q, 2, none⟩ (.slice A7 n c7) = w8 := ⟨_, rfl⟩
      have HT8 : Hid (Blk w8 q 58 #[.int .i64 x, .string y, .slice A7 n c7]) := Lib.hid (by rw [← hw8]; simpa using HT7.out.set_ 2 (.slice A7 n c7))
      have HX8 : Hid (Blk w8 w.heap.size 24 #[.slice (some ⟨b, off, none⟩) l.length c]) := Lib.hid (by rw [← hw8]; exact HX7.out.far (p := ⟨q, 2, none⟩) (by have := HQ.out; show w.heap.size ≠ q; omega) _)
      have HY8 : Hid (Blk w8 (w.heap.size + 1) 24 #[.slice none 0 0]) := Lib.hid (by rw [← hw8]; exact HY7.out.far (p := ⟨q, 2, none⟩) (by have := HQ.out; show w.heap.size + 1 ≠ q; omega) _)
      have HZ8 : Hid (Blk w8 (w.heap.size + 1 + 1) 24 #[.slice Av i cv]) := Lib.hid (by rw [← hw8]; exact HZ7.out.far (p := ⟨q, 2, none⟩) (by have := HQ.out; show w.heap.size + 1 + 1 ≠ q; omega) _)
      have HO8 : Hid (OwnX 58 3 w8 w.heap.size (.slice Av i cv) (l.take i) (fun b => u.heap.size ≤ b)) := Lib.hid (by rw [← hw8]; exact HO7.out.node (by decide) HT7.out HVQ.out _)
      have HA8 : Hid (w8.ownsRow u.heap.size 3 1 (.slice A7 n c7) n (la.map (.int .i64))) := Lib.hid (by
        rw [← hw8]
        exact HA7.out.kept (row := some q) ⟨rfl, rfl, rfl, by simp, fun k hk hne => Below.heap_setCell _ _ _ _ (fun e => hne (by rw [e]))⟩ (.inr (own_ne_blkX HA7.out HT7.out (by decide))))
      have HB8 : Hid (Below w.heap.size w w8) := Lib.hid (by rw [← hw8]; exact HB7.out.setCell (p := ⟨q, 2, none⟩) (by have := HQ.out; show w.heap.size ≤ q; omega) _)
      have HW8 : Hid (u.heap.size ≤ w8.heap.size) := Lib.hid (by rw [← hw8]; simpa using HW7.out)
      clear HX7 HY7 HZ7 HT7 HO7 HA7 HB7 HW7
      have z0 := HZ8.out.cell 0
      have t0 := HT8.out.cell 0; have t1 := HT8.out.cell 1; have t2 := HT8.out.cell 2
      have hql8 := HT8.out.lt; have hzl8 := HZ8.out.lt
      simp at z0 t0 t1 t2
      have HLEN : Hid ((l.take i).length = i) := Lib.hid htl
      have HCELLS : Hid (∀ j z, (nodeCells ⟨x, y, la⟩ (.slice A7 n c7))[j]? = some z → (w8.alloc (.cells #[.int .i64 x, .string y, .slice A7 n c7] 58)).cell? ((⟨w8.heap.size, 0, none⟩ : Addr).add j) = some z) := Lib.hid (news_cells (Blk.new w8 58 #[.int .i64 x, .string y, .slice A7 n c7]))
      clear htl
      try rw [hw8]
      go_wp2_with (at_builtin; refine wpList_pushA _ (by decide) rfl (.tmp 24) (.tmp 26) 22 rfl w.heap.size Tryd.underlying22 tn_info15 rfl (.slice Av i cv) (l.take i) (fun b => u.heap.size ≤ b) (fun _ => False) rfl (HO8.out.alloc _) ⟨x, y, la⟩ (.slice A7 n c7) ?b1 ?b2 (fun b h => h.elim) ⟨w8.heap.size, 0, none⟩ 1 rfl HCELLS.out ?b3 ?b4 ?b5 ?b6)
      try (case b1 => show World.ownsRow _ w.heap.size 3 1 _ la.length (la.map (Value.int .i64)); rw [HN.out]; exact (own_base HA8.out hun).alloc _)
      try (case b2 => exact fun b h => (HA8.out.lt b h).1)
      try (case b3 => rw [HLEN.out]; unfold maxLen; omega)
      try (case b4 => rw [HLEN.out]; omega)
      try (case b5 => simp; have := HB8.out.size; omega)
      case b6 =>
      intro A9 c9 w9 hown9 hg9 _
      have hb9 : Below w.heap.size w w9 := (HB8.out.alloc HB8.out.size (.cells #[.int .i64 x, .string y, .slice A7 n c7] 58)).grown hg9 (by simp; have := HB8.out.size; omega) (fun k e => (HO8.out.lt k e).1)
      have HNZ : Hid ((Value.slice Av i cv).ownBlock ≠ some (w.heap.size + 1 + 1) ∧ (Value.slice Av i cv).ownBlock ≠ some (w.heap.size + 1) ∧ (Value.slice Av i cv).ownBlock ≠ some w.heap.size) := Lib.hid ⟨HO8.out.nodes.ne_blk HZ8.out (by decide), HO8.out.nodes.ne_blk HY8.out (by decide), HO8.out.nodes.ne_blk HX8.out (by decide)⟩
      have HX9 := Lib.hid ((HX8.out.alloc (.cells #[.int .i64 x, .string y, .slice A7 n c7] 58)).grown hg9 (fun e => HNZ.out.2.2 e.symm))
      have HY9 := Lib.hid ((HY8.out.alloc (.cells #[.int .i64 x, .string y, .slice A7 n c7] 58)).grown hg9 (fun e => HNZ.out.2.1 e.symm))
      have HZ9 := Lib.hid ((HZ8.out.alloc (.cells #[.int .i64 x, .string y, .slice A7 n c7] 58)).grown hg9 (fun e => HNZ.out.1 e.symm))
      have HB9 := Lib.hid hb9
      have HO9 : Hid (OwnX 58 3 w9 w.heap.size (.slice A9 (i + 1) c9) (l.take (i + 1)) (fun _ => False)) := Lib.hid (by rw [HTK.out]; exact hown9)
      (try rw [HLEN.out])
      have f9 := HZ9.out.frozen 0
      have e9 := HZ9.out.cell 0
      simp at e9
      have hzl9 := HZ9.out.lt
      clear hb9 hown9 hg9 z0 t0 t1 t2 hql8 hzl8
      go_wp2
      go_roundg (l.length - (i + 1))
      case measure => omega
      case rel => exact ⟨i + 1, _, by go_num, rfl, by omega, HB9.out.setCell (p := ⟨w.heap.size + 1 + 1, 0, none⟩) (by show w.heap.size ≤ w.heap.size + 1 + 1; omega) _, HX9.out.far (p := ⟨w.heap.size + 1 + 1, 0, none⟩) (by show w.heap.size ≠ w.heap.size + 1 + 1; omega) _, HY9.out.far (p := ⟨w.heap.size + 1 + 1, 0, none⟩) (by show w.heap.size + 1 ≠ w.heap.size + 1 + 1; omega) _, by simpa using HZ9.out.set_ 0 (.slice A9 (i + 1) c9), HO9.out.other HZ9.out (by decide) (by decide) _⟩
    · have hlt' : ¬ (i : Int) < l.length := by omega
      obtain rfl : i = l.length := by omega
      have HO2 : Hid (OwnNodes 58 3 wr w.heap.size (.slice Av l.length cv) l) := Lib.hid (by have := HO.out.nodes; rw [List.take_of_length_le (by omega)] at this; exact this)
      have z0 := HZ.out.cell 0
      have y0 := HY.out.cell 0
      have f0 := HY.out.frozen 0
      have hyl := HY.out.lt
      simp at z0 y0
      clear hb htl hi
      go_wp2
      have hy3 := HY.out.set_ 0 (.slice Av l.length cv)
      have c1 := hy3.cell 0
      simp at c1
      refine bodyPost_ret (v := .agg #[.slice Av l.length cv]) (by simp [results, Tryd.results34, go_sem, c1]) rfl ?_
      have hrow := HO2.out.isRow (F := fun b => w.heap.size ≤ b ∧ b < wr.heap.size) (fun b h1 h2 => ⟨h1, h2⟩)
      obtain ⟨A', c', e, h1, h2, h3⟩ := hrow
      refine ⟨_, rfl, ⟨A', c', e, h1, h2, (nodes_avoid h3 (slice_noint HY.out)).keep ETN.stays (keep_far (p := ⟨w.heap.size + 1, 0, none⟩) (fun b h => h.2) _) (fun b h => by simpa using h.1)⟩, HB.out.setCell (p := ⟨w.heap.size + 1, 0, none⟩) (by show w.heap.size ≤ w.heap.size + 1; omega) _⟩
end Go.Proofs.YtgcbnndbeoekgaaDoor
