import Derived.Test.YtpjkifbicfcajaaHTouch
import Derived.Test.YtpjkifbicfcajaaASameRef
set_option linter.unusedSimpArgs false
set_option linter.unusedVariables false
/- the document's Touched -/
namespace Go.Proofs.Ytpjkifbicfcajaa
open Go Go.RowKit

open Classical in
theorem right_two (m : AModel) : (rightM m = true ∧ checkI m = 0) ∨ (rightM m = false ∧ checkI m = 29) := by
  by_cases h : CheckM m
  · exact .inl ⟨rightM_yes (check_iff.1 h), by unfold checkI; rw [decide_eq_true h]; rfl⟩
  · exact .inr ⟨rightM_no (fun e => h (check_iff.2 e)), checkI_no h⟩
theorem node_cells {w : World} {F : Nat → Prop} {A : Option Addr} {l : List ANode} (hF : ∀ b, F b → b < w.heap.size) (h : RowOf 7 ENode w F A l) (i : Nat) (hi : i < l.length) :
    ∃ b off Sp cp Sk ck Sr cr, A = some ⟨b, off, none⟩ ∧ (∀ wx, Below w.heap.size w wx →
      wx.cell? ⟨b, off + i * 7, none⟩ = some (.int .i64 l[i].id) ∧ wx.cell? ⟨b, off + i * 7 + 1, none⟩ = some (.string l[i].concept) ∧
      wx.cell? ⟨b, off + i * 7 + 2, none⟩ = some (.int .i64 l[i].parent) ∧ wx.cell? ⟨b, off + i * 7 + 3, none⟩ = some (.string l[i].role) ∧
      wx.cell? ⟨b, off + i * 7 + 4, none⟩ = some (.slice Sp l[i].props.length cp) ∧ wx.cell? ⟨b, off + i * 7 + 5, none⟩ = some (.slice Sk l[i].kids.length ck) ∧
      wx.cell? ⟨b, off + i * 7 + 6, none⟩ = some (.slice Sr l[i].refs.length cr)) ∧
      RowOf 2 EProp w F Sp l[i].props ∧ RowOf 1 EInt w F Sk l[i].kids ∧ RowOf 2 ERef w F Sr l[i].refs := by
  obtain ⟨b, off, Sp, cp, Sk, ck, Sr, cr, rfl, hbF, d0, d1, d2, d3, d4, d5, d6, ⟨_, _, hp⟩, ⟨_, _, hk⟩, ⟨_, _, hr⟩⟩ := node_at h hi
  have hb := hF b hbF
  exact ⟨b, off, Sp, cp, Sk, ck, Sr, cr, rfl, fun wx hx => ⟨(hx.cell (p := ⟨b, _, none⟩) hb).trans d0, (hx.cell (p := ⟨b, _, none⟩) hb).trans d1, (hx.cell (p := ⟨b, _, none⟩) hb).trans d2, (hx.cell (p := ⟨b, _, none⟩) hb).trans d3, (hx.cell (p := ⟨b, _, none⟩) hb).trans d4, (hx.cell (p := ⟨b, _, none⟩) hb).trans d5, (hx.cell (p := ⟨b, _, none⟩) hb).trans d6⟩, hp, hk, hr⟩
section
variable {a b : List ANode} {i k : Nat} {o T : List Int} {x y : ANode}
theorem mg_left (hi : i < a.length) (hx : a[i] = x) (hk : k = b.length ∨ ∃ h : k < b.length, x.id < b[k].id) (h : o ++ mergeT (a.drop i) (b.drop k) = T) : (o ++ [x.id]) ++ mergeT (a.drop (i + 1)) (b.drop k) = T := by
  rw [← h, List.drop_eq_getElem_cons hi, hx, List.append_assoc]
  rcases hk with rfl | ⟨hk, hlt⟩
  · rw [List.drop_length, mergeT_left]; rfl
  · rw [List.drop_eq_getElem_cons hk, mergeT_lt _ _ hlt]; rfl
theorem mg_right (hk : k < b.length) (hy : b[k] = y) (hi : i = a.length ∨ ∃ h : i < a.length, y.id < a[i].id) (h : o ++ mergeT (a.drop i) (b.drop k) = T) : (o ++ [y.id]) ++ mergeT (a.drop i) (b.drop (k + 1)) = T := by
  rw [← h, List.drop_eq_getElem_cons hk, hy, List.append_assoc]
  rcases hi with rfl | ⟨hi, hlt⟩
  · rw [List.drop_length, mergeT_right]; rfl
  · rw [List.drop_eq_getElem_cons hi, mergeT_gt _ _ hlt]; rfl
theorem mg_same (hi : i < a.length) (hk : k < b.length) (hx : a[i] = x) (hy : b[k] = x) (h : o ++ mergeT (a.drop i) (b.drop k) = T) : o ++ mergeT (a.drop (i + 1)) (b.drop (k + 1)) = T := by
  rw [← h, List.drop_eq_getElem_cons hk, List.drop_eq_getElem_cons hi, hx, hy, mergeT_same]
theorem mg_diff (hi : i < a.length) (hk : k < b.length) (hx : a[i] = x) (hy : b[k] = y) (he : x.id = y.id) (hne : x ≠ y) (h : o ++ mergeT (a.drop i) (b.drop k) = T) : (o ++ [x.id]) ++ mergeT (a.drop (i + 1)) (b.drop (k + 1)) = T := by
  rw [← h, List.drop_eq_getElem_cons hk, List.drop_eq_getElem_cons hi, hx, hy, mergeT_diff _ _ he hne, List.append_assoc]; rfl
theorem mg_end (hi : i = a.length) (hk : k = b.length) (h : o ++ mergeT (a.drop i) (b.drop k) = T) : o = T := by
  rw [← h, hi, hk, List.drop_length, List.drop_length, mergeT_nil, List.append_nil]
end

set_option maxRecDepth 100000 in
set_option maxHeartbeats 8000000 in
theorem rtouched_any (A B : Option Addr) (cA cB : Nat) (a b : AModel) (w : World) (F : Nat → Prop) (hF : ∀ b, F b → b < w.heap.size) (ha : RowOf 7 ENode w F A a.nodes) (hb : RowOf 7 ENode w F B b.nodes) (hza : ModAll a) (hzb : ModAll b) :
    Calls Try.prog 27 #[.agg #[.int .i64 a.next, .slice A a.nodes.length cA], .agg #[.int .i64 b.next, .slice B b.nodes.length cB]] w fun e w' => TPost w w' a b e := by
  have HCA : Hid (∀ w', Below w.heap.size w w' → Calls Try.prog 40 #[.agg #[.int .i64 a.next, .slice A a.nodes.length cA]] w' fun e w2 => e = .returned (.bool (rightM a)) ∧ Below w'.heap.size w' w2) := Lib.hid (fun w' hx => right_any A cA a w' F (fun b h => Nat.lt_of_lt_of_le (hF b h) hx.size) (ha.keep ENode.stays (Keep.below hx hF) (fun _ h => h)) (fun x h => (hza.1 x h).1.1) (by have := hza.2.2; omega))
  have HCB : Hid (∀ w', Below w.heap.size w w' → Calls Try.prog 40 #[.agg #[.int .i64 b.next, .slice B b.nodes.length cB]] w' fun e w2 => e = .returned (.bool (rightM b)) ∧ Below w'.heap.size w' w2) := Lib.hid (fun w' hx => right_any B cB b w' F (fun b h => Nat.lt_of_lt_of_le (hF b h) hx.size) (hb.keep ENode.stays (Keep.below hx hF) (fun _ h => h)) (fun x h => (hzb.1 x h).1.1) (by have := hzb.2.2; omega))
  have HNA := Lib.hid (node_cells hF ha)
  have HNB := Lib.hid (node_cells hF hb)
  have HLA : Hid (∀ i (h : i < a.nodes.length), LensOK a.nodes[i]) := Lib.hid (fun i h => (hza.1 _ (List.getElem_mem h)).2.1)
  have hna : a.nodes.length ≤ 1172812402926 := hza.2.2
  have hnb : b.nodes.length ≤ 1172812402926 := hzb.2.2
  clear ha hb hza hzb
  rcases right_two a with ⟨ra, ca⟩ | ⟨ra, ca⟩
  · have HZA := Lib.hid ca
    rw [ra] at HCA
    clear ca ra
    rcases right_two b with ⟨rb, cb⟩ | ⟨rb, cb⟩
    · have HZB := Lib.hid cb
      rw [rb] at HCB
      clear cb rb
      go_enter Try.func27, Try.ntmps27
      go_wp2_with fail
      obtain ⟨u0, hu0⟩ : ∃ u : World, (w.alloc (.cells #[.int .i64 a.next, .slice A a.nodes.length cA] 27)).alloc (.cells #[.int .i64 b.next, .slice B b.nodes.length cB] 27) = u := ⟨_, rfl⟩
      have HB : Hid (Below w.heap.size w u0) := Lib.hid (by rw [← hu0]; exact ((Below.refl w.heap.size w).alloc (Nat.le_refl _) _).alloc (by simp) _)
      have HX : Hid (Blk u0 w.heap.size 27 #[.int .i64 a.next, .slice A a.nodes.length cA]) := Lib.hid (by rw [← hu0]; exact (Blk.new _ _ _).alloc _)
      have HY : Hid (Blk u0 (w.heap.size + 1) 27 #[.int .i64 b.next, .slice B b.nodes.length cB]) := Lib.hid (by rw [← hu0]; exact Blk.new' (by simp))
      (try rw [hu0])
      clear hu0
      refine (HCA.out _ HB.out).mono ?_
      rintro _ u1 ⟨rfl, hb1⟩
      have HB3 := Lib.hid (HB.out.trans (hb1.mono HB.out.size))
      have HX3 := Lib.hid (HX.out.below hb1 HX.out.lt)
      have HY3 := Lib.hid (HY.out.below hb1 HY.out.lt)
      clear hb1 HB HX HY
      have y0 := HY3.out.cell 0; have y1 := HY3.out.cell 1
      have hylt := HY3.out.lt
      simp at y0 y1
      go_wp2_with fail
      clear y0 y1 hylt
      refine (HCB.out _ HB3.out).mono ?_
      rintro _ wi ⟨rfl, hb1⟩
      have HB5 := Lib.hid (HB3.out.trans (hb1.mono HB3.out.size))
      have HX5 := Lib.hid (HX3.out.below hb1 HX3.out.lt)
      have HY5 := Lib.hid (HY3.out.below hb1 HY3.out.lt)
      clear hb1 HB3 HX3 HY3
      have HE : Hid (touchE a b = 0 ∧ touchL a b = mergeT a.nodes b.nodes) := Lib.hid (by unfold touchE touchL; rw [if_pos ⟨HZA.out, HZB.out⟩, if_pos ⟨HZA.out, HZB.out⟩]; exact ⟨rfl, rfl⟩)
      clear HZA HZB
      go_wp2_with fail
      go_loopg [6, 7, 8] (a.nodes.length + b.nodes.length) (fun g s6 s7 s8 wx => ∃ (i k : Nat) (o : List Int) (v : Value), s6 = v ∧ s7 = .int .i64 i ∧ s8 = .int .i64 k ∧ g = (a.nodes.length - i) + (b.nodes.length - k) ∧ i ≤ a.nodes.length ∧ k ≤ b.nodes.length ∧ o.length ≤ i + k ∧ Below w.heap.size w wx ∧ Blk wx w.heap.size 27 #[.int .i64 a.next, .slice A a.nodes.length cA] ∧ Blk wx (w.heap.size + 1) 27 #[.int .i64 b.next, .slice B b.nodes.length cB] ∧ OwnI wx (w.heap.size + 2) v o ∧ o ++ mergeT (a.nodes.drop i) (b.nodes.drop k) = mergeT a.nodes b.nodes)
      case atStart => exact ⟨0, 0, [], _, rfl, rfl, rfl, rfl, Nat.zero_le _, Nat.zero_le _, Nat.zero_le _, HB5.out, HX5.out, HY5.out, OwnI.nil _ _, by simp⟩
      case round =>
        clear HB5 HX5 HY5
        obtain ⟨i, k, o, v, rfl, rfl, rfl, hg, hia, hkb, hol, hb, hx, hy, ho, hmg⟩ := hrel
        obtain ⟨Av, cv, rfl⟩ := ho.shape
        have HB := Lib.hid hb; have HX := Lib.hid hx; have HY := Lib.hid hy; have HO := Lib.hid ho; have HM := Lib.hid hmg; have HG := Lib.hid hg
        have x1 := HX.out.cell 1; have y1 := HY.out.cell 1
        have hxlt := HX.out.lt; have hylt := HY.out.lt
        simp at x1 y1
        clear hb hx hy ho hmg hg
        have i0 : (0 : Int) ≤ i := by omega
        have k0 : (0 : Int) ≤ k := by omega
        by_cases hi : i < a.nodes.length
        · have hi' : (i : Int) < a.nodes.length := by omega
          have gi : decide ((i : Int) < a.nodes.length) = true := decide_eq_true hi'
          have gie : ((i : Int) == (a.nodes.length : Int)) = false := beq_eq_false_iff_ne.2 (by omega)
          obtain ⟨bA, offA, Sp, cp, Sk, ck, Sr, cr, rfl, hcx, hp, hkk, hr⟩ := HNA.out i hi
          obtain ⟨hl1, hl2, hl3⟩ : a.nodes[i].props.length ≤ 9223372036854775807 ∧ a.nodes[i].kids.length ≤ 9223372036854775807 ∧ a.nodes[i].refs.length ≤ 9223372036854775807 := by have := HLA.out i hi; unfold LensOK at this; omega
          obtain ⟨xn, hxn⟩ : ∃ x, a.nodes[i] = x := ⟨_, rfl⟩
          rw [hxn] at hcx hp hkk hr hl1 hl2 hl3
          have HXN := Lib.hid hxn; have HI := Lib.hid hi; have HCX := Lib.hid hcx; have HRX := Lib.hid (And.intro hp (And.intro hkk hr)); have HLX := Lib.hid (And.intro hl1 (And.intro hl2 hl3))
          clear hxn hcx hp hkk hr hl1 hl2 hl3
          by_cases hk : k < b.nodes.length
          · have hk' : (k : Int) < b.nodes.length := by omega
            have gk : decide ((k : Int) < b.nodes.length) = true := decide_eq_true hk'
            have gke : ((k : Int) == (b.nodes.length : Int)) = false := beq_eq_false_iff_ne.2 (by omega)
            obtain ⟨bB, offB, Yp, yp, Yk, yk, Yr, yr, rfl, hcy, hp, hkk, hr⟩ := HNB.out k hk
            obtain ⟨yn, hyn⟩ : ∃ x, b.nodes[k] = x := ⟨_, rfl⟩
            rw [hyn] at hcy hp hkk hr
            have HYN := Lib.hid hyn; have HK := Lib.hid hk; have HCY := Lib.hid hcy; have HRY := Lib.hid (And.intro hp (And.intro hkk hr))
            clear hyn hcy hp hkk hr
            rcases Int.lt_trichotomy xn.id yn.id with h | h | h
            · have l1 : decide (xn.id < yn.id) = true := decide_eq_true h
              have HL := Lib.hid h
              clear h
              go_wp2_with fail
              clear x1 y1 hxlt hylt
              have x1 : wr.cell? ⟨w.heap.size, 1, none⟩ = some (.slice (some ⟨bA, offA, none⟩) a.nodes.length cA) := HX.out.cell 1
              have y1 : wr.cell? ⟨w.heap.size + 1, 1, none⟩ = some (.slice (some ⟨bB, offB, none⟩) b.nodes.length cB) := HY.out.cell 1
              obtain ⟨d0, d1, d2, d3, d4, d5, d6⟩ := HCX.out wr HB.out
              obtain ⟨e0, e1, e2, e3, e4, e5, e6⟩ := HCY.out wr HB.out
              have hzt := HX.out.lt
              have hyt := HY.out.lt
              clear d1 d2 d3 d4 d5 d6 e1 e2 e3 e4 e5 e6
              have qx1 := cell_regrown (x1)
              have qy1 := cell_regrown (y1)
              have qd0 := cell_regrown (d0)
              have qe0 := cell_regrown (e0)
              clear x1 y1 d0 e0
              refine wp_region_quiet_below (by kernel_rfl) (by kernel_rfl) ?_
              repeat (first | go_big_quiet_step (fail) | quiet_step (fail))
              refine wpQuiet_nil ?_
              intro _ hw'
              obtain ⟨⟨dq, osq⟩, hw''⟩ := hw'
              subst hw''
              have HB1 := Lib.hid (HB.out.trans ((below_regrown wr dq osq).mono HB.out.size))
              have HX1 := Lib.hid (HX.out.below (below_regrown wr dq osq) hzt)
              have HY1 := Lib.hid (HY.out.below (below_regrown wr dq osq) hyt)
              have HO1 := Lib.hid (HO.out.below (below_regrown wr dq osq))
              clear hzt hyt HB HX HY HO qx1 qy1 qd0 qe0 
              obtain ⟨w1, hwi⟩ : ∃ u : World, Sort.grow (redrawn wr dq) osq = u := ⟨_, rfl⟩
              rw [hwi] at HB1 HX1 HY1 HO1 ⊢
              clear hwi
              have x1 : w1.cell? ⟨w.heap.size, 1, none⟩ = some (.slice (some ⟨bA, offA, none⟩) a.nodes.length cA) := HX1.out.cell 1
              have y1 : w1.cell? ⟨w.heap.size + 1, 1, none⟩ = some (.slice (some ⟨bB, offB, none⟩) b.nodes.length cB) := HY1.out.cell 1
              obtain ⟨d0, d1, d2, d3, d4, d5, d6⟩ := HCX.out w1 HB1.out
              obtain ⟨e0, e1, e2, e3, e4, e5, e6⟩ := HCY.out w1 HB1.out
              clear y1 d1 d2 d3 d4 d5 d6 e0 e1 e2 e3 e4 e5 e6
              go_wp2_with (at_builtin; refine wpList_append_from _ rfl (.tmp 82) (.tmp 89) 54 rfl (w.heap.size + 2) 3 Try.underlying54 hint_info ?b1 ?b2 (.slice Av o.length cv) o.length (o.map (Value.int .i64)) ?b3 (World.ownsRow.alloc HO1.out (.cells #[.int .i64 xn.id] 3)) (some ⟨w1.heap.size, 0, none⟩) 1 1 [.int .i64 xn.id] ?b4 ?b5 ?b6 (fun ad e => by cases e; exact news_cells (Blk.new w1 3 #[.int .i64 xn.id])) ?b7 ?b8 ?b9 ?b10 ?b11)
              try (case b1 => rfl)
              try (case b2 => omega)
              try (case b3 => rfl)
              try (case b4 => rfl)
              try (case b5 => rfl)
              try (case b6 => intro e; cases e)
              try (case b7 => intro u hu; simp at hu; subst hu; rfl)
              try (case b8 => (try rw [List.length_append]); unfold maxLen; omega)
              try (case b9 => (try rw [List.length_append]); omega)
              try (case b10 => have := HB1.out.size; have := HY1.out.lt; simp; omega)
              case b11 =>
                intro A7 c7 w7 hown7 hg7 _
                have HB7 := Lib.hid ((HB1.out.alloc HB1.out.size (.cells #[.int .i64 xn.id] 3)).grown hg7 (by have := HB1.out.size; simp; omega) (fun k e => by have := (HO1.out.lt k e).1; omega))
                have HX7 := Lib.hid ((HX1.out.alloc (.cells #[.int .i64 xn.id] 3)).grown hg7 (fun e => by have := (HO1.out.lt _ e.symm).1; omega))
                have HY7 := Lib.hid ((HY1.out.alloc (.cells #[.int .i64 xn.id] 3)).grown hg7 (fun e => by have := (HO1.out.lt _ e.symm).1; omega))
                have HO7 : Hid (OwnI w7 (w.heap.size + 2) (.slice A7 (o.length + 1) c7) (o ++ [xn.id])) := Lib.hid (by unfold OwnI; simpa using hown7)
                clear hown7 hg7 x1 d0
                go_wp2
                go_roundg ((a.nodes.length - (i + 1)) + (b.nodes.length - k))
                case measure => have := HG.out; omega
                case rel => exact ⟨i + 1, k, o ++ [xn.id], _, rfl, by go_num, by go_num, rfl, by omega, by omega, by (try rw [List.length_append]); (try simp); omega, HB7.out, HX7.out, HY7.out, HO7.out, mg_left HI.out HXN.out (.inr ⟨HK.out, by rw [HYN.out]; exact HL.out⟩) HM.out⟩
            · by_cases heq : xn = yn
              · have HEQ := Lib.hid heq
                clear heq
                have l1 : decide (xn.id < yn.id) = false := decide_eq_false (by omega)
                have l2 : decide (yn.id < xn.id) = false := decide_eq_false (by omega)
                have HL := Lib.hid h
                clear h
                go_wp2_with fail
                clear x1 y1 hxlt hylt
                have x1 : wr.cell? ⟨w.heap.size, 1, none⟩ = some (.slice (some ⟨bA, offA, none⟩) a.nodes.length cA) := HX.out.cell 1
                have y1 : wr.cell? ⟨w.heap.size + 1, 1, none⟩ = some (.slice (some ⟨bB, offB, none⟩) b.nodes.length cB) := HY.out.cell 1
                obtain ⟨d0, d1, d2, d3, d4, d5, d6⟩ := HCX.out wr HB.out
                obtain ⟨e0, e1, e2, e3, e4, e5, e6⟩ := HCY.out wr HB.out
                have hzt := HX.out.lt
                have hyt := HY.out.lt
                clear d1 d2 d3 d4 d5 d6 e1 e2 e3 e4 e5 e6
                have qx1 := cell_regrown (x1)
                have qy1 := cell_regrown (y1)
                have qd0 := cell_regrown (d0)
                have qe0 := cell_regrown (e0)
                clear x1 y1 d0 e0
                refine wp_region_quiet_below (by kernel_rfl) (by kernel_rfl) ?_
                repeat (first | go_big_quiet_step (fail) | quiet_step (fail))
                refine wpQuiet_nil ?_
                intro _ hw'
                obtain ⟨⟨dq, osq⟩, hw''⟩ := hw'
                subst hw''
                have HB1 := Lib.hid (HB.out.trans ((below_regrown wr dq osq).mono HB.out.size))
                have HX1 := Lib.hid (HX.out.below (below_regrown wr dq osq) hzt)
                have HY1 := Lib.hid (HY.out.below (below_regrown wr dq osq) hyt)
                have HO1 := Lib.hid (HO.out.below (below_regrown wr dq osq))
                clear hzt hyt HB HX HY HO qx1 qy1 qd0 qe0 
                obtain ⟨w1, hwi⟩ : ∃ u : World, Sort.grow (redrawn wr dq) osq = u := ⟨_, rfl⟩
                rw [hwi] at HB1 HX1 HY1 HO1 ⊢
                clear hwi
                go_wp2_with fail
                have x1 : w1.cell? ⟨w.heap.size, 1, none⟩ = some (.slice (some ⟨bA, offA, none⟩) a.nodes.length cA) := HX1.out.cell 1
                have y1 : w1.cell? ⟨w.heap.size + 1, 1, none⟩ = some (.slice (some ⟨bB, offB, none⟩) b.nodes.length cB) := HY1.out.cell 1
                obtain ⟨d0, d1, d2, d3, d4, d5, d6⟩ := HCX.out w1 HB1.out
                obtain ⟨e0, e1, e2, e3, e4, e5, e6⟩ := HCY.out w1 HB1.out
                have hzt := HX1.out.lt
                have hyt := HY1.out.lt
                clear d1 d2 d3 d4 d5 d6 e1 e2 e3 e4 e5 e6
                have qx1 := cell_regrown (x1)
                have qy1 := cell_regrown (y1)
                have qd0 := cell_regrown (d0)
                have qe0 := cell_regrown (e0)
                clear x1 y1 d0 e0
                refine wp_region_quiet_below (by kernel_rfl) (by kernel_rfl) ?_
                repeat (first | go_big_quiet_step (fail) | quiet_step (fail))
                refine wpQuiet_nil ?_
                intro _ hw'
                obtain ⟨⟨dq, osq⟩, hw''⟩ := hw'
                subst hw''
                have HB2 := Lib.hid (HB1.out.trans ((below_regrown w1 dq osq).mono HB1.out.size))
                have HX2 := Lib.hid (HX1.out.below (below_regrown w1 dq osq) hzt)
                have HY2 := Lib.hid (HY1.out.below (below_regrown w1 dq osq) hyt)
                have HO2 := Lib.hid (HO1.out.below (below_regrown w1 dq osq))
                clear hzt hyt HB1 HX1 HY1 HO1 qx1 qy1 qd0 qe0 
                obtain ⟨w2, hwi⟩ : ∃ u : World, Sort.grow (redrawn w1 dq) osq = u := ⟨_, rfl⟩
                rw [hwi] at HB2 HX2 HY2 HO2 ⊢
                clear hwi
                go_wp2_with fail
                have BX := fun (os : Array Obj) (d : Nat) => HB2.out.trans ((below_regrown w2 d os).mono HB2.out.size)
                have x1 : w2.cell? ⟨w.heap.size, 1, none⟩ = some (.slice (some ⟨bA, offA, none⟩) a.nodes.length cA) := HX2.out.cell 1
                have y1 : w2.cell? ⟨w.heap.size + 1, 1, none⟩ = some (.slice (some ⟨bB, offB, none⟩) b.nodes.length cB) := HY2.out.cell 1
                obtain ⟨d0, d1, d2, d3, d4, d5, d6⟩ := HCX.out w2 HB2.out
                obtain ⟨e0, e1, e2, e3, e4, e5, e6⟩ := HCY.out w2 HB2.out
                have hzt := HX2.out.lt
                have hyt := HY2.out.lt
                have qx1 := cell_regrown (x1)
                have qy1 := cell_regrown (y1)
                have qd0 := cell_regrown (d0)
                have qd1 := cell_regrown (d1)
                have qd2 := cell_regrown (d2)
                have qd3 := cell_regrown (d3)
                have qd4 := cell_regrown (d4)
                have qd5 := cell_regrown (d5)
                have qd6 := cell_regrown (d6)
                have qe0 := cell_regrown (e0)
                have qe1 := cell_regrown (e1)
                have qe2 := cell_regrown (e2)
                have qe3 := cell_regrown (e3)
                have qe4 := cell_regrown (e4)
                have qe5 := cell_regrown (e5)
                have qe6 := cell_regrown (e6)
                have CS := Lib.hid (fun (d : Nat) (os : Array Obj) => Calls.regrown_of (w := w2) (d := d) (os := os) (res_is (eqB_yes HEQ.out) (sameNode_any xn yn Sp Sk Sr Yp Yk Yr cp ck cr yp yk yr _ F F (fun b hb' => Nat.lt_of_lt_of_le (hF b hb') (BX os d).size) (fun b hb' => Nat.lt_of_lt_of_le (hF b hb') (BX os d).size) (HRX.out.1.keep EProp.stays (Keep.below (BX os d) hF) (fun _ h => h)) (HRX.out.2.1.keep EInt.stays (Keep.below (BX os d) hF) (fun _ h => h)) (HRX.out.2.2.keep ERef.stays (Keep.below (BX os d) hF) (fun _ h => h)) (HRY.out.1.keep EProp.stays (Keep.below (BX os d) hF) (fun _ h => h)) (HRY.out.2.1.keep EInt.stays (Keep.below (BX os d) hF) (fun _ h => h)) (HRY.out.2.2.keep ERef.stays (Keep.below (BX os d) hF) (fun _ h => h)) HLX.out.1 HLX.out.2.1 HLX.out.2.2)))
                clear x1 y1 d0 d1 d2 d3 d4 d5 d6 e0 e1 e2 e3 e4 e5 e6
                refine wp_region_quiet_below (by kernel_rfl) (by kernel_rfl) ?_
                repeat (first | go_big_quiet_step (exact CS.out _ _) | quiet_step (exact CS.out _ _))
                refine wpQuiet_nil ?_
                intro _ hw'
                obtain ⟨⟨dq, osq⟩, hw''⟩ := hw'
                subst hw''
                have HB3 := Lib.hid (HB2.out.trans ((below_regrown w2 dq osq).mono HB2.out.size))
                have HX3 := Lib.hid (HX2.out.below (below_regrown w2 dq osq) hzt)
                have HY3 := Lib.hid (HY2.out.below (below_regrown w2 dq osq) hyt)
                have HO3 := Lib.hid (HO2.out.below (below_regrown w2 dq osq))
                clear hzt hyt HB2 HX2 HY2 HO2 qx1 qy1 qd0 qd1 qd2 qd3 qd4 qd5 qd6 qe0 qe1 qe2 qe3 qe4 qe5 qe6 CS
                obtain ⟨w3, hwi⟩ : ∃ u : World, Sort.grow (redrawn w2 dq) osq = u := ⟨_, rfl⟩
                rw [hwi] at HB3 HX3 HY3 HO3 ⊢
                clear hwi
                go_wp2
                go_roundg ((a.nodes.length - (i + 1)) + (b.nodes.length - (k + 1)))
                case measure => have := HG.out; omega
                case rel => exact ⟨i + 1, k + 1, o, _, rfl, by go_num, by go_num, rfl, by omega, by omega, by (try rw [List.length_append]); (try simp); omega, HB3.out, HX3.out, HY3.out, HO3.out, mg_same HI.out HK.out HXN.out (by rw [HYN.out, HEQ.out]) HM.out⟩
              · have HEQ := Lib.hid heq
                clear heq
                have l1 : decide (xn.id < yn.id) = false := decide_eq_false (by omega)
                have l2 : decide (yn.id < xn.id) = false := decide_eq_false (by omega)
                have HL := Lib.hid h
                clear h
                go_wp2_with fail
                clear x1 y1 hxlt hylt
                have x1 : wr.cell? ⟨w.heap.size, 1, none⟩ = some (.slice (some ⟨bA, offA, none⟩) a.nodes.length cA) := HX.out.cell 1
                have y1 : wr.cell? ⟨w.heap.size + 1, 1, none⟩ = some (.slice (some ⟨bB, offB, none⟩) b.nodes.length cB) := HY.out.cell 1
                obtain ⟨d0, d1, d2, d3, d4, d5, d6⟩ := HCX.out wr HB.out
                obtain ⟨e0, e1, e2, e3, e4, e5, e6⟩ := HCY.out wr HB.out
                have hzt := HX.out.lt
                have hyt := HY.out.lt
                clear d1 d2 d3 d4 d5 d6 e1 e2 e3 e4 e5 e6
                have qx1 := cell_regrown (x1)
                have qy1 := cell_regrown (y1)
                have qd0 := cell_regrown (d0)
                have qe0 := cell_regrown (e0)
                clear x1 y1 d0 e0
                refine wp_region_quiet_below (by kernel_rfl) (by kernel_rfl) ?_
                repeat (first | go_big_quiet_step (fail) | quiet_step (fail))
                refine wpQuiet_nil ?_
                intro _ hw'
                obtain ⟨⟨dq, osq⟩, hw''⟩ := hw'
                subst hw''
                have HB1 := Lib.hid (HB.out.trans ((below_regrown wr dq osq).mono HB.out.size))
                have HX1 := Lib.hid (HX.out.below (below_regrown wr dq osq) hzt)
                have HY1 := Lib.hid (HY.out.below (below_regrown wr dq osq) hyt)
                have HO1 := Lib.hid (HO.out.below (below_regrown wr dq osq))
                clear hzt hyt HB HX HY HO qx1 qy1 qd0 qe0 
                obtain ⟨w1, hwi⟩ : ∃ u : World, Sort.grow (redrawn wr dq) osq = u := ⟨_, rfl⟩
                rw [hwi] at HB1 HX1 HY1 HO1 ⊢
                clear hwi
                go_wp2_with fail
                have x1 : w1.cell? ⟨w.heap.size, 1, none⟩ = some (.slice (some ⟨bA, offA, none⟩) a.nodes.length cA) := HX1.out.cell 1
                have y1 : w1.cell? ⟨w.heap.size + 1, 1, none⟩ = some (.slice (some ⟨bB, offB, none⟩) b.nodes.length cB) := HY1.out.cell 1
                obtain ⟨d0, d1, d2, d3, d4, d5, d6⟩ := HCX.out w1 HB1.out
                obtain ⟨e0, e1, e2, e3, e4, e5, e6⟩ := HCY.out w1 HB1.out
                have hzt := HX1.out.lt
                have hyt := HY1.out.lt
                clear d1 d2 d3 d4 d5 d6 e1 e2 e3 e4 e5 e6
                have qx1 := cell_regrown (x1)
                have qy1 := cell_regrown (y1)
                have qd0 := cell_regrown (d0)
                have qe0 := cell_regrown (e0)
                clear x1 y1 d0 e0
                refine wp_region_quiet_below (by kernel_rfl) (by kernel_rfl) ?_
                repeat (first | go_big_quiet_step (fail) | quiet_step (fail))
                refine wpQuiet_nil ?_
                intro _ hw'
                obtain ⟨⟨dq, osq⟩, hw''⟩ := hw'
                subst hw''
                have HB2 := Lib.hid (HB1.out.trans ((below_regrown w1 dq osq).mono HB1.out.size))
                have HX2 := Lib.hid (HX1.out.below (below_regrown w1 dq osq) hzt)
                have HY2 := Lib.hid (HY1.out.below (below_regrown w1 dq osq) hyt)
                have HO2 := Lib.hid (HO1.out.below (below_regrown w1 dq osq))
                clear hzt hyt HB1 HX1 HY1 HO1 qx1 qy1 qd0 qe0 
                obtain ⟨w2, hwi⟩ : ∃ u : World, Sort.grow (redrawn w1 dq) osq = u := ⟨_, rfl⟩
                rw [hwi] at HB2 HX2 HY2 HO2 ⊢
                clear hwi
                go_wp2_with fail
                have BX := fun (os : Array Obj) (d : Nat) => HB2.out.trans ((below_regrown w2 d os).mono HB2.out.size)
                have x1 : w2.cell? ⟨w.heap.size, 1, none⟩ = some (.slice (some ⟨bA, offA, none⟩) a.nodes.length cA) := HX2.out.cell 1
                have y1 : w2.cell? ⟨w.heap.size + 1, 1, none⟩ = some (.slice (some ⟨bB, offB, none⟩) b.nodes.length cB) := HY2.out.cell 1
                obtain ⟨d0, d1, d2, d3, d4, d5, d6⟩ := HCX.out w2 HB2.out
                obtain ⟨e0, e1, e2, e3, e4, e5, e6⟩ := HCY.out w2 HB2.out
                have hzt := HX2.out.lt
                have hyt := HY2.out.lt
                have qx1 := cell_regrown (x1)
                have qy1 := cell_regrown (y1)
                have qd0 := cell_regrown (d0)
                have qd1 := cell_regrown (d1)
                have qd2 := cell_regrown (d2)
                have qd3 := cell_regrown (d3)
                have qd4 := cell_regrown (d4)
                have qd5 := cell_regrown (d5)
                have qd6 := cell_regrown (d6)
                have qe0 := cell_regrown (e0)
                have qe1 := cell_regrown (e1)
                have qe2 := cell_regrown (e2)
                have qe3 := cell_regrown (e3)
                have qe4 := cell_regrown (e4)
                have qe5 := cell_regrown (e5)
                have qe6 := cell_regrown (e6)
                have CS := Lib.hid (fun (d : Nat) (os : Array Obj) => Calls.regrown_of (w := w2) (d := d) (os := os) (res_is (eqB_no HEQ.out) (sameNode_any xn yn Sp Sk Sr Yp Yk Yr cp ck cr yp yk yr _ F F (fun b hb' => Nat.lt_of_lt_of_le (hF b hb') (BX os d).size) (fun b hb' => Nat.lt_of_lt_of_le (hF b hb') (BX os d).size) (HRX.out.1.keep EProp.stays (Keep.below (BX os d) hF) (fun _ h => h)) (HRX.out.2.1.keep EInt.stays (Keep.below (BX os d) hF) (fun _ h => h)) (HRX.out.2.2.keep ERef.stays (Keep.below (BX os d) hF) (fun _ h => h)) (HRY.out.1.keep EProp.stays (Keep.below (BX os d) hF) (fun _ h => h)) (HRY.out.2.1.keep EInt.stays (Keep.below (BX os d) hF) (fun _ h => h)) (HRY.out.2.2.keep ERef.stays (Keep.below (BX os d) hF) (fun _ h => h)) HLX.out.1 HLX.out.2.1 HLX.out.2.2)))
                clear x1 y1 d0 d1 d2 d3 d4 d5 d6 e0 e1 e2 e3 e4 e5 e6
                refine wp_region_quiet_below (by kernel_rfl) (by kernel_rfl) ?_
                repeat (first | go_big_quiet_step (exact CS.out _ _) | quiet_step (exact CS.out _ _))
                refine wpQuiet_nil ?_
                intro _ hw'
                obtain ⟨⟨dq, osq⟩, hw''⟩ := hw'
                subst hw''
                have HB3 := Lib.hid (HB2.out.trans ((below_regrown w2 dq osq).mono HB2.out.size))
                have HX3 := Lib.hid (HX2.out.below (below_regrown w2 dq osq) hzt)
                have HY3 := Lib.hid (HY2.out.below (below_regrown w2 dq osq) hyt)
                have HO3 := Lib.hid (HO2.out.below (below_regrown w2 dq osq))
                clear hzt hyt HB2 HX2 HY2 HO2 qx1 qy1 qd0 qd1 qd2 qd3 qd4 qd5 qd6 qe0 qe1 qe2 qe3 qe4 qe5 qe6 CS
                obtain ⟨w3, hwi⟩ : ∃ u : World, Sort.grow (redrawn w2 dq) osq = u := ⟨_, rfl⟩
                rw [hwi] at HB3 HX3 HY3 HO3 ⊢
                clear hwi
                have x1 : w3.cell? ⟨w.heap.size, 1, none⟩ = some (.slice (some ⟨bA, offA, none⟩) a.nodes.length cA) := HX3.out.cell 1
                have y1 : w3.cell? ⟨w.heap.size + 1, 1, none⟩ = some (.slice (some ⟨bB, offB, none⟩) b.nodes.length cB) := HY3.out.cell 1
                obtain ⟨d0, d1, d2, d3, d4, d5, d6⟩ := HCX.out w3 HB3.out
                obtain ⟨e0, e1, e2, e3, e4, e5, e6⟩ := HCY.out w3 HB3.out
                clear y1 d1 d2 d3 d4 d5 d6 e0 e1 e2 e3 e4 e5 e6
                go_wp2_with (at_builtin; refine wpList_append_from _ rfl (.tmp 41) (.tmp 48) 54 rfl (w.heap.size + 2) 3 Try.underlying54 hint_info ?f1 ?f2 (.slice Av o.length cv) o.length (o.map (Value.int .i64)) ?f3 (World.ownsRow.alloc HO3.out (.cells #[.int .i64 xn.id] 3)) (some ⟨w3.heap.size, 0, none⟩) 1 1 [.int .i64 xn.id] ?f4 ?f5 ?f6 (fun ad e => by cases e; exact news_cells (Blk.new w3 3 #[.int .i64 xn.id])) ?f7 ?f8 ?f9 ?f10 ?f11)
                try (case f1 => rfl)
                try (case f2 => omega)
                try (case f3 => rfl)
                try (case f4 => rfl)
                try (case f5 => rfl)
                try (case f6 => intro e; cases e)
                try (case f7 => intro u hu; simp at hu; subst hu; rfl)
                try (case f8 => (try rw [List.length_append]); unfold maxLen; omega)
                try (case f9 => (try rw [List.length_append]); omega)
                try (case f10 => have := HB3.out.size; have := HY3.out.lt; simp; omega)
                case f11 =>
                  intro A7 c7 w7 hown7 hg7 _
                  have HB7 := Lib.hid ((HB3.out.alloc HB3.out.size (.cells #[.int .i64 xn.id] 3)).grown hg7 (by have := HB3.out.size; simp; omega) (fun k e => by have := (HO3.out.lt k e).1; omega))
                  have HX7 := Lib.hid ((HX3.out.alloc (.cells #[.int .i64 xn.id] 3)).grown hg7 (fun e => by have := (HO3.out.lt _ e.symm).1; omega))
                  have HY7 := Lib.hid ((HY3.out.alloc (.cells #[.int .i64 xn.id] 3)).grown hg7 (fun e => by have := (HO3.out.lt _ e.symm).1; omega))
                  have HO7 : Hid (OwnI w7 (w.heap.size + 2) (.slice A7 (o.length + 1) c7) (o ++ [xn.id])) := Lib.hid (by unfold OwnI; simpa using hown7)
                  clear hown7 hg7 x1 d0
                  go_wp2
                  go_roundg ((a.nodes.length - (i + 1)) + (b.nodes.length - (k + 1)))
                  case measure => have := HG.out; omega
                  case rel => exact ⟨i + 1, k + 1, o ++ [xn.id], _, rfl, by go_num, by go_num, rfl, by omega, by omega, by (try rw [List.length_append]); (try simp); omega, HB7.out, HX7.out, HY7.out, HO7.out, mg_diff HI.out HK.out HXN.out HYN.out HL.out HEQ.out HM.out⟩
            · have l1 : decide (xn.id < yn.id) = false := decide_eq_false (by omega)
              have l2 : decide (yn.id < xn.id) = true := decide_eq_true h
              have HL := Lib.hid h
              clear h
              go_wp2_with fail
              clear x1 y1 hxlt hylt
              have x1 : wr.cell? ⟨w.heap.size, 1, none⟩ = some (.slice (some ⟨bA, offA, none⟩) a.nodes.length cA) := HX.out.cell 1
              have y1 : wr.cell? ⟨w.heap.size + 1, 1, none⟩ = some (.slice (some ⟨bB, offB, none⟩) b.nodes.length cB) := HY.out.cell 1
              obtain ⟨d0, d1, d2, d3, d4, d5, d6⟩ := HCX.out wr HB.out
              obtain ⟨e0, e1, e2, e3, e4, e5, e6⟩ := HCY.out wr HB.out
              have hzt := HX.out.lt
              have hyt := HY.out.lt
              clear d1 d2 d3 d4 d5 d6 e1 e2 e3 e4 e5 e6
              have qx1 := cell_regrown (x1)
              have qy1 := cell_regrown (y1)
              have qd0 := cell_regrown (d0)
              have qe0 := cell_regrown (e0)
              clear x1 y1 d0 e0
              refine wp_region_quiet_below (by kernel_rfl) (by kernel_rfl) ?_
              repeat (first | go_big_quiet_step (fail) | quiet_step (fail))
              refine wpQuiet_nil ?_
              intro _ hw'
              obtain ⟨⟨dq, osq⟩, hw''⟩ := hw'
              subst hw''
              have HB1 := Lib.hid (HB.out.trans ((below_regrown wr dq osq).mono HB.out.size))
              have HX1 := Lib.hid (HX.out.below (below_regrown wr dq osq) hzt)
              have HY1 := Lib.hid (HY.out.below (below_regrown wr dq osq) hyt)
              have HO1 := Lib.hid (HO.out.below (below_regrown wr dq osq))
              clear hzt hyt HB HX HY HO qx1 qy1 qd0 qe0 
              obtain ⟨w1, hwi⟩ : ∃ u : World, Sort.grow (redrawn wr dq) osq = u := ⟨_, rfl⟩
              rw [hwi] at HB1 HX1 HY1 HO1 ⊢
              clear hwi
              go_wp2_with fail
              have x1 : w1.cell? ⟨w.heap.size, 1, none⟩ = some (.slice (some ⟨bA, offA, none⟩) a.nodes.length cA) := HX1.out.cell 1
              have y1 : w1.cell? ⟨w.heap.size + 1, 1, none⟩ = some (.slice (some ⟨bB, offB, none⟩) b.nodes.length cB) := HY1.out.cell 1
              obtain ⟨d0, d1, d2, d3, d4, d5, d6⟩ := HCX.out w1 HB1.out
              obtain ⟨e0, e1, e2, e3, e4, e5, e6⟩ := HCY.out w1 HB1.out
              have hzt := HX1.out.lt
              have hyt := HY1.out.lt
              clear d1 d2 d3 d4 d5 d6 e1 e2 e3 e4 e5 e6
              have qx1 := cell_regrown (x1)
              have qy1 := cell_regrown (y1)
              have qd0 := cell_regrown (d0)
              have qe0 := cell_regrown (e0)
              clear x1 y1 d0 e0
              refine wp_region_quiet_below (by kernel_rfl) (by kernel_rfl) ?_
              repeat (first | go_big_quiet_step (fail) | quiet_step (fail))
              refine wpQuiet_nil ?_
              intro _ hw'
              obtain ⟨⟨dq, osq⟩, hw''⟩ := hw'
              subst hw''
              have HB2 := Lib.hid (HB1.out.trans ((below_regrown w1 dq osq).mono HB1.out.size))
              have HX2 := Lib.hid (HX1.out.below (below_regrown w1 dq osq) hzt)
              have HY2 := Lib.hid (HY1.out.below (below_regrown w1 dq osq) hyt)
              have HO2 := Lib.hid (HO1.out.below (below_regrown w1 dq osq))
              clear hzt hyt HB1 HX1 HY1 HO1 qx1 qy1 qd0 qe0 
              obtain ⟨w2, hwi⟩ : ∃ u : World, Sort.grow (redrawn w1 dq) osq = u := ⟨_, rfl⟩
              rw [hwi] at HB2 HX2 HY2 HO2 ⊢
              clear hwi
              have x1 : w2.cell? ⟨w.heap.size, 1, none⟩ = some (.slice (some ⟨bA, offA, none⟩) a.nodes.length cA) := HX2.out.cell 1
              have y1 : w2.cell? ⟨w.heap.size + 1, 1, none⟩ = some (.slice (some ⟨bB, offB, none⟩) b.nodes.length cB) := HY2.out.cell 1
              obtain ⟨d0, d1, d2, d3, d4, d5, d6⟩ := HCX.out w2 HB2.out
              obtain ⟨e0, e1, e2, e3, e4, e5, e6⟩ := HCY.out w2 HB2.out
              clear x1 d0 d1 d2 d3 d4 d5 d6 e1 e2 e3 e4 e5 e6
              go_wp2_with (at_builtin; refine wpList_append_from _ rfl (.tmp 114) (.tmp 121) 54 rfl (w.heap.size + 2) 3 Try.underlying54 hint_info ?d1 ?d2 (.slice Av o.length cv) o.length (o.map (Value.int .i64)) ?d3 (World.ownsRow.alloc HO2.out (.cells #[.int .i64 yn.id] 3)) (some ⟨w2.heap.size, 0, none⟩) 1 1 [.int .i64 yn.id] ?d4 ?d5 ?d6 (fun ad e => by cases e; exact news_cells (Blk.new w2 3 #[.int .i64 yn.id])) ?d7 ?d8 ?d9 ?d10 ?d11)
              try (case d1 => rfl)
              try (case d2 => omega)
              try (case d3 => rfl)
              try (case d4 => rfl)
              try (case d5 => rfl)
              try (case d6 => intro e; cases e)
              try (case d7 => intro u hu; simp at hu; subst hu; rfl)
              try (case d8 => (try rw [List.length_append]); unfold maxLen; omega)
              try (case d9 => (try rw [List.length_append]); omega)
              try (case d10 => have := HB2.out.size; have := HY2.out.lt; simp; omega)
              case d11 =>
                intro A7 c7 w7 hown7 hg7 _
                have HB7 := Lib.hid ((HB2.out.alloc HB2.out.size (.cells #[.int .i64 yn.id] 3)).grown hg7 (by have := HB2.out.size; simp; omega) (fun k e => by have := (HO2.out.lt k e).1; omega))
                have HX7 := Lib.hid ((HX2.out.alloc (.cells #[.int .i64 yn.id] 3)).grown hg7 (fun e => by have := (HO2.out.lt _ e.symm).1; omega))
                have HY7 := Lib.hid ((HY2.out.alloc (.cells #[.int .i64 yn.id] 3)).grown hg7 (fun e => by have := (HO2.out.lt _ e.symm).1; omega))
                have HO7 : Hid (OwnI w7 (w.heap.size + 2) (.slice A7 (o.length + 1) c7) (o ++ [yn.id])) := Lib.hid (by unfold OwnI; simpa using hown7)
                clear hown7 hg7 y1 e0
                go_wp2
                go_roundg ((a.nodes.length - i) + (b.nodes.length - (k + 1)))
                case measure => have := HG.out; omega
                case rel => exact ⟨i, k + 1, o ++ [yn.id], _, rfl, by go_num, by go_num, rfl, by omega, by omega, by (try rw [List.length_append]); (try simp); omega, HB7.out, HX7.out, HY7.out, HO7.out, mg_right HK.out HYN.out (.inr ⟨HI.out, by rw [HXN.out]; exact HL.out⟩) HM.out⟩
          · have hk' : ¬ (k : Int) < b.nodes.length := by omega
            have gk : decide ((k : Int) < b.nodes.length) = false := decide_eq_false hk'
            have gke : ((k : Int) == (b.nodes.length : Int)) = true := beq_iff_eq.2 (by omega)
            go_wp2_with fail
            clear x1 y1 hxlt hylt
            have x1 : wr.cell? ⟨w.heap.size, 1, none⟩ = some (.slice (some ⟨bA, offA, none⟩) a.nodes.length cA) := HX.out.cell 1
            have y1 : wr.cell? ⟨w.heap.size + 1, 1, none⟩ = some (.slice B b.nodes.length cB) := HY.out.cell 1
            obtain ⟨d0, d1, d2, d3, d4, d5, d6⟩ := HCX.out wr HB.out
            have hzt := HX.out.lt
            have hyt := HY.out.lt
            clear d1 d2 d3 d4 d5 d6
            have qx1 := cell_regrown (x1)
            have qy1 := cell_regrown (y1)
            have qd0 := cell_regrown (d0)
            clear x1 y1 d0
            refine wp_region_quiet_below (by kernel_rfl) (by kernel_rfl) ?_
            repeat (first | go_big_quiet_step (fail) | quiet_step (fail))
            refine wpQuiet_nil ?_
            intro _ hw'
            obtain ⟨⟨dq, osq⟩, hw''⟩ := hw'
            subst hw''
            have HB1 := Lib.hid (HB.out.trans ((below_regrown wr dq osq).mono HB.out.size))
            have HX1 := Lib.hid (HX.out.below (below_regrown wr dq osq) hzt)
            have HY1 := Lib.hid (HY.out.below (below_regrown wr dq osq) hyt)
            have HO1 := Lib.hid (HO.out.below (below_regrown wr dq osq))
            clear hzt hyt HB HX HY HO qx1 qy1 qd0 
            obtain ⟨w1, hwi⟩ : ∃ u : World, Sort.grow (redrawn wr dq) osq = u := ⟨_, rfl⟩
            rw [hwi] at HB1 HX1 HY1 HO1 ⊢
            clear hwi
            have x1 : w1.cell? ⟨w.heap.size, 1, none⟩ = some (.slice (some ⟨bA, offA, none⟩) a.nodes.length cA) := HX1.out.cell 1
            have y1 : w1.cell? ⟨w.heap.size + 1, 1, none⟩ = some (.slice B b.nodes.length cB) := HY1.out.cell 1
            obtain ⟨d0, d1, d2, d3, d4, d5, d6⟩ := HCX.out w1 HB1.out
            clear y1 d1 d2 d3 d4 d5 d6
            go_wp2_with (at_builtin; refine wpList_append_from _ rfl (.tmp 82) (.tmp 89) 54 rfl (w.heap.size + 2) 3 Try.underlying54 hint_info ?a1 ?a2 (.slice Av o.length cv) o.length (o.map (Value.int .i64)) ?a3 (World.ownsRow.alloc HO1.out (.cells #[.int .i64 xn.id] 3)) (some ⟨w1.heap.size, 0, none⟩) 1 1 [.int .i64 xn.id] ?a4 ?a5 ?a6 (fun ad e => by cases e; exact news_cells (Blk.new w1 3 #[.int .i64 xn.id])) ?a7 ?a8 ?a9 ?a10 ?a11)
            try (case a1 => rfl)
            try (case a2 => omega)
            try (case a3 => rfl)
            try (case a4 => rfl)
            try (case a5 => rfl)
            try (case a6 => intro e; cases e)
            try (case a7 => intro u hu; simp at hu; subst hu; rfl)
            try (case a8 => (try rw [List.length_append]); unfold maxLen; omega)
            try (case a9 => (try rw [List.length_append]); omega)
            try (case a10 => have := HB1.out.size; have := HY1.out.lt; simp; omega)
            case a11 =>
              intro A7 c7 w7 hown7 hg7 _
              have HB7 := Lib.hid ((HB1.out.alloc HB1.out.size (.cells #[.int .i64 xn.id] 3)).grown hg7 (by have := HB1.out.size; simp; omega) (fun k e => by have := (HO1.out.lt k e).1; omega))
              have HX7 := Lib.hid ((HX1.out.alloc (.cells #[.int .i64 xn.id] 3)).grown hg7 (fun e => by have := (HO1.out.lt _ e.symm).1; omega))
              have HY7 := Lib.hid ((HY1.out.alloc (.cells #[.int .i64 xn.id] 3)).grown hg7 (fun e => by have := (HO1.out.lt _ e.symm).1; omega))
              have HO7 : Hid (OwnI w7 (w.heap.size + 2) (.slice A7 (o.length + 1) c7) (o ++ [xn.id])) := Lib.hid (by unfold OwnI; simpa using hown7)
              clear hown7 hg7 x1 d0
              go_wp2
              go_roundg ((a.nodes.length - (i + 1)) + (b.nodes.length - k))
              case measure => have := HG.out; omega
              case rel => exact ⟨i + 1, k, o ++ [xn.id], _, rfl, by go_num, by go_num, rfl, by omega, by omega, by (try rw [List.length_append]); (try simp); omega, HB7.out, HX7.out, HY7.out, HO7.out, mg_left HI.out HXN.out (.inl (by omega)) HM.out⟩
        · have hi' : ¬ (i : Int) < a.nodes.length := by omega
          have gi : decide ((i : Int) < a.nodes.length) = false := decide_eq_false hi'
          have gie : ((i : Int) == (a.nodes.length : Int)) = true := beq_iff_eq.2 (by omega)
          by_cases hk : k < b.nodes.length
          · have hk' : (k : Int) < b.nodes.length := by omega
            have gk : decide ((k : Int) < b.nodes.length) = true := decide_eq_true hk'
            have gke : ((k : Int) == (b.nodes.length : Int)) = false := beq_eq_false_iff_ne.2 (by omega)
            obtain ⟨bB, offB, Yp, yp, Yk, yk, Yr, yr, rfl, hcy, hp, hkk, hr⟩ := HNB.out k hk
            obtain ⟨yn, hyn⟩ : ∃ x, b.nodes[k] = x := ⟨_, rfl⟩
            rw [hyn] at hcy hp hkk hr
            have HYN := Lib.hid hyn; have HK := Lib.hid hk; have HCY := Lib.hid hcy; have HRY := Lib.hid (And.intro hp (And.intro hkk hr))
            clear hyn hcy hp hkk hr
            go_wp2_with fail
            clear x1 y1 hxlt hylt
            have x1 : wr.cell? ⟨w.heap.size, 1, none⟩ = some (.slice A a.nodes.length cA) := HX.out.cell 1
            have y1 : wr.cell? ⟨w.heap.size + 1, 1, none⟩ = some (.slice (some ⟨bB, offB, none⟩) b.nodes.length cB) := HY.out.cell 1
            obtain ⟨e0, e1, e2, e3, e4, e5, e6⟩ := HCY.out wr HB.out
            have hzt := HX.out.lt
            have hyt := HY.out.lt
            clear e1 e2 e3 e4 e5 e6
            have qx1 := cell_regrown (x1)
            have qy1 := cell_regrown (y1)
            have qe0 := cell_regrown (e0)
            clear x1 y1 e0
            refine wp_region_quiet_below (by kernel_rfl) (by kernel_rfl) ?_
            repeat (first | go_big_quiet_step (fail) | quiet_step (fail))
            refine wpQuiet_nil ?_
            intro _ hw'
            obtain ⟨⟨dq, osq⟩, hw''⟩ := hw'
            subst hw''
            have HB1 := Lib.hid (HB.out.trans ((below_regrown wr dq osq).mono HB.out.size))
            have HX1 := Lib.hid (HX.out.below (below_regrown wr dq osq) hzt)
            have HY1 := Lib.hid (HY.out.below (below_regrown wr dq osq) hyt)
            have HO1 := Lib.hid (HO.out.below (below_regrown wr dq osq))
            clear hzt hyt HB HX HY HO qx1 qy1 qe0 
            obtain ⟨w1, hwi⟩ : ∃ u : World, Sort.grow (redrawn wr dq) osq = u := ⟨_, rfl⟩
            rw [hwi] at HB1 HX1 HY1 HO1 ⊢
            clear hwi
            go_wp2_with fail
            have x1 : w1.cell? ⟨w.heap.size, 1, none⟩ = some (.slice A a.nodes.length cA) := HX1.out.cell 1
            have y1 : w1.cell? ⟨w.heap.size + 1, 1, none⟩ = some (.slice (some ⟨bB, offB, none⟩) b.nodes.length cB) := HY1.out.cell 1
            obtain ⟨e0, e1, e2, e3, e4, e5, e6⟩ := HCY.out w1 HB1.out
            have hzt := HX1.out.lt
            have hyt := HY1.out.lt
            clear e1 e2 e3 e4 e5 e6
            have qx1 := cell_regrown (x1)
            have qy1 := cell_regrown (y1)
            have qe0 := cell_regrown (e0)
            clear x1 y1 e0
            refine wp_region_quiet_below (by kernel_rfl) (by kernel_rfl) ?_
            repeat (first | go_big_quiet_step (fail) | quiet_step (fail))
            refine wpQuiet_nil ?_
            intro _ hw'
            obtain ⟨⟨dq, osq⟩, hw''⟩ := hw'
            subst hw''
            have HB2 := Lib.hid (HB1.out.trans ((below_regrown w1 dq osq).mono HB1.out.size))
            have HX2 := Lib.hid (HX1.out.below (below_regrown w1 dq osq) hzt)
            have HY2 := Lib.hid (HY1.out.below (below_regrown w1 dq osq) hyt)
            have HO2 := Lib.hid (HO1.out.below (below_regrown w1 dq osq))
            clear hzt hyt HB1 HX1 HY1 HO1 qx1 qy1 qe0 
            obtain ⟨w2, hwi⟩ : ∃ u : World, Sort.grow (redrawn w1 dq) osq = u := ⟨_, rfl⟩
            rw [hwi] at HB2 HX2 HY2 HO2 ⊢
            clear hwi
            have x1 : w2.cell? ⟨w.heap.size, 1, none⟩ = some (.slice A a.nodes.length cA) := HX2.out.cell 1
            have y1 : w2.cell? ⟨w.heap.size + 1, 1, none⟩ = some (.slice (some ⟨bB, offB, none⟩) b.nodes.length cB) := HY2.out.cell 1
            obtain ⟨e0, e1, e2, e3, e4, e5, e6⟩ := HCY.out w2 HB2.out
            clear x1 e1 e2 e3 e4 e5 e6
            go_wp2_with (at_builtin; refine wpList_append_from _ rfl (.tmp 114) (.tmp 121) 54 rfl (w.heap.size + 2) 3 Try.underlying54 hint_info ?c1 ?c2 (.slice Av o.length cv) o.length (o.map (Value.int .i64)) ?c3 (World.ownsRow.alloc HO2.out (.cells #[.int .i64 yn.id] 3)) (some ⟨w2.heap.size, 0, none⟩) 1 1 [.int .i64 yn.id] ?c4 ?c5 ?c6 (fun ad e => by cases e; exact news_cells (Blk.new w2 3 #[.int .i64 yn.id])) ?c7 ?c8 ?c9 ?c10 ?c11)
            try (case c1 => rfl)
            try (case c2 => omega)
            try (case c3 => rfl)
            try (case c4 => rfl)
            try (case c5 => rfl)
            try (case c6 => intro e; cases e)
            try (case c7 => intro u hu; simp at hu; subst hu; rfl)
            try (case c8 => (try rw [List.length_append]); unfold maxLen; omega)
            try (case c9 => (try rw [List.length_append]); omega)
            try (case c10 => have := HB2.out.size; have := HY2.out.lt; simp; omega)
            case c11 =>
              intro A7 c7 w7 hown7 hg7 _
              have HB7 := Lib.hid ((HB2.out.alloc HB2.out.size (.cells #[.int .i64 yn.id] 3)).grown hg7 (by have := HB2.out.size; simp; omega) (fun k e => by have := (HO2.out.lt k e).1; omega))
              have HX7 := Lib.hid ((HX2.out.alloc (.cells #[.int .i64 yn.id] 3)).grown hg7 (fun e => by have := (HO2.out.lt _ e.symm).1; omega))
              have HY7 := Lib.hid ((HY2.out.alloc (.cells #[.int .i64 yn.id] 3)).grown hg7 (fun e => by have := (HO2.out.lt _ e.symm).1; omega))
              have HO7 : Hid (OwnI w7 (w.heap.size + 2) (.slice A7 (o.length + 1) c7) (o ++ [yn.id])) := Lib.hid (by unfold OwnI; simpa using hown7)
              clear hown7 hg7 y1 e0
              go_wp2
              go_roundg ((a.nodes.length - i) + (b.nodes.length - (k + 1)))
              case measure => have := HG.out; omega
              case rel => exact ⟨i, k + 1, o ++ [yn.id], _, rfl, by go_num, by go_num, rfl, by omega, by omega, by (try rw [List.length_append]); (try simp); omega, HB7.out, HX7.out, HY7.out, HO7.out, mg_right HK.out HYN.out (.inl (by omega)) HM.out⟩
          · have hk' : ¬ (k : Int) < b.nodes.length := by omega
            have gk : decide ((k : Int) < b.nodes.length) = false := decide_eq_false hk'
            have gke : ((k : Int) == (b.nodes.length : Int)) = true := beq_iff_eq.2 (by omega)
            have HEND := Lib.hid (mg_end (by omega) (by omega) HM.out)
            go_wp2
            refine bodyPost_ret (v := .tuple #[.slice Av o.length cv, .int .i64 0]) (by simp [results, Try.results27, go_sem]) rfl ?_
            refine ⟨_, by rw [HE.out.1], ?_, HB.out⟩
            rw [HE.out.2, ← HEND.out]
            exact HO.out.weaken (by omega)
    · have HZ : Hid (checkI b = 29) := Lib.hid cb
      rw [rb] at HCB
      clear cb rb
      go_enter Try.func27, Try.ntmps27
      go_wp2_with fail
      obtain ⟨u0, hu0⟩ : ∃ u : World, (w.alloc (.cells #[.int .i64 a.next, .slice A a.nodes.length cA] 27)).alloc (.cells #[.int .i64 b.next, .slice B b.nodes.length cB] 27) = u := ⟨_, rfl⟩
      have HB : Hid (Below w.heap.size w u0) := Lib.hid (by rw [← hu0]; exact ((Below.refl w.heap.size w).alloc (Nat.le_refl _) _).alloc (by simp) _)
      have HX : Hid (Blk u0 w.heap.size 27 #[.int .i64 a.next, .slice A a.nodes.length cA]) := Lib.hid (by rw [← hu0]; exact (Blk.new _ _ _).alloc _)
      have HY : Hid (Blk u0 (w.heap.size + 1) 27 #[.int .i64 b.next, .slice B b.nodes.length cB]) := Lib.hid (by rw [← hu0]; exact Blk.new' (by simp))
      (try rw [hu0])
      clear hu0
      refine (HCA.out _ HB.out).mono ?_
      rintro _ u1 ⟨rfl, hb1⟩
      have HB3 := Lib.hid (HB.out.trans (hb1.mono HB.out.size))
      have HX3 := Lib.hid (HX.out.below hb1 HX.out.lt)
      have HY3 := Lib.hid (HY.out.below hb1 HY.out.lt)
      clear hb1 HB HX HY
      have y0 := HY3.out.cell 0; have y1 := HY3.out.cell 1
      have hylt := HY3.out.lt
      simp at y0 y1
      go_wp2_with fail
      clear y0 y1 hylt
      refine (HCB.out _ HB3.out).mono ?_
      rintro _ wi ⟨rfl, hb1⟩
      have HB5 := Lib.hid (HB3.out.trans (hb1.mono HB3.out.size))
      have HX5 := Lib.hid (HX3.out.below hb1 HX3.out.lt)
      have HY5 := Lib.hid (HY3.out.below hb1 HY3.out.lt)
      clear hb1 HB3 HX3 HY3
      go_wp2
      refine bodyPost_ret (v := .tuple #[.slice none 0 0, .int .i64 29]) (by simp [results, Try.results27, go_sem]) rfl ?_
      have hn : ¬ (checkI a = 0 ∧ checkI b = 0) := by have := HZ.out; omega
      refine ⟨_, by unfold touchE; rw [if_neg hn], ?_, HB5.out⟩
      unfold touchL
      rw [if_neg hn]
      exact OwnI.nil _ _
  · have HZ : Hid (checkI a = 29) := Lib.hid ca
    rw [ra] at HCA
    clear ca ra
    go_enter Try.func27, Try.ntmps27
    go_wp2_with fail
    obtain ⟨u0, hu0⟩ : ∃ u : World, (w.alloc (.cells #[.int .i64 a.next, .slice A a.nodes.length cA] 27)).alloc (.cells #[.int .i64 b.next, .slice B b.nodes.length cB] 27) = u := ⟨_, rfl⟩
    have HB : Hid (Below w.heap.size w u0) := Lib.hid (by rw [← hu0]; exact ((Below.refl w.heap.size w).alloc (Nat.le_refl _) _).alloc (by simp) _)
    have HX : Hid (Blk u0 w.heap.size 27 #[.int .i64 a.next, .slice A a.nodes.length cA]) := Lib.hid (by rw [← hu0]; exact (Blk.new _ _ _).alloc _)
    have HY : Hid (Blk u0 (w.heap.size + 1) 27 #[.int .i64 b.next, .slice B b.nodes.length cB]) := Lib.hid (by rw [← hu0]; exact Blk.new' (by simp))
    (try rw [hu0])
    clear hu0
    refine (HCA.out _ HB.out).mono ?_
    rintro _ u1 ⟨rfl, hb1⟩
    have HB3 := Lib.hid (HB.out.trans (hb1.mono HB.out.size))
    have HX3 := Lib.hid (HX.out.below hb1 HX.out.lt)
    have HY3 := Lib.hid (HY.out.below hb1 HY.out.lt)
    clear hb1 HB HX HY
    have y0 := HY3.out.cell 0; have y1 := HY3.out.cell 1
    have hylt := HY3.out.lt
    simp at y0 y1
    go_wp2_with fail
    have HB5 := HB3
    clear HY3 HX3 HB3
    go_wp2
    refine bodyPost_ret (v := .tuple #[.slice none 0 0, .int .i64 29]) (by simp [results, Try.results27, go_sem]) rfl ?_
    have hn : ¬ (checkI a = 0 ∧ checkI b = 0) := by have := HZ.out; omega
    refine ⟨_, by unfold touchE; rw [if_neg hn], ?_, HB5.out⟩
    unfold touchL
    rw [if_neg hn]
    exact OwnI.nil _ _
end Go.Proofs.Ytpjkifbicfcajaa
