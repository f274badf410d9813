import Derived.Test.YtpkapommekkbcaaDoorSheetRA
import Derived.Test.YtpkapommekkbcaaDoorBuf2
import Derived.Test.YtpkapommekkbcaaDoorATellsA
import Derived.Test.YtpkapommekkbcaaDoorMemN
import Derived.Test.YtpkapommekkbcaaDoorAFindR
import Derived.Test.YtpkapommekkbcaaDoorRegZ
set_option linter.unusedSimpArgs false
set_option linter.unusedVariables false
/- topiaryref03.Print: the document's text of a model -/
namespace Go.Proofs.YtpkapommekkbcaaDoor
open Go Go.RowKit

theorem OwnI.keepB {w w' W0 : World} {base B : Nat} {vo v : Value} {OL : List Int} {l : List UInt8} (h : OwnI w base vo OL) (hb : Buf2 B 5 v l W0 w) (hg : w.grownBy w' v.ownBlock) : OwnI w' base vo OL := by
  refine h.kept hg ?_
  rcases h.2 with ⟨rfl, _⟩ | ⟨g, cap, cur, rfl, _, hh, _⟩
  · exact .inl rfl
  · exact .inr (fun e => (hb.ne hh (by decide)) (by rw [← e]; rfl))
theorem next_lines (z : ANode) (d : Nat) (L : List UInt8) (k : Nat) (hk : k < z.props.length) : L ++ joinL ((z.props.take (k + 1)).map (lineP d)) = (L ++ joinL ((z.props.take k).map (lineP d))) ++ (byt (lineP d z.props[k]) ++ ⟨#[10]⟩ : ByteArray).data.toList := by
  rw [List.take_succ_eq_append_getElem hk, List.map_append, joinL_app, List.append_assoc, show (⟨#[10]⟩ : ByteArray) = byt [10] from rfl, byt_app, byt_list, List.map_cons, List.map_nil, joinL_one]
theorem next_linesR (z : ANode) (d : Nat) (L : List UInt8) (k : Nat) (hk : k < z.refs.length) : L ++ joinL ((z.refs.take (k + 1)).map (lineR d)) = (L ++ joinL ((z.refs.take k).map (lineR d))) ++ (byt (lineR d z.refs[k]) ++ ⟨#[10]⟩ : ByteArray).data.toList := by
  rw [List.take_succ_eq_append_getElem hk, List.map_append, joinL_app, List.append_assoc, show (⟨#[10]⟩ : ByteArray) = byt [10] from rfl, byt_app, byt_list, List.map_cons, List.map_nil, joinL_one]
theorem node_join (z : ANode) (d : Nat) (L : List UInt8) : L ++ joinL (nodeLs z d) = ((L ++ (byt (lineN z d) ++ ⟨#[10]⟩ : ByteArray).data.toList) ++ joinL ((z.props.take z.props.length).map (lineP d))) ++ joinL ((z.refs.take z.refs.length).map (lineR d)) := by
  rw [List.take_length, List.take_length, show (⟨#[10]⟩ : ByteArray) = byt [10] from rfl, byt_app, byt_list]
  unfold nodeLs
  rw [joinL_cons, joinL_app]
  simp only [List.append_assoc]
theorem set7_far {w : World} {g b : Nat} {b0 b1 b2 b3 b4 b5 b6 : Value} (h : b ≠ g) :
    (((((((w.setCell ⟨g, 0, none⟩ b0).setCell ⟨g, 1, none⟩ b1).setCell ⟨g, 2, none⟩ b2).setCell ⟨g, 3, none⟩ b3).setCell ⟨g, 4, none⟩ b4).setCell ⟨g, 5, none⟩ b5).setCell ⟨g, 6, none⟩ b6).heap[b]? = w.heap[b]? :=
  (Below.heap_setCell _ _ _ _ h).trans ((Below.heap_setCell _ _ _ _ h).trans ((Below.heap_setCell _ _ _ _ h).trans ((Below.heap_setCell _ _ _ _ h).trans ((Below.heap_setCell _ _ _ _ h).trans ((Below.heap_setCell _ _ _ _ h).trans (Below.heap_setCell _ _ _ _ h))))))
/-- a node as Find answers it -/
theorem node_found {w2 : World} {F : Nat → Prop} {m : AModel} {z : ANode} {k : Int} (hc : CheckM m) (hz : z ∈ m.nodes) (hk : z.id = k) {v : Value} (h : FoundIn w2 F m k v) :
    ∃ P cp K ck R cr, v = .tuple #[.agg #[.int .i64 k, .string z.concept, .int .i64 z.parent, .string z.role, .slice P z.props.length cp, .slice K z.kids.length ck, .slice R z.refs.length cr], .bool true] ∧ RowOf 2 EProp w2 F P z.props ∧ RowOf 2 ERef w2 F R z.refs := by
  rcases h with ⟨y, hy, _, hi, vp, vk, vr, rfl, hp, hkk, hr⟩ | ⟨hn, _⟩
  · have e : y = z := node_inj hc.1.2 hy hz (hi.trans hk.symm)
    subst e
    obtain ⟨P, cp, rfl, _, _, h1⟩ := hp
    obtain ⟨K, ck, rfl, _⟩ := hkk
    obtain ⟨R, cr, rfl, _, _, h3⟩ := hr
    subst hk
    exact ⟨P, cp, K, ck, R, cr, rfl, h1, h3⟩
  · exact absurd ⟨hc, z, hz, hk⟩ hn
theorem head_join (m : AModel) : (((⟨#[110, 101, 120, 116, 32]⟩ : ByteArray) ++ byt (digs m.next.toNat)) ++ ⟨#[10]⟩ : ByteArray).data.toList = docTo m 0 := by
  rw [show (⟨#[110, 101, 120, 116, 32]⟩ : ByteArray) = byt [110, 101, 120, 116, 32] from rfl, show (⟨#[10]⟩ : ByteArray) = byt [10] from rfl, byt_app, byt_app, byt_list]
  unfold docTo headLn
  simp [joinL]

set_option maxRecDepth 100000 in
set_option maxHeartbeats 8000000 in
theorem rprintM_any (A : Option Addr) (c : Nat) (m : AModel) (w : World) (F : Nat → Prop) (hF : ∀ b, F b → b < w.heap.size) (h : RowOf 7 ENode w F A m.nodes) (hz : ∀ x ∈ m.nodes, NodeOK x) (hl : m.nodes.length ≤ 9223372036854775807) (hfew : ∀ x ∈ m.nodes, x.props.length + x.refs.length ≤ 600) :
    Calls Tryd.prog 7 #[.agg #[.int .i64 m.next, .slice A m.nodes.length c]] w fun e w' => ∃ v, e = .returned v ∧ PrintRes m v ∧ Below w.heap.size w w' := by
  have HBA := Lib.hid ((Below.refl w.heap.size w).alloc (Nat.le_refl _) (.cells #[.int .i64 m.next, .slice A m.nodes.length c] 24))
  have HC := Lib.hid (right_any A c m (w.alloc (.cells #[.int .i64 m.next, .slice A m.nodes.length c] 24)) F (fun b hb => Nat.lt_of_lt_of_le (hF b hb) HBA.out.size) (h.keep ENode.stays (Keep.below HBA.out hF) (fun _ h => h)) (fun x hx => (hz x hx).1) hl)
  have HROW : Hid (∀ V, Below w.heap.size w V → RowOf 7 ENode V F A m.nodes) := Lib.hid (fun V hb => h.keep ENode.stays (Keep.below hb hF) (fun _ h => h))
  have HFV : Hid (∀ V, Below w.heap.size w V → ∀ b, F b → b < V.heap.size) := Lib.hid (fun V hb b hx => Nat.lt_of_lt_of_le (hF b hx) hb.size)
  have HZ := Lib.hid hz; have HF := Lib.hid hF; have HFEW := Lib.hid hfew; have HL9 := Lib.hid hl
  clear h hz hfew hl
  by_cases hc : CheckM m
  rotate_left 1
  · have HC2 := Lib.hid (res_is (rightM_is.2 hc) HC.out)
    have HNC := Lib.hid hc
    clear hc HC hF
    go_enter Tryd.func7, Tryd.ntmps7
    go_wp2_with fail
    refine HC2.out.mono ?_
    rintro _ w2 ⟨rfl, hb2⟩
    have HB2 := Lib.hid (HBA.out.trans (hb2.mono HBA.out.size))
    clear hb2
    go_wp2
    refine bodyPost_ret (results_tmp2 rfl _ _ _) rfl ?_
    exact ⟨_, rfl, .inl ⟨HNC.out, rfl⟩, HB2.out⟩
  have HCM := Lib.hid hc
  have HC2 := Lib.hid (res_is (rightM_is.1 hc) HC.out)
  have hn1 := hc.1.1.1; have hn2 := hc.1.1.2.1
  have hl4 : m.nodes.length ≤ 4096 := hc.1.1.2.2
  have hol : (orderL m).length ≤ 4096 := Nat.le_trans hc.tree.order_len hl4
  have hdl := digs_len 9 m.next.toNat (by omega)
  have HSH := Lib.hid (fun V => shown_any m.next hn1 (by omega) V)
  have HHJ := Lib.hid (head_join m)
  have HALL := Lib.hid (docTo_all m); have HLE := Lib.hid (docTo_le m)
  obtain ⟨D, hD⟩ : ∃ D, byt (digs m.next.toNat) = D := ⟨_, rfl⟩
  have hds : D.size ≤ 10 := by rw [← hD, byt_size]; exact hdl
  rw [hD] at HSH HHJ
  clear hc HC hF hD hdl
  have n1 : ¬ 9223372036854775807 < 5 + D.size := by omega
  have n2 : ¬ 9223372036854775807 < 5 + D.size + 1 := by omega
  go_enter Tryd.func7, Tryd.ntmps7
  go_wp2_with fail
  refine HC2.out.mono ?_
  rintro _ w2 ⟨rfl, hb2⟩
  have HB2 := Lib.hid (HBA.out.trans (hb2.mono HBA.out.size))
  have HM2 := Lib.hid ((Blk.new w 24 #[.int .i64 m.next, .slice A m.nodes.length c]).below hb2 (by simp))
  have m0 := HM2.out.cell 0
  have hmlt := HM2.out.lt
  simp at m0
  clear hb2 HC2 HBA
  go_wp2_with fail
  refine (HSH.out w2).mono ?_
  rintro _ w3 ⟨rfl, hb3⟩
  have HB3 := Lib.hid (HB2.out.trans (hb3.mono HB2.out.size))
  have HM3 := Lib.hid (HM2.out.below hb3 hmlt)
  clear hb3 HB2 HM2 HSH m0 hmlt
  obtain ⟨T, hT⟩ : ∃ T, (((⟨#[110, 101, 120, 116, 32]⟩ : ByteArray) ++ D) ++ ⟨#[10]⟩ : ByteArray) = T := ⟨_, rfl⟩
  have hts : T.size = 5 + D.size + 1 := by rw [← hT, ByteArray.size_append, ByteArray.size_append]; rfl
  obtain ⟨v8, w8, hcv, hbuf⟩ := Buf2.start (P := Tryd.prog) (e := 5) w3 T Tryd.underlying9 Tryd.underlying42 Tryd.underlying5 (by omega) (by unfold maxLen; omega)
  rw [hT] at HHJ
  rw [HHJ.out] at hbuf
  have HB0 := Lib.hid hbuf
  have HM8 := Lib.hid (HM3.out.below hbuf.far HM3.out.lt)
  have HB8 := Lib.hid (HB3.out.trans (hbuf.far.mono HB3.out.size))
  have HOR := Lib.hid (rorder_any A c m w8 F (HFV.out _ HB8.out) (HROW.out _ HB8.out) HZ.out HL9.out)
  rw [ordL_yes HCM.out] at HOR
  have m0 := HM8.out.cell 0; have m1 := HM8.out.cell 1
  have hmlt := HM8.out.lt
  simp at m0 m1
  clear hbuf HHJ
  go_wp2_with fail
  refine HOR.out.mono ?_
  rintro _ w9 ⟨vo, rfl, hown, hb9⟩
  have HBUF := Lib.hid (HB0.out.below hb9)
  have HOWN := Lib.hid hown
  obtain ⟨OL, hOL⟩ : ∃ OL, orderL m = OL := ⟨_, rfl⟩
  obtain ⟨Ao, co, rfl⟩ := hown.shape
  rw [hOL] at HOWN HALL hol
  have HOL := Lib.hid hOL
  rw [hOL]
  clear hown hb9 hOL HB0 HM8 HB8 HOR m0 m1 hmlt hcv n1 n2
  have HMV : Hid (∀ V, Below w3.heap.size w3 V → Below w.heap.size w V ∧ Blk V w.heap.size 24 #[.int .i64 m.next, .slice A m.nodes.length c]) := Lib.hid (fun V hb => ⟨HB3.out.trans (hb.mono HB3.out.size), HM3.out.below hb HM3.out.lt⟩)
  obtain ⟨on, hon⟩ : ∃ n, OL.length = n := ⟨_, rfl⟩
  rw [hon] at HALL hol HOWN ⊢
  have HON := Lib.hid hon
  clear hon hT hts hds
  go_upto_region 6 with fail
  go_loopg [4, 6] on (fun g s4 s6 wx => ∃ (i : Nat) (v : Value), s6 = .int .i64 i ∧ s4 = v ∧ g = on - i ∧ i ≤ on ∧ Buf2 w3.heap.size 5 v (docTo m i) w3 wx ∧ OwnI wx w8.heap.size (.slice Ao on co) OL ∧ (docTo m i).length ≤ 16000000)
  case atStart => exact ⟨0, _, rfl, rfl, rfl, Nat.zero_le _, HBUF.out, HOWN.out, by
    unfold docTo
    simp only [List.take_zero, List.flatMap_nil, joinL_one, headLn, List.length_append, List.length_cons, List.length_nil]
    have := digs_len 9 m.next.toNat (by omega)
    omega⟩
  case round =>
    clear HBUF HOWN
    obtain ⟨i, v, rfl, rfl, rfl, hin, hbuf, hown, hdl⟩ := hrel
    have HBUF := Lib.hid hbuf; have HOWN := Lib.hid hown
    obtain ⟨gv, cv, rfl⟩ := hbuf.shape
    have i0 : (0 : Int) ≤ i := by omega
    have HDLE := HLE.out i
    obtain ⟨L, hL⟩ : ∃ L, docTo m i = L := ⟨_, rfl⟩
    rw [hL] at HBUF hdl HDLE ⊢
    have HLD := Lib.hid hL
    clear hbuf hown hL
    by_cases hi : i < on
    rotate_left 1
    · obtain rfl : i = on := by omega
      have hi' : ¬ (i : Int) < i := by omega
      have HTX2 : Hid (L = textL m) := Lib.hid (by rw [← HLD.out]; exact HALL.out)
      have HTX1 : Hid (L.length ≤ 1048576 → (textL m).length ≤ 1048576) := Lib.hid (fun h => by rw [← HTX2.out]; exact h)
      by_cases hx : L.length ≤ 1048576
      · have hx' : ¬ (1048576 : Int) < L.length := by omega
        have hcv := HBUF.out.text (P := Tryd.prog) Tryd.underlying42 Tryd.underlying5 Tryd.underlying9
        have HEND := Lib.hid (HMV.out _ HBUF.out.far).1
        clear HBUF HOWN
        go_wp2
        refine bodyPost_ret (results_tmp2 rfl _ _ _) rfl ?_
        exact ⟨_, rfl, .inr (.inl ⟨HCM.out, HTX1.out hx, by rw [← HTX2.out]; rfl⟩), HEND.out⟩
      · have hx' : (1048576 : Int) < L.length := by omega
        have HEND := Lib.hid (HMV.out _ HBUF.out.far).1
        clear HBUF HOWN
        go_wp2
        refine bodyPost_ret (results_tmp2 rfl _ _ _) rfl ?_
        exact ⟨_, rfl, .inr (.inr ⟨HCM.out, by omega, rfl⟩), HEND.out⟩
    have hi' : (i : Int) < on := by omega
    by_cases hx : L.length ≤ 1048576
    rotate_left 1
    · have hx' : ¬ (L.length : Int) ≤ 1048576 := by omega
      have hx2 : (1048576 : Int) < L.length := by omega
      have HEND := Lib.hid (HMV.out _ HBUF.out.far).1
      clear HBUF HOWN
      go_wp2
      refine bodyPost_ret (results_tmp2 rfl _ _ _) rfl ?_
      exact ⟨_, rfl, .inr (.inr ⟨HCM.out, by omega, rfl⟩), HEND.out⟩
    have hx' : (L.length : Int) ≤ 1048576 := by omega
    have hio : i < (orderL m).length := by rw [HOL.out, HON.out]; exact hi
    have hNX := docTo_next hio
    obtain ⟨k, hk⟩ : ∃ k, (orderL m)[i] = k := ⟨_, rfl⟩
    rw [hk] at hNX
    obtain ⟨z, hzm, hzi⟩ := HCM.out.tree.order_node (by rw [← hk]; exact List.getElem_mem hio : k ∈ orderL m)
    obtain ⟨d, hd, hd1, hd2⟩ := dep_any HCM.out hzm
    have hki : InR k := by
      have h1 := (fit_of HCM.out hzm).id1; have h2 := (fit_of HCM.out hzm).id2
      rw [hzi] at h1 h2
      unfold InR; omega
    have HKO : Hid (∀ V, OwnI V w8.heap.size (.slice Ao on co) OL → ∃ ga, Ao = some ⟨ga, 0, none⟩ ∧ V.cell? ⟨ga, i, none⟩ = some (.int .i64 k)) := Lib.hid (fun V ho => by
      have hio2 : i < OL.length := by rw [HON.out]; exact hi
      obtain ⟨A', c', e, _, _, h3⟩ := ho.isRow (F := fun _ => True) (fun _ _ _ => trivial)
      injection e with e1; subst e1
      obtain ⟨b, off, e2, _, h4⟩ := int_at h3 hio2
      have e3 : OL[i] = k := by rw [← hk]; congr 1; exact HOL.out.symm
      rw [e3] at h4
      rcases ho.2 with ⟨e4, _⟩ | ⟨g, cap, cur, e4, _⟩
      · injection e4 with e4; rw [e2] at e4; cases e4
      · injection e4 with e4
        rw [e2] at e4
        injection e4 with e4; injection e4 with e5 e6
        subst e5; subst e6
        exact ⟨b, e2, by simpa using h4⟩)
    obtain ⟨ga, rfl, d0⟩ := HKO.out _ HOWN.out
    clear d0 hk
    rw [← hzi, nodeAt_eq HCM.out hzm hd, HLD.out] at hNX
    have hFIT := fit_of HCM.out hzm
    have hjl := joinL_len (fit_len hFIT hd2)
    have hnl : (nodeLs z d).length ≤ 601 := by
      have := HFEW.out z hzm
      unfold nodeLs
      simp only [List.length_cons, List.length_append, List.length_map]
      omega
    have hdlen : (docTo m (i + 1)).length ≤ 16000000 := by
      rw [hNX, List.length_append]
      have := Nat.mul_le_mul_right (20000 + 1) hnl
      omega
    rw [node_join] at hNX
    have hd64 : d ≤ 64 := hd2
    have hdep : depR m k = d := by rw [← hzi]; exact depR_yes HCM.out hd
    have hrole : d ≤ 1 → z.role = ⟨#[]⟩ := fun h => hFIT.root (dep_root HCM.out hzm hd h)
    have HFIT := Lib.hid hFIT; have HNX := Lib.hid hNX; have HDL := Lib.hid hdlen; have HZM := Lib.hid hzm; have HZI := Lib.hid hzi; have HDEP := Lib.hid hdep
    have HLI := Lib.hid (fun (vp vk vr : Value) (V : World) => rline_any z d hd1 (by omega) hrole (by have := hFIT.con; omega) (by have := hFIT.rol; omega) hFIT.id1 (by have := hFIT.id2; omega) vp vk vr V)
    rw [hzi] at HLI
    have hlns : (byt (lineN z d)).size ≤ 20000 := fit_len hFIT hd2 _ (List.mem_cons_self ..)
    obtain ⟨ls, hls⟩ : ∃ s, byt (lineN z d) = s := ⟨_, rfl⟩
    rw [hls] at HLI HNX hlns
    have HFD := Lib.hid (fun (V : World) (hb : Below w.heap.size w V) => findR_any A c m V F (HFV.out V hb) (HROW.out V hb) HZ.out HL9.out k hki)
    clear hNX hjl hnl hdlen hd hd2 hFIT hls hrole hdep hzm hzi hio
    have HBW : Hid (Below w.heap.size w wr) := Lib.hid (HMV.out _ HBUF.out.far).1
    go_upto_region 8 with fail
    have MM : Hid (Mem wr wr []) := Lib.hid (Mem.start wr)
    go_cut [7, 8] (fun sa sb wx => ∃ (nb : Nat) (P Kp R : Option Addr) (cp ck cr : Nat), sa = .pointer (some ⟨nb, 0, none⟩) ∧ sb = .bool true ∧ Mem wr wx [.blk nb 37 #[.int .i64 k, .string z.concept, .int .i64 z.parent, .string z.role, .slice P z.props.length cp, .slice Kp z.kids.length ck, .slice R z.refs.length cr]] ∧ RowOf 2 EProp wx F P z.props ∧ RowOf 2 ERef wx F R z.refs)
    case first =>
      obtain ⟨u, hu⟩ : ∃ z9 : World, wr.drew = z9 := ⟨_, rfl⟩
      have MM2 : Hid (Mem wr u ([])) := Lib.hid (by rw [← hu]; exact MM.out.drew)
      clear MM
      have MM := MM2
      clear MM2
      have HSM : Hid (∀ w', Below wr.heap.size wr w' → w'.cell? ⟨w.heap.size, 0, none⟩ = some (.int .i64 m.next) ∧ w'.cell? ⟨w.heap.size, 1, none⟩ = some (.slice A m.nodes.length c) ∧ w'.cell? ⟨ga, i, none⟩ = some (.int .i64 k)) := Lib.hid (fun w' hb => by
        have h := (HMV.out w' (HBUF.out.below hb).far).2
        have a := h.cell 0; have b := h.cell 1
        simp at a b
        obtain ⟨g2, e, h4⟩ := HKO.out _ (HOWN.out.below hb)
        injection e with e; injection e with e
        subst e
        exact ⟨a, b, h4⟩)
      refine wp_region_Y (S := (fun w' : World => w'.cell? ⟨w.heap.size, 0, none⟩ = some (.int .i64 m.next) ∧ w'.cell? ⟨w.heap.size, 1, none⟩ = some (.slice A m.nodes.length c) ∧ w'.cell? ⟨ga, i, none⟩ = some (.int .i64 k))) 11 (by kernel_rfl) (by rw [hu]; exact HSM.out _ MM.out.below) (fun hHeld => ?_)
      rw [hu] at hHeld ⊢
      clear hu
      refine wpAnyY_take (i := 0) (v := ?_) rfl (by kernel_rfl) (by kernel_rfl) (by kernel_rfl) (by kernel_rfl) (fun _ _ _ h => h) (Or.inl ⟨by rfl, ?_⟩) (by assumption) ?_
      rotate_left 1
      · (intro w' hSw; obtain ⟨s0, s1, s2⟩ := hSw; go_simp); try with_reducible rfl
      try simp only [Act.put, List.setIfInBounds_toArray, List.set_cons_zero, List.set_cons_succ, Nat.zero_add]
      refine wpAnyY_take (i := 1) (v := ?_) rfl (by kernel_rfl) (by kernel_rfl) (by kernel_rfl) (by kernel_rfl) (fun _ _ _ h => h) (Or.inl ⟨by rfl, ?_⟩) (by assumption) ?_
      rotate_left 1
      · (intro w' hSw; obtain ⟨s0, s1, s2⟩ := hSw; go_simp); try with_reducible rfl
      try simp only [Act.put, List.setIfInBounds_toArray, List.set_cons_zero, List.set_cons_succ, Nat.zero_add]
      refine wpAnyY_take (i := 2) (v := ?_) rfl (by kernel_rfl) (by kernel_rfl) (by kernel_rfl) (by kernel_rfl) (fun _ _ _ h => h) (Or.inl ⟨by rfl, ?_⟩) (by assumption) ?_
      rotate_left 1
      · (intro w' hSw; obtain ⟨s0, s1, s2⟩ := hSw; go_simp); try with_reducible rfl
      try simp only [Act.put, List.setIfInBounds_toArray, List.set_cons_zero, List.set_cons_succ, Nat.zero_add]
      refine wpAnyY_take (i := 3) (v := ?_) rfl (by kernel_rfl) (by kernel_rfl) (by kernel_rfl) (by kernel_rfl) (fun _ _ _ h => h) (Or.inl ⟨by rfl, ?_⟩) (by assumption) ?_
      rotate_left 1
      · (intro w' hSw; obtain ⟨s0, s1, s2⟩ := hSw; go_simp); try with_reducible rfl
      try simp only [Act.put, List.setIfInBounds_toArray, List.set_cons_zero, List.set_cons_succ, Nat.zero_add]
      refine wpAnyY_take (i := 4) (v := ?_) rfl (by kernel_rfl) (by kernel_rfl) (by kernel_rfl) (by kernel_rfl) (fun _ _ _ h => h) (Or.inl ⟨by rfl, ?_⟩) (by assumption) ?_
      rotate_left 1
      · (intro w' hSw; obtain ⟨s0, s1, s2⟩ := hSw; go_simp); try with_reducible rfl
      try simp only [Act.put, List.setIfInBounds_toArray, List.set_cons_zero, List.set_cons_succ, Nat.zero_add]
      refine wpAnyY_two (i := 5) (j := 9) rfl rfl (by kernel_rfl) (fun K hK => ?_) (fun K hK => ?_)
      · go_simp
        refine (HFD.out _ (HBW.out.trans (MM.out.below.mono HBW.out.size))).mono ?_
        rintro _ y1 ⟨⟨v, rfl, hgot⟩, hb⟩
        obtain ⟨P, cp, Kp, ck, R, cr, rfl, hpp, hrr⟩ := node_found HCM.out HZM.out HZI.out hgot
        have HRR : Hid (RowOf 2 EProp y1 F P z.props ∧ RowOf 2 ERef y1 F R z.refs) := Lib.hid ⟨hpp, hrr⟩
        clear hgot hpp hrr
        have MM2 : Hid (Mem wr y1 ([])) := Lib.hid (MM.out.call hb)
        clear MM
        have MM := MM2
        clear MM2
        clear hb
        go_simp
        have hHeldy1 := HSM.out _ MM.out.below
        refine hK.out _ _ (fun _ => HSM.out _ MM.out.below) ?_
        clear hK K
        try simp only [Act.put, List.setIfInBounds_toArray, List.set_cons_zero, List.set_cons_succ, Nat.zero_add]
        refine wpAnyY_take (i := 6) (v := ?_) rfl (by kernel_rfl) (by kernel_rfl) (by kernel_rfl) (by kernel_rfl) (fun _ _ _ h => h) (Or.inl ⟨by rfl, ?_⟩) (by assumption) ?_
        rotate_left 1
        · (intro w' hSw; obtain ⟨s0, s1, s2⟩ := hSw; go_simp); try with_reducible rfl
        try simp only [Act.put, List.setIfInBounds_toArray, List.set_cons_zero, List.set_cons_succ, Nat.zero_add]
        refine wpAnyY_take (i := 7) (v := ?_) rfl (by kernel_rfl) (by kernel_rfl) (by kernel_rfl) (by kernel_rfl) (fun _ _ _ h => h) (Or.inl ⟨by rfl, ?_⟩) (by assumption) ?_
        rotate_left 1
        · (intro w' hSw; obtain ⟨s0, s1, s2⟩ := hSw; go_simp); try with_reducible rfl
        try simp only [Act.put, List.setIfInBounds_toArray, List.set_cons_zero, List.set_cons_succ, Nat.zero_add]
        refine wpAnyY_take (i := 8) (v := ?_) rfl (by kernel_rfl) (by kernel_rfl) (by kernel_rfl) (by kernel_rfl) (fun _ _ _ h => h) (Or.inl ⟨by rfl, ?_⟩) (by assumption) ?_
        rotate_left 1
        · (intro w' hSw; obtain ⟨s0, s1, s2⟩ := hSw; go_simp); try with_reducible rfl
        try simp only [Act.put, List.setIfInBounds_toArray, List.set_cons_zero, List.set_cons_succ, Nat.zero_add]
        refine wpAnyY_one (i := 9) rfl (by kernel_rfl) (fun K hK => ?_)
        go_simp
        obtain ⟨nb, hnb⟩ : ∃ z, y1.heap.size = z := ⟨_, rfl⟩
        obtain ⟨y2, hu⟩ : ∃ z9 : World, y1.alloc (.cells #[.int .i64 0, .string ⟨#[]⟩, .int .i64 0, .string ⟨#[]⟩, .slice none 0 0, .slice none 0 0, .slice none 0 0] 37) = z9 := ⟨_, rfl⟩
        have hb : Below y1.heap.size y1 y2 := by rw [← hu]; exact (Below.refl _ _).alloc (Nat.le_refl _) _
        have HRR2 : Hid (RowOf 2 EProp y2 F P z.props ∧ RowOf 2 ERef y2 F R z.refs) := Lib.hid ⟨HRR.out.1.keep EProp.stays (Keep.below hb (fun b hx => Nat.lt_of_lt_of_le (HF.out b hx) (Nat.le_trans HBW.out.size MM.out.size))) (fun _ h => h), HRR.out.2.keep ERef.stays (Keep.below hb (fun b hx => Nat.lt_of_lt_of_le (HF.out b hx) (Nat.le_trans HBW.out.size MM.out.size))) (fun _ h => h)⟩
        clear HRR
        have HRR := HRR2
        clear HRR2
        have MM2 : Hid (Mem wr y2 ([.blk nb 37 #[.int .i64 0, .string ⟨#[]⟩, .int .i64 0, .string ⟨#[]⟩, .slice none 0 0, .slice none 0 0, .slice none 0 0]])) := Lib.hid (by rw [← hu]; exact MM.out.allocG hnb _ _)
        clear MM
        have MM := MM2
        clear MM2
        rw [hu, hnb]
        clear hu hnb hb
        have hHeldy2 := HSM.out _ MM.out.below
        refine hK.out _ _ (fun _ => HSM.out _ MM.out.below) ?_
        clear hK K
        try simp only [Act.put, List.setIfInBounds_toArray, List.set_cons_zero, List.set_cons_succ, Nat.zero_add]
        refine wpAnyY_one (i := 10) rfl (by kernel_rfl) (fun K hK => ?_)
        have zc0 := (MM.out.blk 0 rfl).cell 0
        have zc1 := (MM.out.blk 0 rfl).cell 1
        have zc2 := (MM.out.blk 0 rfl).cell 2
        have zc3 := (MM.out.blk 0 rfl).cell 3
        have zc4 := (MM.out.blk 0 rfl).cell 4
        have zc5 := (MM.out.blk 0 rfl).cell 5
        have zc6 := (MM.out.blk 0 rfl).cell 6
        have zf0 := (MM.out.blk 0 rfl).frozen 0
        have zf1 := (MM.out.blk 0 rfl).frozen 1
        have zf2 := (MM.out.blk 0 rfl).frozen 2
        have zf3 := (MM.out.blk 0 rfl).frozen 3
        have zf4 := (MM.out.blk 0 rfl).frozen 4
        have zf5 := (MM.out.blk 0 rfl).frozen 5
        have zf6 := (MM.out.blk 0 rfl).frozen 6
        have zlt := (MM.out.blk 0 rfl).lt
        simp at zc0 zc1 zc2 zc3 zc4 zc5 zc6
        have MM2 : Hid (Mem wr (((((((y2.setCell ⟨nb, 0, none⟩ (.int .i64 k)).setCell ⟨nb, 1, none⟩ (.string z.concept)).setCell ⟨nb, 2, none⟩ (.int .i64 z.parent)).setCell ⟨nb, 3, none⟩ (.string z.role)).setCell ⟨nb, 4, none⟩ (.slice P z.props.length cp)).setCell ⟨nb, 5, none⟩ (.slice Kp z.kids.length ck)).setCell ⟨nb, 6, none⟩ (.slice R z.refs.length cr)) ([.blk nb 37 #[.int .i64 k, .string z.concept, .int .i64 z.parent, .string z.role, .slice P z.props.length cp, .slice Kp z.kids.length ck, .slice R z.refs.length cr]])) := Lib.hid (((((((MM.out.set_ 0 rfl 0 (.int .i64 k)).set_ 0 rfl 1 (.string z.concept)).set_ 0 rfl 2 (.int .i64 z.parent)).set_ 0 rfl 3 (.string z.role)).set_ 0 rfl 4 (.slice P z.props.length cp)).set_ 0 rfl 5 (.slice Kp z.kids.length ck)).set_ 0 rfl 6 (.slice R z.refs.length cr))
        have HRR2 : Hid (RowOf 2 EProp (((((((y2.setCell ⟨nb, 0, none⟩ (.int .i64 k)).setCell ⟨nb, 1, none⟩ (.string z.concept)).setCell ⟨nb, 2, none⟩ (.int .i64 z.parent)).setCell ⟨nb, 3, none⟩ (.string z.role)).setCell ⟨nb, 4, none⟩ (.slice P z.props.length cp)).setCell ⟨nb, 5, none⟩ (.slice Kp z.kids.length ck)).setCell ⟨nb, 6, none⟩ (.slice R z.refs.length cr)) F P z.props ∧ RowOf 2 ERef (((((((y2.setCell ⟨nb, 0, none⟩ (.int .i64 k)).setCell ⟨nb, 1, none⟩ (.string z.concept)).setCell ⟨nb, 2, none⟩ (.int .i64 z.parent)).setCell ⟨nb, 3, none⟩ (.string z.role)).setCell ⟨nb, 4, none⟩ (.slice P z.props.length cp)).setCell ⟨nb, 5, none⟩ (.slice Kp z.kids.length ck)).setCell ⟨nb, 6, none⟩ (.slice R z.refs.length cr)) F R z.refs) := Lib.hid ⟨HRR.out.1.keep EProp.stays (fun p hp => World.cell?_of_block (set7_far (by have h1 := HF.out _ hp; have h2 := HBW.out.size; have h3 := (MM.out.lt (i := 0) rfl rfl).1; intro e; rw [e] at h1; omega))) (fun _ h => h), HRR.out.2.keep ERef.stays (fun p hp => World.cell?_of_block (set7_far (by have h1 := HF.out _ hp; have h2 := HBW.out.size; have h3 := (MM.out.lt (i := 0) rfl rfl).1; intro e; rw [e] at h1; omega))) (fun _ h => h)⟩
        go_simp
        refine hK.out _ _ (fun _ => HSM.out _ MM2.out.below) ?_
        clear zf0 zf1 zf2 zf3 zf4 zf5 zf6 zc0 zc1 zc2 zc3 zc4 zc5 zc6 zlt
        clear MM HRR
        have MM := MM2
        have HRR := HRR2
        clear MM2 HRR2
        clear hK K
        try simp only [Act.put, List.setIfInBounds_toArray, List.set_cons_zero, List.set_cons_succ, Nat.zero_add]
        refine wpAnyY_one0 (i := 11) rfl (by kernel_rfl) (by kernel_rfl) (fun K hK => ?_)
        go_simp
        refine hK.out _ _ ?_
        clear hK K
        try simp only [Act.put, List.setIfInBounds_toArray, List.set_cons_zero, List.set_cons_succ, Nat.zero_add]
        refine wpAnyY_done (by kernel_rfl) ?_ _
        go_wp2_with fail
        go_meet
        case rel => exact ⟨nb, P, Kp, R, cp, ck, cr, rfl, rfl, MM.out, HRR.out⟩
      · go_simp
        obtain ⟨nb, hnb⟩ : ∃ z, u.heap.size = z := ⟨_, rfl⟩
        obtain ⟨y5, hu⟩ : ∃ z9 : World, u.alloc (.cells #[.int .i64 0, .string ⟨#[]⟩, .int .i64 0, .string ⟨#[]⟩, .slice none 0 0, .slice none 0 0, .slice none 0 0] 37) = z9 := ⟨_, rfl⟩
        have hb : Below u.heap.size u y5 := by rw [← hu]; exact (Below.refl _ _).alloc (Nat.le_refl _) _
        have MM2 : Hid (Mem wr y5 ([.blk nb 37 #[.int .i64 0, .string ⟨#[]⟩, .int .i64 0, .string ⟨#[]⟩, .slice none 0 0, .slice none 0 0, .slice none 0 0]])) := Lib.hid (by rw [← hu]; exact MM.out.allocG hnb _ _)
        clear MM
        have MM := MM2
        clear MM2
        rw [hu, hnb]
        clear hu hnb hb
        have hHeldy5 := HSM.out _ MM.out.below
        refine hK.out _ _ (fun _ => HSM.out _ MM.out.below) ?_
        clear hK K
        try simp only [Act.put, List.setIfInBounds_toArray, List.set_cons_zero, List.set_cons_succ, Nat.zero_add]
        refine wpAnyY_one (i := 5) rfl (by kernel_rfl) (fun K hK => ?_)
        go_simp
        refine (HFD.out _ (HBW.out.trans (MM.out.below.mono HBW.out.size))).mono ?_
        rintro _ y6 ⟨⟨v, rfl, hgot⟩, hb⟩
        obtain ⟨P, cp, Kp, ck, R, cr, rfl, hpp, hrr⟩ := node_found HCM.out HZM.out HZI.out hgot
        have HRR : Hid (RowOf 2 EProp y6 F P z.props ∧ RowOf 2 ERef y6 F R z.refs) := Lib.hid ⟨hpp, hrr⟩
        clear hgot hpp hrr
        have MM2 : Hid (Mem wr y6 ([.blk nb 37 #[.int .i64 0, .string ⟨#[]⟩, .int .i64 0, .string ⟨#[]⟩, .slice none 0 0, .slice none 0 0, .slice none 0 0]])) := Lib.hid (MM.out.call hb)
        clear MM
        have MM := MM2
        clear MM2
        clear hb
        go_simp
        have hHeldy6 := HSM.out _ MM.out.below
        refine hK.out _ _ (fun _ => HSM.out _ MM.out.below) ?_
        clear hK K
        try simp only [Act.put, List.setIfInBounds_toArray, List.set_cons_zero, List.set_cons_succ, Nat.zero_add]
        refine wpAnyY_take (i := 6) (v := ?_) rfl (by kernel_rfl) (by kernel_rfl) (by kernel_rfl) (by kernel_rfl) (fun _ _ _ h => h) (Or.inl ⟨by rfl, ?_⟩) (by assumption) ?_
        rotate_left 1
        · (intro w' hSw; obtain ⟨s0, s1, s2⟩ := hSw; go_simp); try with_reducible rfl
        try simp only [Act.put, List.setIfInBounds_toArray, List.set_cons_zero, List.set_cons_succ, Nat.zero_add]
        refine wpAnyY_take (i := 7) (v := ?_) rfl (by kernel_rfl) (by kernel_rfl) (by kernel_rfl) (by kernel_rfl) (fun _ _ _ h => h) (Or.inl ⟨by rfl, ?_⟩) (by assumption) ?_
        rotate_left 1
        · (intro w' hSw; obtain ⟨s0, s1, s2⟩ := hSw; go_simp); try with_reducible rfl
        try simp only [Act.put, List.setIfInBounds_toArray, List.set_cons_zero, List.set_cons_succ, Nat.zero_add]
        refine wpAnyY_take (i := 8) (v := ?_) rfl (by kernel_rfl) (by kernel_rfl) (by kernel_rfl) (by kernel_rfl) (fun _ _ _ h => h) (Or.inl ⟨by rfl, ?_⟩) (by assumption) ?_
        rotate_left 1
        · (intro w' hSw; obtain ⟨s0, s1, s2⟩ := hSw; go_simp); try with_reducible rfl
        try simp only [Act.put, List.setIfInBounds_toArray, List.set_cons_zero, List.set_cons_succ, Nat.zero_add]
        refine wpAnyY_one (i := 10) rfl (by kernel_rfl) (fun K hK => ?_)
        have zc0 := (MM.out.blk 0 rfl).cell 0
        have zc1 := (MM.out.blk 0 rfl).cell 1
        have zc2 := (MM.out.blk 0 rfl).cell 2
        have zc3 := (MM.out.blk 0 rfl).cell 3
        have zc4 := (MM.out.blk 0 rfl).cell 4
        have zc5 := (MM.out.blk 0 rfl).cell 5
        have zc6 := (MM.out.blk 0 rfl).cell 6
        have zf0 := (MM.out.blk 0 rfl).frozen 0
        have zf1 := (MM.out.blk 0 rfl).frozen 1
        have zf2 := (MM.out.blk 0 rfl).frozen 2
        have zf3 := (MM.out.blk 0 rfl).frozen 3
        have zf4 := (MM.out.blk 0 rfl).frozen 4
        have zf5 := (MM.out.blk 0 rfl).frozen 5
        have zf6 := (MM.out.blk 0 rfl).frozen 6
        have zlt := (MM.out.blk 0 rfl).lt
        simp at zc0 zc1 zc2 zc3 zc4 zc5 zc6
        have MM2 : Hid (Mem wr (((((((y6.setCell ⟨nb, 0, none⟩ (.int .i64 k)).setCell ⟨nb, 1, none⟩ (.string z.concept)).setCell ⟨nb, 2, none⟩ (.int .i64 z.parent)).setCell ⟨nb, 3, none⟩ (.string z.role)).setCell ⟨nb, 4, none⟩ (.slice P z.props.length cp)).setCell ⟨nb, 5, none⟩ (.slice Kp z.kids.length ck)).setCell ⟨nb, 6, none⟩ (.slice R z.refs.length cr)) ([.blk nb 37 #[.int .i64 k, .string z.concept, .int .i64 z.parent, .string z.role, .slice P z.props.length cp, .slice Kp z.kids.length ck, .slice R z.refs.length cr]])) := Lib.hid (((((((MM.out.set_ 0 rfl 0 (.int .i64 k)).set_ 0 rfl 1 (.string z.concept)).set_ 0 rfl 2 (.int .i64 z.parent)).set_ 0 rfl 3 (.string z.role)).set_ 0 rfl 4 (.slice P z.props.length cp)).set_ 0 rfl 5 (.slice Kp z.kids.length ck)).set_ 0 rfl 6 (.slice R z.refs.length cr))
        have HRR2 : Hid (RowOf 2 EProp (((((((y6.setCell ⟨nb, 0, none⟩ (.int .i64 k)).setCell ⟨nb, 1, none⟩ (.string z.concept)).setCell ⟨nb, 2, none⟩ (.int .i64 z.parent)).setCell ⟨nb, 3, none⟩ (.string z.role)).setCell ⟨nb, 4, none⟩ (.slice P z.props.length cp)).setCell ⟨nb, 5, none⟩ (.slice Kp z.kids.length ck)).setCell ⟨nb, 6, none⟩ (.slice R z.refs.length cr)) F P z.props ∧ RowOf 2 ERef (((((((y6.setCell ⟨nb, 0, none⟩ (.int .i64 k)).setCell ⟨nb, 1, none⟩ (.string z.concept)).setCell ⟨nb, 2, none⟩ (.int .i64 z.parent)).setCell ⟨nb, 3, none⟩ (.string z.role)).setCell ⟨nb, 4, none⟩ (.slice P z.props.length cp)).setCell ⟨nb, 5, none⟩ (.slice Kp z.kids.length ck)).setCell ⟨nb, 6, none⟩ (.slice R z.refs.length cr)) F R z.refs) := Lib.hid ⟨HRR.out.1.keep EProp.stays (fun p hp => World.cell?_of_block (set7_far (by have h1 := HF.out _ hp; have h2 := HBW.out.size; have h3 := (MM.out.lt (i := 0) rfl rfl).1; intro e; rw [e] at h1; omega))) (fun _ h => h), HRR.out.2.keep ERef.stays (fun p hp => World.cell?_of_block (set7_far (by have h1 := HF.out _ hp; have h2 := HBW.out.size; have h3 := (MM.out.lt (i := 0) rfl rfl).1; intro e; rw [e] at h1; omega))) (fun _ h => h)⟩
        go_simp
        refine hK.out _ _ (fun _ => HSM.out _ MM2.out.below) ?_
        clear zf0 zf1 zf2 zf3 zf4 zf5 zf6 zc0 zc1 zc2 zc3 zc4 zc5 zc6 zlt
        clear MM HRR
        have MM := MM2
        have HRR := HRR2
        clear MM2 HRR2
        clear hK K
        try simp only [Act.put, List.setIfInBounds_toArray, List.set_cons_zero, List.set_cons_succ, Nat.zero_add]
        refine wpAnyY_one0 (i := 11) rfl (by kernel_rfl) (by kernel_rfl) (fun K hK => ?_)
        go_simp
        refine hK.out _ _ ?_
        clear hK K
        try simp only [Act.put, List.setIfInBounds_toArray, List.set_cons_zero, List.set_cons_succ, Nat.zero_add]
        refine wpAnyY_done (by kernel_rfl) ?_ _
        go_wp2_with fail
        go_meet
        case rel => exact ⟨nb, P, Kp, R, cp, ck, cr, rfl, rfl, MM.out, HRR.out⟩
    case rest =>
      obtain ⟨nb, P, Kp, R, cp, ck, cr, rfl, rfl, hm, hpp, hrr⟩ := hcut
      clear MM
      obtain ⟨f1, rfl⟩ : ∃ v : World, v = wc := ⟨_, rfl⟩
      have MM := Lib.hid hm
      have HBUF2 := Lib.hid (HBUF.out.below hm.below); have HOWN2 := Lib.hid (HOWN.out.below hm.below); have HBK := Lib.hid (hm.blk 0 rfl)
      clear HBUF HOWN hm
      have HBUF := HBUF2; have HOWN := HOWN2
      clear HBUF2 HOWN2 HFD HKO hki
      have HF1 : Hid (Below w.heap.size w f1) := Lib.hid (HBW.out.trans (MM.out.below.mono HBW.out.size))
      have HPV : Hid (∀ V, Below w.heap.size w V → RowOf 2 EProp V F P z.props ∧ RowOf 2 ERef V F R z.refs) := Lib.hid (fun V hb => ⟨hpp.keep EProp.stays (fun p hp => (hb.cell (HF.out _ hp)).trans (HF1.out.cell (HF.out _ hp)).symm) (fun _ h => h), hrr.keep ERef.stays (fun p hp => (hb.cell (HF.out _ hp)).trans (HF1.out.cell (HF.out _ hp)).symm) (fun _ h => h)⟩)
      clear hpp hrr MM
      have hm9 := (HMV.out _ HBUF.out.far).2
      have m0 := hm9.cell 0; have m1 := hm9.cell 1
      have hmlt := hm9.lt
      simp at m0 m1
      have HDE := Lib.hid (rdepth_any A c m f1 F (HFV.out _ HF1.out) (HROW.out _ HF1.out) HZ.out HL9.out k (by have h1 := HFIT.out.id1; have h2 := HFIT.out.id2; rw [HZI.out] at h1 h2; unfold InR; omega))
      rw [HDEP.out] at HDE
      clear hm9
      have b0 := HBK.out.cell 0
      have blt := HBK.out.lt
      simp at b0
      go_wp2_with fail
      refine HDE.out.mono ?_
      rintro _ f2 ⟨rfl, hb⟩
      clear HDE m0 m1 hmlt
      clear blt b0
      have HBUF2 := Lib.hid (HBUF.out.below hb); have HOWN2 := Lib.hid (HOWN.out.below hb); have HBK2 := Lib.hid (HBK.out.below hb HBK.out.lt)
      clear HBUF HOWN HBK hb
      have HBUF := HBUF2; have HOWN := HOWN2; have HBK := HBK2
      clear HBUF2 HOWN2 HBK2
      have b0 := HBK.out.cell 0
      have b1 := HBK.out.cell 1
      have b2 := HBK.out.cell 2
      have b3 := HBK.out.cell 3
      have b4 := HBK.out.cell 4
      have b5 := HBK.out.cell 5
      have b6 := HBK.out.cell 6
      have blt := HBK.out.lt
      simp at b0 b1 b2 b3 b4 b5 b6
      go_wp2_with fail
      refine (HLI.out _ _ _ f2).mono ?_
      rintro _ f3 ⟨rfl, hb⟩
      clear HLI
      clear blt b0 b1 b2 b3 b4 b5 b6
      have HBUF2 := Lib.hid (HBUF.out.below hb); have HOWN2 := Lib.hid (HOWN.out.below hb); have HBK2 := Lib.hid (HBK.out.below hb HBK.out.lt)
      clear HBUF HOWN HBK hb
      have HBUF := HBUF2; have HOWN := HOWN2; have HBK := HBK2
      clear HBUF2 HOWN2 HBK2
      have n1 : ¬ 9223372036854775807 < ls.size + 1 := by omega
      have hsz1 : (ls ++ ⟨#[10]⟩ : ByteArray).size = ls.size + 1 := by rw [ByteArray.size_append]; rfl
      have HSZ1 := Lib.hid hsz1
      obtain ⟨i0, hinf, hz0, hz1, hz2⟩ := info_parts byte_info3
      have HI0 := Lib.hid (And.intro hinf (And.intro hz0 (And.intro hz1 hz2)))
      clear hinf hz0 hz1 hz2 hsz1
      go_wp2_with (at_builtin; refine wpList_append_str2 rfl _ _ 42 9 rfl i0 Tryd.underlying42 Tryd.underlying9 HI0.out.1 HI0.out.2.1 HI0.out.2.2.1 HI0.out.2.2.2 rfl HBUF.out _ rfl (by rw [HSZ1.out]; omega) ?_; intro v1 f4 hb4 hg4)
      have HBUF2 := Lib.hid hb4; have HOWN2 := Lib.hid (HOWN.out.keepB HBUF.out hg4); have HBK2 := Lib.hid (HBUF.out.keepB hg4 HBK.out (by decide))
      clear HBUF HOWN HBK hb4 hg4
      have HBUF := HBUF2; have HOWN := HOWN2; have HBK := HBK2
      clear HBUF2 HOWN2 HBK2
      clear n1
      have HDL2 := HDL.out
      rw [HNX.out] at HDL2
      obtain ⟨L1, hL1⟩ : ∃ L1, L ++ (ls ++ ⟨#[10]⟩ : ByteArray).data.toList = L1 := ⟨_, rfl⟩
      rw [hL1] at HBUF HNX HDL2
      have HPL : Hid (∀ j, (L1 ++ joinL ((z.props.take j).map (lineP d))).length ≤ 16000000) := Lib.hid (fun j => by
        have h1 := HDL2
        rw [List.take_length, List.take_length] at h1
        have h2 : joinL (z.props.map (lineP d)) = joinL ((z.props.take j).map (lineP d)) ++ joinL ((z.props.drop j).map (lineP d)) := by rw [← joinL_app, ← List.map_append, List.take_append_drop]
        rw [h2] at h1
        simp only [List.length_append] at h1 ⊢
        omega)
      have HRL : Hid (∀ j, ((L1 ++ joinL ((z.props.take z.props.length).map (lineP d))) ++ joinL ((z.refs.take j).map (lineR d))).length ≤ 16000000) := Lib.hid (fun j => by
        have h1 := HDL2
        rw [show z.refs.take z.refs.length = z.refs from List.take_length] at h1
        have h2 : joinL (z.refs.map (lineR d)) = joinL ((z.refs.take j).map (lineR d)) ++ joinL ((z.refs.drop j).map (lineR d)) := by rw [← joinL_app, ← List.map_append, List.take_append_drop]
        rw [h2] at h1
        simp only [List.length_append] at h1 ⊢
        omega)
      clear HDL2 hL1 HSZ1
      have hp6 : z.props.length ≤ 600 := by have := HFEW.out z HZM.out; omega
      have hr6 : z.refs.length ≤ 600 := by have := HFEW.out z HZM.out; omega
      go_upto_region 12 with fail
      go_loopg [4, 10] z.props.length (fun g s4 s10 wx => ∃ (j : Nat) (v : Value), s10 = .int .i64 j ∧ s4 = v ∧ g = z.props.length - j ∧ j ≤ z.props.length ∧ Buf2 w3.heap.size 5 v (L1 ++ joinL ((z.props.take j).map (lineP d))) w3 wx ∧ OwnI wx w8.heap.size (.slice (some ⟨ga, 0, none⟩) on co) OL ∧ Blk wx nb 37 #[.int .i64 k, .string z.concept, .int .i64 z.parent, .string z.role, .slice P z.props.length cp, .slice Kp z.kids.length ck, .slice R z.refs.length cr])
      case atStart => exact ⟨0, _, rfl, rfl, rfl, Nat.zero_le _, by rw [show L1 ++ joinL ((z.props.take 0).map (lineP d)) = L1 from List.append_nil _]; exact HBUF.out, HOWN.out, HBK.out⟩
      case round =>
        clear HBUF HOWN HBK
        obtain ⟨j, v, rfl, rfl, rfl, hjn, hbuf, hown, hbk⟩ := hrel
        have HBUF := Lib.hid hbuf; have HOWN := Lib.hid hown; have HBK := Lib.hid hbk
        clear hbuf hown hbk
        have j0 : (0 : Int) ≤ j := by omega
        have hLL := HPL.out j
        have b4 := HBK.out.cell 4
        have blt := HBK.out.lt
        simp at b4
        by_cases hj : j < z.props.length
        · have hj' : (j : Int) < z.props.length := by omega
          have HNL := Lib.hid (next_lines z d L1 j hj)
          obtain ⟨b9, o9, rfl, _, d0, d1⟩ := prop_at (HPV.out _ (HMV.out _ HBUF.out.far).1).1 hj
          have hfit := HFIT.out.prop j hj
          obtain ⟨p, hp⟩ : ∃ p, z.props[j] = p := ⟨_, rfl⟩
          rw [hp] at d0 d1 hfit HNL
          have hpl : (byt (lineP d p)).size ≤ 20000 := fit_len HFIT.out hd64 _ (List.mem_cons_of_mem _ (List.mem_append_left _ (List.mem_map.2 ⟨p, by rw [← hp]; exact List.getElem_mem hj, rfl⟩)))
          have HPC := Lib.hid (fun V => rprop_any p d (by omega) (by omega) (by omega) V)
          obtain ⟨qs, hqs⟩ : ∃ s, byt (lineP d p) = s := ⟨_, rfl⟩
          rw [hqs] at HPC HNL hpl
          have n1 : ¬ 9223372036854775807 < qs.size + 1 := by omega
          have HSZ1 : Hid ((qs ++ ⟨#[10]⟩ : ByteArray).size = qs.size + 1) := Lib.hid (by rw [ByteArray.size_append]; rfl)
          obtain ⟨LL, hLLe⟩ : ∃ x, L1 ++ joinL ((z.props.take j).map (lineP d)) = x := ⟨_, rfl⟩
          rw [hLLe] at HNL hLL HBUF
          clear hp hqs hLLe
          go_wp2_with fail
          refine (HPC.out _).mono ?_
          rintro _ g1 ⟨rfl, hb⟩
          clear d0 d1 hfit HPC
          clear blt b4
          have HBUF2 := Lib.hid (HBUF.out.below hb); have HOWN2 := Lib.hid (HOWN.out.below hb); have HBK2 := Lib.hid (HBK.out.below hb HBK.out.lt)
          clear HBUF HOWN HBK hb
          have HBUF := HBUF2; have HOWN := HOWN2; have HBK := HBK2
          clear HBUF2 HOWN2 HBK2
          go_wp2_with (at_builtin; refine wpList_append_str2 rfl _ _ 42 9 rfl i0 Tryd.underlying42 Tryd.underlying9 HI0.out.1 HI0.out.2.1 HI0.out.2.2.1 HI0.out.2.2.2 rfl HBUF.out _ rfl (by rw [HSZ1.out]; omega) ?_; intro v2 g2 hb4 hg4)
          have HBUF2 := Lib.hid hb4; have HOWN2 := Lib.hid (HOWN.out.keepB HBUF.out hg4); have HBK2 := Lib.hid (HBUF.out.keepB hg4 HBK.out (by decide))
          clear HBUF HOWN HBK hb4 hg4
          have HBUF := HBUF2; have HOWN := HOWN2; have HBK := HBK2
          clear HBUF2 HOWN2 HBK2
          go_roundg (z.props.length - (j + 1))
          case measure => omega
          case rel => exact ⟨j + 1, _, by go_num, rfl, rfl, by omega, by rw [HNL.out]; exact HBUF.out, HOWN.out, HBK.out⟩
        clear blt b4
        obtain rfl : j = z.props.length := by omega
        have hj' : ¬ (z.props.length : Int) < z.props.length := by omega
        obtain ⟨L2, hL2⟩ : ∃ x, L1 ++ joinL ((z.props.take z.props.length).map (lineP d)) = x := ⟨_, rfl⟩
        rw [hL2] at HBUF HNX HRL
        clear hL2 hLL
        have b4 := HBK.out.cell 4
        have blt := HBK.out.lt
        simp at b4
        go_upto_region 16 with fail
        clear blt b4
        go_loopg [4, 11] z.refs.length (fun g s4 s11 wx => ∃ (j : Nat) (v : Value), s11 = .int .i64 j ∧ s4 = v ∧ g = z.refs.length - j ∧ j ≤ z.refs.length ∧ Buf2 w3.heap.size 5 v (L2 ++ joinL ((z.refs.take j).map (lineR d))) w3 wx ∧ OwnI wx w8.heap.size (.slice (some ⟨ga, 0, none⟩) on co) OL ∧ Blk wx nb 37 #[.int .i64 k, .string z.concept, .int .i64 z.parent, .string z.role, .slice P z.props.length cp, .slice Kp z.kids.length ck, .slice R z.refs.length cr])
        case atStart => exact ⟨0, _, rfl, rfl, rfl, Nat.zero_le _, by rw [show L2 ++ joinL ((z.refs.take 0).map (lineR d)) = L2 from List.append_nil _]; exact HBUF.out, HOWN.out, HBK.out⟩
        case round =>
          clear HBUF HOWN HBK
          obtain ⟨j2, v, rfl, rfl, rfl, hjn, hbuf, hown, hbk⟩ := hrel
          have HBUF := Lib.hid hbuf; have HOWN := Lib.hid hown; have HBK := Lib.hid hbk
          clear hbuf hown hbk
          have j0 : (0 : Int) ≤ j2 := by omega
          have hLL := HRL.out j2
          have b6 := HBK.out.cell 6
          have blt := HBK.out.lt
          simp at b6
          by_cases hj : j2 < z.refs.length
          · have hj' : (j2 : Int) < z.refs.length := by omega
            have HNL := Lib.hid (next_linesR z d L2 j2 hj)
            obtain ⟨b9, o9, rfl, _, d0, d1⟩ := ref_at (HPV.out _ (HMV.out _ HBUF.out.far).1).2 hj
            have hfit := HFIT.out.ref j2 hj
            obtain ⟨p, hp⟩ : ∃ p, z.refs[j2] = p := ⟨_, rfl⟩
            rw [hp] at d0 d1 hfit HNL
            have hpl : (byt (lineR d p)).size ≤ 20000 := fit_len HFIT.out hd64 _ (List.mem_cons_of_mem _ (List.mem_append_right _ (List.mem_map.2 ⟨p, by rw [← hp]; exact List.getElem_mem hj, rfl⟩)))
            have HPC := Lib.hid (fun V => rref_any p d (by omega) (by omega) (by omega) (by omega) V)
            obtain ⟨qs, hqs⟩ : ∃ s, byt (lineR d p) = s := ⟨_, rfl⟩
            rw [hqs] at HPC HNL hpl
            have n1 : ¬ 9223372036854775807 < qs.size + 1 := by omega
            have HSZ1 : Hid ((qs ++ ⟨#[10]⟩ : ByteArray).size = qs.size + 1) := Lib.hid (by rw [ByteArray.size_append]; rfl)
            obtain ⟨LL, hLLe⟩ : ∃ x, L2 ++ joinL ((z.refs.take j2).map (lineR d)) = x := ⟨_, rfl⟩
            rw [hLLe] at HNL hLL HBUF
            clear hp hqs hLLe
            go_wp2_with fail
            refine (HPC.out _).mono ?_
            rintro _ g1 ⟨rfl, hb⟩
            clear d0 d1 hfit HPC
            clear blt b6
            have HBUF2 := Lib.hid (HBUF.out.below hb); have HOWN2 := Lib.hid (HOWN.out.below hb); have HBK2 := Lib.hid (HBK.out.below hb HBK.out.lt)
            clear HBUF HOWN HBK hb
            have HBUF := HBUF2; have HOWN := HOWN2; have HBK := HBK2
            clear HBUF2 HOWN2 HBK2
            go_wp2_with (at_builtin; refine wpList_append_str2 rfl _ _ 42 9 rfl i0 Tryd.underlying42 Tryd.underlying9 HI0.out.1 HI0.out.2.1 HI0.out.2.2.1 HI0.out.2.2.2 rfl HBUF.out _ rfl (by rw [HSZ1.out]; omega) ?_; intro v2 g2 hb4 hg4)
            have HBUF2 := Lib.hid hb4; have HOWN2 := Lib.hid (HOWN.out.keepB HBUF.out hg4); have HBK2 := Lib.hid (HBUF.out.keepB hg4 HBK.out (by decide))
            clear HBUF HOWN HBK hb4 hg4
            have HBUF := HBUF2; have HOWN := HOWN2; have HBK := HBK2
            clear HBUF2 HOWN2 HBK2
            go_roundg (z.refs.length - (j2 + 1))
            case measure => omega
            case rel => exact ⟨j2 + 1, _, by go_num, rfl, rfl, by omega, by rw [HNL.out]; exact HBUF.out, HOWN.out, HBK.out⟩
          obtain rfl : j2 = z.refs.length := by omega
          have hj2' : ¬ (z.refs.length : Int) < z.refs.length := by omega
          go_wp2_with fail
          go_roundg (on - (i + 1))
          case measure => omega
          case rel => exact ⟨i + 1, _, by go_num, rfl, rfl, by omega, by rw [HNX.out]; exact HBUF.out, HOWN.out, HDL.out⟩
end Go.Proofs.YtpkapommekkbcaaDoor
