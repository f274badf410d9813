import Derived.Test.YtpkapommekkbcaaDoorBuilderC
import Derived.Test.YtpkapommekkbcaaDoorSheetP
import Derived.Lib.AppendIntMem
import Derived.Test.YtpkapommekkbcaaDoorMapJ
set_option linter.unusedSimpArgs false
set_option linter.unusedVariables false
section
/- a line told: the closure of sheet.Print that writes one; a number's text -/
namespace Go.Proofs.YtpkapommekkbcaaDoor
open Go Go.RowKit

theorem digs_dec : ∀ n, digs n = Lib.decDigits n := fun n => by
  induction n using Nat.strongRecOn with
  | ind n ih =>
    by_cases h : n < 10
    · rw [digs_small h, Lib.decDigits, dif_pos h]
    · rw [digs_big h, ih (n / 10) (by omega), Lib.decDigits.eq_def n, dif_neg h]
set_option maxRecDepth 100000 in
theorem nshow_any (x : Int) (h1 : 1 ≤ x) (h2 : x ≤ 2147483647) (B : Nat) (w : World) (ht : Lib.TabBelow Tryd.prog B w "internal/strconv.uint64pow10" .u64 Lib.pow10Tab) :
    Calls Tryd.prog 16 #[.int .i64 x] w fun e w' => e = .returned (.string (byt (digs x.toNat))) ∧ Below w.heap.size w w' := by
  obtain ⟨n, rfl⟩ := Int.eq_ofNat_of_zero_le (show 0 ≤ x by omega)
  have hc := Tryd.strconv_FormatInt_10 n (by omega) (by omega) w ht.here
  have e : (⟨(Lib.itoa n).toArray⟩ : ByteArray) = byt (digs (n : Int).toNat) := by
    unfold Lib.itoa byt
    rw [if_neg (by omega), Int.toNat_natCast, digs_dec]
  rw [e] at hc
  go_enter Tryd.func16, Tryd.ntmps16
  go_wp2_with (go_at_call 35; refine hc.mono ?_)
  rintro _ w1 ⟨rfl, k, os, rfl⟩
  have HB1 : Hid (Below w.heap.size w (Sort.grow (w.drewN k) os)) := Lib.hid (Lib.below_grow _ w (Nat.le_refl _) k os)
  go_wp2
  go_ret
  exact ⟨rfl, HB1.out⟩
theorem repeat_blanks (d : Nat) : (⟨(Lib.repeatL (⟨#[32]⟩ : ByteArray).data.toList d).toArray⟩ : ByteArray) = byt (blanksL d) := by
  have e : Lib.repeatL (⟨#[32]⟩ : ByteArray).data.toList d = blanksL d := by
    induction d with
    | zero => rfl
    | succ d ih => unfold blanksL at ih ⊢; rw [List.replicate_succ, ← ih]; rfl
  rw [e]; rfl
/-- the texts of the first parts -/
def catTo (ps : List ByteArray) (k : Nat) : List UInt8 := (ps.take k).flatMap (fun s => s.data.toList)
theorem catTo_next {ps : List ByteArray} {k : Nat} (hk : k < ps.length) : catTo ps (k + 1) = catTo ps k ++ ps[k].data.toList := by
  unfold catTo
  rw [List.take_succ_eq_append_getElem hk, List.flatMap_append, List.flatMap_cons, List.flatMap_nil, List.append_nil]
theorem catTo_le (ps : List ByteArray) (k : Nat) : (catTo ps k).length ≤ (catTo ps ps.length).length := by
  unfold catTo
  rw [List.take_length]
  conv => rhs; rw [← List.take_append_drop k ps, List.flatMap_append, List.length_append]
  omega

set_option maxRecDepth 100000 in
set_option maxHeartbeats 4000000 in
theorem line_any (B b g d : Nat) (xs : List UInt8) (ps : List ByteArray) (w : World) (hx : HoldsB w B b xs) (hg : Blk w g 9 (ps.map Value.string).toArray) (hd : d ≤ 1000) (hl : xs.length ≤ 2000000) (hp : (catTo ps ps.length).length ≤ 2000000) (hn : ps.length ≤ 1000) (hB : B ≤ w.heap.size) :
    Calls Tryd.prog 11 #[.int .i64 d, .slice (some ⟨g, 0, none⟩) ps.length ps.length, .pointer (some ⟨b, 0, none⟩)] w fun e w' => e = .returned (.tuple #[]) ∧ HoldsB w' B b (emit xs (blanksL d ++ catTo ps ps.length)) ∧ Below B w w' ∧ Besides b w w' := by
  have hlen0 := Tryd.Builder_Len B b (Lib.byteCells xs) w hx
  rw [Lib.byteCells_length] at hlen0
  have HLEN : Hid (Calls Tryd.prog 12 #[.pointer (some ⟨b, 0, none⟩)] w fun e w' => e = .returned (.int .i64 xs.length) ∧ w = w') := Lib.hid (hlen0.mono fun _ _ ⟨h1, h2⟩ => ⟨h1, h2.symm⟩)
  clear hlen0
  have HX := Lib.hid hx; have HG := Lib.hid hg
  clear hx hg
  by_cases hlong : 1048576 < xs.length
  · have e0 : emit xs (blanksL d ++ catTo ps ps.length) = xs := by unfold emit; rw [if_pos hlong]
    have E0 := Lib.hid e0
    have hl' : (1048576 : Int) < xs.length := by omega
    clear e0
    go_enter Tryd.func11, Tryd.ntmps11
    go_wp2_with (go_at_call 12; refine HLEN.out.mono ?_; rintro _ w1 ⟨rfl, rfl⟩)
    refine bodyPost_ret (results_none rfl _ _ _) rfl ?_
    exact ⟨rfl, by rw [E0.out]; exact HX.out, Below.refl _ _, Besides.refl _ _⟩
  · have e0 : emit xs (blanksL d ++ catTo ps ps.length) = ((xs ++ blanksL d) ++ catTo ps ps.length) ++ [10] := by unfold emit; rw [if_neg hlong]; simp only [List.append_assoc]
    have E0 := Lib.hid e0
    have hl' : ¬ (1048576 : Int) < xs.length := by omega
    have HRP := Lib.hid (fun V => Tryd.strings_Repeat ⟨#[32]⟩ d V (by omega) (by show 1 * d ≤ _; omega))
    rw [repeat_blanks] at HRP
    have HCT := Lib.hid (fun k => catTo_le ps k)
    clear e0
    obtain ⟨n, hnn⟩ : ∃ n, ps.length = n := ⟨_, rfl⟩
    have HNN := Lib.hid hnn
    rw [hnn] at hn hp ⊢
    clear hnn
    go_enter Tryd.func11, Tryd.ntmps11
    go_upto_region 1 with (go_at_call 12; refine HLEN.out.mono ?_; rintro _ w1 ⟨rfl, rfl⟩)
    go_wp2_with fail
    refine (HRP.out _).mono ?_
    rintro _ w2 ⟨rfl, hb2⟩
    have HX2 := Lib.hid (HX.out.below hb2); have HG2 := Lib.hid (HG.out.below hb2 HG.out.lt)
    have HB2 := Lib.hid (hb2.mono hB); have HE2 : Hid (Besides b w w2) := Lib.hid (Besides.of_below hb2)
    have hB2 := Nat.le_trans hB hb2.size
    have HWS := Lib.hid (writeS_any B b xs (blanksL d) w2 HX2.out (by rw [blanks_len]; omega) hB2)
    clear HX HG hb2 HRP HLEN
    go_wp2_with fail
    refine HWS.out.mono ?_
    rintro _ w3 ⟨v3, rfl, hx3, hb3, he3⟩
    have HX3 := Lib.hid hx3
    have HG3 := Lib.hid (HG2.out.besides he3 (HX2.out.ne HG2.out (by decide)) (by decide))
    have HB3 := Lib.hid (HB2.out.trans hb3); have HE3 := Lib.hid (HE2.out.trans he3)
    clear hx3 hb3 he3 HX2 HG2 HB2 HE2 HWS hB2
    go_upto_region 3 with fail
    go_loopg [14] n (fun q s14 wx => ∃ k : Nat, s14 = .int .i64 k ∧ q = n - k ∧ k ≤ n ∧ HoldsB wx B b ((xs ++ blanksL d) ++ catTo ps k) ∧ Blk wx g 9 (ps.map Value.string).toArray ∧ Below B w wx ∧ Besides b w wx)
    case atStart => exact ⟨0, rfl, rfl, Nat.zero_le _, by rw [show (xs ++ blanksL d) ++ catTo ps 0 = xs ++ blanksL d from List.append_nil _]; exact HX3.out, HG3.out, HB3.out, HE3.out⟩
    case round =>
      clear HX3 HG3 HB3 HE3
      obtain ⟨k, rfl, rfl, hk, hx, hg, hb, he⟩ := hrel
      have HX := Lib.hid hx; have HG := Lib.hid hg; have HB := Lib.hid hb; have HE := Lib.hid he
      have hBr := Nat.le_trans hB hb.size
      have k0 : (0 : Int) ≤ k := by omega
      have hcl := HCT.out k
      rw [HNN.out] at hcl
      clear hx hg hb he
      have hll : ((xs ++ blanksL d) ++ catTo ps k).length ≤ 4100000 := by
        rw [List.length_append, List.length_append, blanks_len]; omega
      by_cases hlt : k < n
      · have hlt' : (k : Int) < n := by omega
        have hkp : k < ps.length := by rw [HNN.out]; exact hlt
        have HNX := Lib.hid (catTo_next hkp)
        have hcn := HCT.out (k + 1)
        rw [HNX.out, HNN.out, List.length_append] at hcn
        have d0 : wr.cell? ⟨g, k, none⟩ = some (.string ps[k]) := by
          rw [HG.out.cell]
          simp [hkp]
        have hfr := HG.out.lt
        obtain ⟨s, hs⟩ : ∃ s, ps[k] = s := ⟨_, rfl⟩
        rw [hs] at d0 HNX hcn
        have hsl : s.data.toList.length ≤ 2000000 := by omega
        have HWK := Lib.hid (writeS_any B b ((xs ++ blanksL d) ++ catTo ps k) s.data.toList wr HX.out (by omega) hBr)
        rw [byt_of] at HWK
        clear hs hkp hcn hcl hll
        go_wp2_with fail
        refine HWK.out.mono ?_
        rintro _ w4 ⟨v4, rfl, hx4, hb4, he4⟩
        have HX4 := Lib.hid hx4
        have HG4 := Lib.hid (HG.out.besides he4 (HX.out.ne HG.out (by decide)) (by decide))
        have HB4 := Lib.hid (HB.out.trans hb4); have HE4 := Lib.hid (HE.out.trans he4)
        clear hx4 hb4 he4 HX HG HB HE HWK d0 hfr
        go_wp2_with fail
        go_roundg (n - (k + 1))
        case measure => omega
        case rel => exact ⟨k + 1, by go_num, rfl, by omega, by rw [HNX.out, ← List.append_assoc]; exact HX4.out, HG4.out, HB4.out, HE4.out⟩
      · have hlt' : ¬ (k : Int) < n := by omega
        obtain rfl : k = n := by omega
        have HWB := Lib.hid (writeB_any B b ((xs ++ blanksL d) ++ catTo ps k) 10 10 wr rfl HX.out (by omega) hBr)
        rw [HNN.out] at E0
        clear hll hcl
        go_wp2_with fail
        refine HWB.out.mono ?_
        rintro _ w4 ⟨rfl, hx4, hb4, he4⟩
        have HX4 := Lib.hid hx4
        have HB4 := Lib.hid (HB.out.trans hb4); have HE4 := Lib.hid (HE.out.trans he4)
        clear hx4 hb4 he4 HX HG HB HE HWB
        go_wp2_with fail
        go_end0
        exact ⟨rfl, by rw [E0.out]; exact HX4.out, HB4.out, HE4.out⟩
end Go.Proofs.YtpkapommekkbcaaDoor
end
section
/- what sheet.Print's closures find in memory -/
namespace Go.Proofs.YtpkapommekkbcaaDoor
open Go Go.RowKit Go.Maps

/-- the places of the first nodes, by their numbers -/
def placesTo (m : AModel) : Nat → List (Int × Value)
  | 0 => []
  | i + 1 => placesTo m i ++ [((m.nodes.map ANode.id).getD i 0, Value.int .i64 i)]
theorem places_mem {m : AModel} : ∀ {i : Nat} {p : Int × Value}, p ∈ placesTo m i → ∃ j, j < i ∧ p = ((m.nodes.map ANode.id).getD j 0, Value.int .i64 j)
  | 0, p, h => by simp [placesTo] at h
  | i + 1, p, h => by
    rcases List.mem_append.1 h with h | h
    · obtain ⟨j, hj, e⟩ := places_mem h
      exact ⟨j, by omega, e⟩
    · simp only [List.mem_cons, List.not_mem_nil, or_false] at h
      exact ⟨i, by omega, h⟩
theorem places_in {m : AModel} : ∀ {i j : Nat}, j < i → ((m.nodes.map ANode.id).getD j 0, Value.int .i64 j) ∈ placesTo m i
  | 0, j, h => by omega
  | i + 1, j, h => by
    rcases Nat.lt_succ_iff_lt_or_eq.1 h with h | h
    · exact List.mem_append_left _ (places_in h)
    · subst h; exact List.mem_append_right _ (List.mem_cons_self ..)
theorem id_getD {m : AModel} {i : Nat} (h : i < m.nodes.length) : (m.nodes.map ANode.id).getD i 0 = m.nodes[i].id := by
  rw [List.getD_eq_getElem?_getD, List.getElem?_eq_getElem (by simpa using h)]; simp
theorem places_new {m : AModel} (hs : Srt m.nodes) {i : Nat} (hi : i < m.nodes.length) : ∀ q ∈ placesTo m i, q.1 ≠ (m.nodes.map ANode.id).getD i 0 := fun q hq e => by
  obtain ⟨j, hj, rfl⟩ := places_mem hq
  have e2 : (m.nodes.map ANode.id).getD j 0 = (m.nodes.map ANode.id).getD i 0 := e
  rw [id_getD hi, id_getD (by omega)] at e2
  have := hs j i (by omega) hi hj
  omega
theorem places_look {m : AModel} (hs : Srt m.nodes) {i : Nat} (hi : i < m.nodes.length) : lookM (.int .i64 0) (placesTo m m.nodes.length) m.nodes[i].id = .int .i64 i := by
  obtain ⟨p, hp, h1, h2⟩ := lookM_mem (z := .int .i64 0) (bs := placesTo m m.nodes.length) (id := m.nodes[i].id) ⟨_, places_in hi, id_getD hi⟩
  rw [h2]
  obtain ⟨j, hj, rfl⟩ := places_mem hp
  rw [id_getD hj] at h1
  have : j = i := hs.inj hj hi h1
  subst this
  rfl
theorem map_keep {w w' : World} {b n : Nat} {k : TypeId} {D : DataW Value} (h : w.ownsMap Tryd.prog k heldM b n D) (hk : w'.heap[b]? = w.heap[b]?) : w'.ownsMap Tryd.prog k heldM b n D := by
  obtain ⟨es, clock, hb, r⟩ := h
  exact ⟨es, clock, hk.trans hb, r⟩

/-- the blocks that the closures know -/
structure PEnv (m : AModel) (A : Option Addr) (c p1 p5 p8 p9 p10 mb n : Nat) (D : DataW Value) (w : World) : Prop where
  mdl : Blk w p1 24 #[.int .i64 m.next, .slice A m.nodes.length c]
  cell : Blk w p5 40 #[.map (some mb)]
  map : w.ownsMap Tryd.prog 3 heldM mb n D
  lin : Blk w p9 53 #[.func (.func 11) #[] #[.pointer (some ⟨p8, 0, none⟩)]]
  nod : Blk w p10 55 #[.func (.func 17) #[] #[.pointer (some ⟨p9, 0, none⟩), .pointer (some ⟨p10, 0, none⟩), .pointer (some ⟨p1, 0, none⟩), .pointer (some ⟨p5, 0, none⟩)]]
section
variable {m : AModel} {A : Option Addr} {c p1 p5 p8 p9 p10 mb n : Nat} {D : DataW Value} {w w' : World}
theorem PEnv.below (h : PEnv m A c p1 p5 p8 p9 p10 mb n D w) (hb : Below w.heap.size w w') : PEnv m A c p1 p5 p8 p9 p10 mb n D w' :=
  ⟨h.mdl.below hb h.mdl.lt, h.cell.below hb h.cell.lt, map_keep h.map (hb.block mb h.map.lt), h.lin.below hb h.lin.lt, h.nod.below hb h.nod.lt⟩
theorem PEnv.besides {B : Nat} {xs : List UInt8} (h : PEnv m A c p1 p5 p8 p9 p10 mb n D w) (hx : HoldsB w B p8 xs) (hb : Besides p8 w w') : PEnv m A c p1 p5 p8 p9 p10 mb n D w' := by
  refine ⟨h.mdl.besides hb (hx.ne h.mdl (by decide)) (by decide), h.cell.besides hb (hx.ne h.cell (by decide)) (by decide), map_keep h.map (hb.block mb h.map.lt ?_ ?_), h.lin.besides hb (hx.ne h.lin (by decide)) (by decide), h.nod.besides hb (hx.ne h.nod (by decide)) (by decide)⟩
  · obtain ⟨es, clock, hm, _⟩ := h.map
    intro e
    subst e
    rcases hx with ⟨_, v, h2, _⟩ | ⟨_, v, h2, _⟩ <;> (rw [hm] at h2; cases h2)
  · obtain ⟨es, clock, hm, _⟩ := h.map
    intro cs fz e
    rw [hm] at e; cases e
theorem PEnv.look (h : PEnv m A c p1 p5 p8 p9 p10 mb n D w) (hD : MapV D (placesTo m m.nodes.length)) (hs : Srt m.nodes) {i : Nat} (hi : i < m.nodes.length) (hr : InI m.nodes[i].id) :
    (Instr.lookup 40 (.map (some mb)) (.int .i64 m.nodes[i].id) false).run Tryd.prog w = .ok (.int .i64 i) w := by
  have := look_run (z := .int .i64 0) h.map hD Tryd.underlying40 (zero_int w) hr
  rw [places_look hs hi] at this
  exact this
end
end Go.Proofs.YtpkapommekkbcaaDoor
end
