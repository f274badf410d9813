import Derived.Test.YtmafhaadcjgcbaaInsertS
import Derived.Test.YtmafhaadcjgcbaaAIn
namespace Go.Proofs.Ytmafhaadcjgcbaa
open Go Go.RowKit

def eqT (a b : ByteArray) : Bool := a.toList == b.toList
/-- what is left behind a text's elements -/
def keepN {α : Type} (f : α → ByteArray) (l : List α) (t : ByteArray) : List α := l.filter (fun x => !eqT (f x) t)
def FstN {α : Type} (f : α → ByteArray) (l : List α) (t : ByteArray) (n : Int) : Prop :=
  (n = -1 ∧ ∀ j (h : j < l.length), eqT (f l[j]) t = false) ∨ ∃ (k : Nat) (h : k < l.length), n = k ∧ eqT (f l[k]) t = true ∧ ∀ j (h : j < l.length), j < k → eqT (f l[j]) t = false
theorem keepN_all {α : Type} {f : α → ByteArray} {l : List α} {t : ByteArray} (h : ∀ j (h : j < l.length), eqT (f l[j]) t = false) : keepN f l t = l :=
  List.filter_eq_self.2 fun x hx => by
    obtain ⟨i, hi, rfl⟩ := List.getElem_of_mem hx
    rw [h i hi]; rfl
/-- what DeleteFunc keeps -/
structure DelInv {α : Type} (f : α → ByteArray) (l : List α) (t : ByteArray) (C : List α) (i j : Nat) : Prop where
  len : C.length = l.length
  lt : i < j
  le : j ≤ l.length
  low : C.take i = keepN f (l.take j) t
  high : C.drop j = l.drop j
section
variable {α : Type} {f : α → ByteArray} {l C : List α} {t : ByteArray} {i j : Nat}
theorem DelInv.start {k : Nat} (hk : k < l.length) (hy : eqT (f l[k]) t = true) (hn : ∀ j (h : j < l.length), j < k → eqT (f l[j]) t = false) : DelInv f l t l k (k + 1) := by
  refine ⟨rfl, by omega, hk, ?_, rfl⟩
  unfold keepN
  rw [filter_take hk, hy]
  simp only [Bool.not_true, Bool.false_eq_true, if_false, List.append_nil]
  refine (List.filter_eq_self.2 fun x hx => ?_).symm
  obtain ⟨q, hq, rfl⟩ := List.getElem_of_mem hx
  rw [List.getElem_take, hn q (by rw [List.length_take] at hq; omega) (by rw [List.length_take] at hq; omega)]; rfl
theorem DelInv.at_ (h : DelInv f l t C i j) (hj : j < l.length) : ∃ h : j < C.length, C[j]'h = l[j] := by
  have e := congrArg (fun x => x[0]?) h.high
  simp only [List.getElem?_drop, Nat.add_zero] at e
  have hC : j < C.length := by rw [h.len]; exact hj
  rw [List.getElem?_eq_getElem hC, List.getElem?_eq_getElem hj] at e
  exact ⟨hC, by injection e⟩
theorem DelInv.skip (h : DelInv f l t C i j) (hj : j < l.length) (hy : eqT (f l[j]) t = true) : DelInv f l t C i (j + 1) := by
  refine ⟨h.len, by have := h.lt; omega, hj, ?_, ?_⟩
  · unfold keepN
    rw [filter_take hj, hy, h.low]
    simp [keepN]
  · have := congrArg (List.drop 1) h.high
    simpa [List.drop_drop] using this
theorem DelInv.keep (h : DelInv f l t C i j) (hj : j < l.length) (hy : eqT (f l[j]) t = false) : DelInv f l t (C.set i l[j]) (i + 1) (j + 1) := by
  have hl := h.len; have hlt := h.lt
  refine ⟨by simpa using hl, by omega, hj, ?_, ?_⟩
  · have hi : i < C.length := by omega
    rw [List.take_succ_eq_append_getElem (by simpa using hi), List.take_set_of_le (Nat.le_refl _), h.low, List.getElem_set_self]
    unfold keepN
    rw [filter_take hj, hy]
    simp
  · have := congrArg (List.drop 1) h.high
    rw [List.drop_set_of_lt (by omega)]
    simpa [List.drop_drop] using this
theorem DelInv.done (h : DelInv f l t C i l.length) : C.take i = keepN f l t := by have := h.low; rwa [List.take_length] at this
theorem DelInv.len_i (h : DelInv f l t C i l.length) : (keepN f l t).length = i := by rw [← h.done, List.length_take]; have := h.len; have := h.lt; omega
end
theorem grown_set {w w' : World} {g : Nat} (h : w.grownBy w' (some g)) (i : Nat) (u : Value) : w.grownBy (w'.setCell ⟨g, i, none⟩ u) (some g) :=
  ⟨h.os, h.tape, h.output, by simpa using h.size, fun k hk hn => (Below.heap_setCell _ _ _ _ (fun e => hn (by rw [e]))).trans (h.block k hk hn)⟩
theorem grown_below {w w' w'' : World} {row : Option Nat} (h : w.grownBy w' row) (hb : Below w'.heap.size w' w'') : w.grownBy w'' row :=
  ⟨hb.os.trans h.os, hb.tape.trans h.tape, hb.output.trans h.output, Nat.le_trans h.size hb.size, fun k hk hn => (hb.block k (Nat.lt_of_lt_of_le hk h.size)).trans (h.block k hk hn)⟩
/-- 'clear' on a part of a row of the call's own, its elements of more cells than one -/
theorem run_clear_rowK {P : Program} (w : World) (sT e ty : TypeId) (z : Value) (g o n c : Nat) (cur : Array Value) (t : TypeId) (hn : 0 < n)
    (ht : P.underlying sT = some (.slice e)) (hv : ∀ w, (zeroValue e).run P w = .ok z w) (hg : Blk w g t cur) (hfit : o + n * z.cells.size ≤ cur.size) (h1 : ∀ v ∈ (Builtin.zeroCells z.cells n).toList, v.oneCell' = true) :
    (Builtin.clear_ #[sT] ty #[.slice (some ⟨g, o, none⟩) n c]).run P w = .ok (.tuple #[]) (w.setRow g (lay cur o (Builtin.zeroCells z.cells n).toList)) := by
  have hst := run_storeCells_at P g o t (Builtin.zeroCells z.cells n).toList 0 cur w hg (by simpa [size_zeroCells] using hfit) h1
  simp only [Nat.add_zero] at hst
  obtain ⟨m, rfl⟩ : ∃ m, n = m + 1 := ⟨n - 1, by omega⟩
  simp [Builtin.clear_, run_underlying ht, hv, hst, lay]
theorem lay_low {cur : Array Value} {off : Nat} {cs : List Value} (h : off ≤ cur.size) : (lay cur off cs).toList.take off = cur.toList.take off := by
  rw [lay_list, List.append_assoc, List.take_append_of_le_length (by simp; omega), List.take_take, Nat.min_self]

theorem zero_one {z : Value} {n : Nat} (h : ∀ v ∈ z.cells.toList, v.oneCell' = true) : ∀ v ∈ (Builtin.zeroCells z.cells n).toList, v.oneCell' = true := by
  intro v hv
  unfold Builtin.zeroCells at hv
  rw [Array.toList_map, List.mem_map] at hv
  obtain ⟨i, hi, rfl⟩ := hv
  have hi' : i < n * z.cells.size := by simpa using hi
  have hp : 0 < z.cells.size := by
    rcases Nat.eq_zero_or_pos z.cells.size with h0 | h0
    · rw [h0] at hi'; omega
    · exact h0
  have hlt : i % z.cells.size < z.cells.size := Nat.mod_lt _ hp
  rw [getElem!_pos z.cells _ hlt]
  exact h _ (by simp)

def dropFn (g : Nat) : Value := .func (.func 91) #[] #[.pointer (some ⟨g, 0, none⟩)]
theorem drop1_any (a t : ByteArray) (v0 : ByteArray) (g : Nat) (w : World) (h : Blk w g 9 #[.string t]) :
    Calls Try.prog 91 #[.agg #[.string a, .string v0], .pointer (some ⟨g, 0, none⟩)] w fun e w' => e = .returned (.bool (eqT a t)) ∧ Below w.heap.size w w' := by
  have HX := Lib.hid (h.alloc (.cells #[.string a, .string v0] 85))
  have c0 := HX.out.cell 0
  have hlt := h.lt
  simp at c0
  clear h
  go_enter Try.func91, Try.ntmps91
  go_wp2
  go_ret
  exact ⟨rfl, (Below.refl _ _).alloc (Nat.le_refl _) _⟩

set_option maxRecDepth 100000 in
set_option maxHeartbeats 1000000 in
theorem idxPropN_any (S : Option Addr) (c : Nat) (l : List AProp) (t : ByteArray) (g : Nat) (w : World) (F : Nat → Prop) (hF : ∀ b, F b → b < w.heap.size) (h : RowOf 2 EProp w F S l) (hg : Blk w g 9 #[.string t]) (hl : l.length ≤ 1125899906842624) :
    Calls Try.prog 123 #[.slice S l.length c, dropFn g] w fun e w' => ∃ n : Int, e = .returned (.int .i64 n) ∧ FstN AProp.name l t n ∧ Below w.heap.size w w' := by
  have HG := Lib.hid hg
  have hglt := hg.lt
  clear hg
  unfold dropFn
  go_enter Try.func123, Try.ntmps123
  go_wp2_with fail
  go_loopg [5, 8] l.length (fun n s5 s8 wx => ∃ i : Nat, s8 = .int .i64 i ∧ n = l.length - i ∧ i ≤ l.length ∧ (∀ j (h : j < l.length), j < i → eqT l[j].name t = false) ∧ Below w.heap.size w wx)
  case atStart => exact ⟨0, rfl, rfl, Nat.zero_le _, fun j _ h => absurd h (Nat.not_lt_zero _), Below.refl _ _⟩
  case round =>
    obtain ⟨i, rfl, rfl, hil, hno, hb⟩ := hrel
    have HB := Lib.hid hb; have HNO := Lib.hid hno
    by_cases hlt : i < l.length
    · have hlt' : (i : Int) < l.length := by omega
      have i0 : (0 : Int) ≤ i := by omega
      obtain ⟨b, off, rfl, hbF, d0, d1⟩ := prop_at (RowOf.keep EProp.stays (Keep.below hb hF) (F' := F) (fun _ h => h) h) hlt
      clear hb hno
      go_upto_region 4 with fail
      go_wp2_with fail
      refine (drop1_any _ t _ g _ (HG.out.below HB.out hglt)).mono ?_
      rintro _ w1 ⟨rfl, hb1⟩
      have HB1 := Lib.hid (HB.out.trans (hb1.mono HB.out.size))
      clear hb1 d0 d1
      cases he : eqT l[i].name t
      · have HN := Lib.hid he
        clear he
        go_wp2
        go_roundg (l.length - (i + 1))
        case measure => omega
        case rel => exact ⟨i + 1, by go_num, rfl, by omega, fun j hj hji => by
          rcases Nat.lt_succ_iff_lt_or_eq.1 hji with h1 | h1
          · exact HNO.out j hj h1
          · subst h1; exact HN.out, HB1.out⟩
      · have HY := Lib.hid (show FstN AProp.name l t i from .inr ⟨i, hlt, rfl, he, HNO.out⟩)
        clear he
        go_wp2
        go_ret
        exact ⟨_, rfl, HY.out, HB1.out⟩
    · have hlt' : ¬ (i : Int) < l.length := by omega
      have HN := Lib.hid (show FstN AProp.name l t (-1) from .inl ⟨rfl, fun j hj => HNO.out j hj (by omega)⟩)
      clear hno hb
      go_wp2
      go_ret
      exact ⟨_, rfl, HN.out, HB.out⟩

set_option maxRecDepth 100000 in
set_option maxHeartbeats 4000000 in
theorem delProp_any (v : Value) (l : List AProp) (t : ByteArray) (g : Nat) (w : World) (base : Nat) (hown : w.ownsRow base 85 2 v l.length (l.flatMap propCells)) (hg : Blk w g 9 #[.string t]) (hne : v.ownBlock ≠ some g) (hlen : l.length ≤ 1125899906842624) :
    Calls Try.prog 90 #[v, dropFn g] w fun e w' => ∃ v', e = .returned v' ∧ w'.ownsRow base 85 2 v' (keepN AProp.name l t).length ((keepN AProp.name l t).flatMap propCells) ∧ w.grownBy w' v.ownBlock ∧ v'.ownBlock = v.ownBlock := by
  obtain ⟨A, cap, rfl⟩ := own_shape hown
  have HI := Lib.hid (idxPropN_any A cap l t g w (fun b => b < w.heap.size) (fun b h => h) (by
    obtain ⟨A', c', e, _, _, h3⟩ := IsRow.of_own (F := fun b => b < w.heap.size) propCells_len hown (own_at hown (fun b _ h => h))
    injection e with e1; subst e1; exact h3) hg hlen)
  have HOWN := Lib.hid hown; have HG := Lib.hid hg; have HNE := Lib.hid hne
  have hglt := hg.lt
  clear hown hg hne
  unfold dropFn at HI ⊢
  go_enter Try.func90, Try.ntmps90
  go_wp2_with fail
  refine HI.out.mono ?_
  rintro _ w1 ⟨n, rfl, hn, hb⟩
  have HB := Lib.hid hb
  clear HI hb
  rcases hn with ⟨rfl, hall⟩ | ⟨k, hk, rfl, hy, hno⟩
  · have HK := Lib.hid (keepN_all hall)
    have HEND := Lib.hid (own_keep HOWN.out fun b e => HB.out.block b (HOWN.out.lt b e).2)
    have HGR := Lib.hid (grown_below (w := w) (row := (Value.slice A l.length cap).ownBlock) ⟨rfl, rfl, rfl, Nat.le_refl _, fun _ _ _ => rfl⟩ HB.out)
    clear hall
    go_wp2
    go_ret
    refine ⟨_, rfl, ?_, HGR.out, rfl⟩
    rw [HK.out]; exact HEND.out
  · have HST := Lib.hid (DelInv.start hk hy hno)
    obtain ⟨b, c, e0, hnc, hcm, hbb, hbw⟩ := own_some HOWN.out (by omega)
    injection e0 with e1 _ e2
    subst e1; subst e2
    have hgb : g ≠ b := fun e => HNE.out (by rw [e]; rfl)
    have HEND := Lib.hid (own_keep HOWN.out fun b e => HB.out.block b (HOWN.out.lt b e).2)
    have HGR := Lib.hid (grown_below (w := w) (row := some b) ⟨rfl, rfl, rfl, Nat.le_refl _, fun _ _ _ => rfl⟩ HB.out)
    have hk1 : ((k : Int) == -1) = false := beq_eq_false_iff_ne.2 (by omega)
    obtain ⟨n, hn⟩ : ∃ n, l.length = n := ⟨_, rfl⟩
    have HN := Lib.hid hn
    rw [hn] at HOWN HEND hnc hlen hk ⊢
    clear hy hno hn HNE
    unfold maxLen at hcm
    go_wp2_with fail
    go_loopg [5, 6, 7] (n - (k + 1)) (fun gg s5 s6 _ wx => ∃ (i j : Nat) (C : List AProp), s5 = .int .i64 i ∧ s6 = .int .i64 j ∧ gg = n - j ∧ i < j ∧ j ≤ n ∧ Hid (wx.ownsRow base 85 2 (.slice (some ⟨b, 0, none⟩) n cap) n (C.flatMap propCells)) ∧ Hid (w.grownBy wx (some b)) ∧ Hid (DelInv AProp.name l t C i j))
    case atStart => exact ⟨k, k + 1, l, rfl, by go_num, rfl, by omega, by omega, HEND, HGR, HST⟩
    case round =>
      obtain ⟨i, j, C, rfl, rfl, rfl, hij, hjn, HO, HGW, HD⟩ := hrel
      clear HEND HGR HST HB HOWN
      by_cases hlt : j < n
      · have hlt' : (j : Int) < n := by omega
        have j0 : (0 : Int) ≤ j := by omega
        have i0 : (0 : Int) ≤ i := by omega
        have i1 : (i : Int) < n := by omega
        have hi2 : i < n := by omega
        obtain ⟨x, hx⟩ : ∃ x, l[j]? = some x := ⟨_, List.getElem?_eq_getElem (by rw [HN.out]; exact hlt)⟩
        have hxl : l[j]'(by rw [HN.out]; exact hlt) = x := by rw [List.getElem?_eq_getElem (by rw [HN.out]; exact hlt)] at hx; injection hx
        have HXL := Lib.hid (show ∃ h : j < l.length, l[j]'h = x from ⟨_, hxl⟩)
        obtain ⟨hC, hCj⟩ := HD.out.at_ (by rw [HN.out]; exact hlt)
        have hCl : C.length = n := by rw [HD.out.len, HN.out]
        have cx : ∀ (q r : Nat) (hq : q < C.length), r < 2 → wr.cell? ⟨b, q * 2 + r, none⟩ = (propCells C[q])[r]? := fun q r hq hr => by
          rw [own_cell HO.out _ (by rw [hCl] at hq; omega), flat_at propCells_len C q r hq hr]
        have d0 := cx j 0 hC (by omega)
        have d1 := cx j 1 hC (by omega)
        rw [hCj, hxl] at d0 d1
        have e0 := cx i 0 (by omega) (by omega)
        have e1 := cx i 1 (by omega) (by omega)
        simp [propCells] at d0 d1 e0 e1
        obtain ⟨xo, hxo⟩ : ∃ xo, C[i]'(by omega) = xo := ⟨_, rfl⟩
        rw [hxo] at e0 e1
        have hbwr : b < wr.heap.size := (HO.out.lt b rfl).2
        have hgwr : Blk wr g 9 #[.string t] := (HGW.out.block g hglt (fun e => hgb (by injection e))).trans HG.out
        have HGX := Lib.hid hgwr
        have hgwl := hgwr.lt
        have HXO := Lib.hid (show ∃ h : i < C.length, C[i]'h = xo from ⟨_, hxo⟩); have HCL := Lib.hid hCl
        clear hx hxl hC hCj hCl cx hgwr hxo
        go_upto_region 8 with fail
        have HW1 := Lib.hid ((Below.refl wr.heap.size wr).alloc (Nat.le_refl _) (.cells #[.string x.name, (.string x.value)] 85))
        have HBX := Lib.hid (Blk.new wr 85 #[.string x.name, (.string x.value)])
        have f0 := HBX.out.cell 0; have f1 := HBX.out.cell 1
        simp at f0 f1
        go_wp2_with fail
        refine (drop1_any _ t _ g _ (HGX.out.alloc _)).mono ?_
        rintro _ u ⟨rfl, hb1⟩
        have HBU := Lib.hid (HW1.out.trans (hb1.mono (by simp)))
        have HBXU := Lib.hid (HBX.out.below hb1 (by simp))
        clear hb1 d0 d1 e0 e1 f0 f1
        have f0 := HBXU.out.cell 0; have f1 := HBXU.out.cell 1
        simp at f0 f1
        have HOU := Lib.hid (own_keep HO.out fun b' e => HBU.out.block b' (HO.out.lt b' e).2)
        have HGU := Lib.hid (grown_below HGW.out HBU.out)
        have fz0 := own_frozen HOU.out (i * 2)
        have fz1 := own_frozen HOU.out (i * 2 + 1)
        have hbu : b < u.heap.size := (HOU.out.lt b rfl).2
        have e0 := own_cell HOU.out (i * 2) (by omega)
        have e1 := own_cell HOU.out (i * 2 + 1) (by omega)
        rw [show i * 2 = i * 2 + 0 from rfl, flat_at propCells_len C i 0 (by rw [HCL.out]; omega) (by omega), HXO.out.choose_spec] at e0
        rw [flat_at propCells_len C i 1 (by rw [HCL.out]; omega) (by omega), HXO.out.choose_spec] at e1
        simp [propCells] at e0 e1
        cases he : eqT x.name t
        · have HK : Hid (DelInv AProp.name l t (C.set i x) (i + 1) (j + 1)) := Lib.hid (by
            obtain ⟨h, e⟩ := HXL.out
            have := HD.out.keep h (by rw [e]; exact he)
            rwa [e] at this)
          have HOS : Hid (((u.setCell ⟨b, i * 2, none⟩ (.string x.name)).setCell ⟨b, i * 2 + 1, none⟩ (.string x.value)).ownsRow base 85 2 (.slice (some ⟨b, 0, none⟩) n cap) n ((C.set i x).flatMap propCells)) := Lib.hid (by
            have s1 := own_set HOU.out (i := i * 2) (by omega) (.string x.name)
            have s2 := own_set s1 (i := i * 2 + 1) (by omega) (.string x.value)
            have hiC : i < C.length := by rw [HCL.out]; omega
            have a1 := flat_set propCells_len C i 0 hiC (by omega) (.string x.name) (⟨x.name, xo.value⟩ : AProp) (by rw [HXO.out.choose_spec]; rfl)
            have a2 := flat_set propCells_len (C.set i (⟨x.name, xo.value⟩ : AProp)) i 1 (by simpa using hiC) (by omega) (.string x.value) x (by rw [List.getElem_set_self]; rfl)
            rw [List.set_set, a1] at a2
            rw [a2]
            exact s2)
          have HGS := Lib.hid (grown_set (grown_set HGU.out (i * 2) (.string x.name)) (i * 2 + 1) (.string x.value))
          clear he
          go_wp2
          go_roundg (n - (j + 1))
          case measure => omega
          case rel => exact ⟨i + 1, j + 1, _, by go_num, by go_num, rfl, by omega, by omega, HOS, HGS, HK⟩
        · have HK : Hid (DelInv AProp.name l t C i (j + 1)) := Lib.hid (by
            obtain ⟨h, e⟩ := HXL.out
            exact HD.out.skip h (by rw [e]; exact he))
          clear he
          go_wp2
          go_roundg (n - (j + 1))
          case measure => omega
          case rel => exact ⟨i, j + 1, _, rfl, by go_num, rfl, by omega, by omega, HOU, HGU, HK⟩
      · have hjn' : j = n := by omega
        subst hjn'
        have hlt' : ¬ (j : Int) < j := by omega
        have i0 : (0 : Int) ≤ i := by omega
        have i1 : (i : Int) ≤ j := by omega
        obtain ⟨_, ⟨e0, _⟩ | ⟨g', cap', cur, e0, hbg, hh, hnc', hcm', hsz, ht⟩⟩ := HO.out
        · cases e0
        injection e0 with e1 _ e2
        injection e1 with e1
        injection e1 with e1
        subst e1; subst e2
        obtain ⟨zi, hz1, hz2, hz3, hz4⟩ := info_parts prop_info
        have hcl : ∀ ty, (Builtin.clear_ #[34] ty #[.slice (some ⟨b, i * 2, none⟩) (j - i) (cap - i)]).run Try.prog wr = .ok (.tuple #[]) (wr.setRow b (lay cur (i * 2) (Builtin.zeroCells ((.agg #[.string ⟨#[]⟩, .string ⟨#[]⟩]) : Value).cells (j - i)).toList)) := fun ty =>
          run_clear_rowK wr _ _ ty (.agg #[.string ⟨#[]⟩, .string ⟨#[]⟩]) b (i * 2) (j - i) (cap - i) cur _ (by omega) Try.underlying34 (fun w => by simp [zeroValue, typeInfo, hz1, hz2]) hh (by rw [hsz]; show i * 2 + (j - i) * 2 ≤ cap * 2; have : (j - i) * 2 = j * 2 - i * 2 := Nat.sub_mul ..; have : j * 2 ≤ cap * 2 := Nat.mul_le_mul_right _ hnc'; omega) (zero_one (by intro v hv; simp [Value.cells] at hv; rcases hv with rfl | rfl <;> rfl))
        have hzl : (Builtin.zeroCells ((.agg #[.string ⟨#[]⟩, .string ⟨#[]⟩]) : Value).cells (j - i)).toList.length = (j - i) * 2 := by rw [Array.length_toList, size_zeroCells]; rfl
        have hfit : i * 2 + (j - i) * 2 ≤ cur.size := by rw [hsz]; have : (j - i) * 2 = j * 2 - i * 2 := Nat.sub_mul ..; have : j * 2 ≤ cap * 2 := Nat.mul_le_mul_right _ hnc'; omega
        have HX := Lib.hid (Blk.row hh (lay cur (i * 2) (Builtin.zeroCells ((.agg #[.string ⟨#[]⟩, .string ⟨#[]⟩]) : Value).cells (j - i)).toList))
        have HXS : Hid ((lay cur (i * 2) (Builtin.zeroCells ((.agg #[.string ⟨#[]⟩, .string ⟨#[]⟩]) : Value).cells (j - i)).toList).size = cap * 2) := Lib.hid (by rw [lay_size (by rw [hzl]; exact hfit), hsz])
        have HXG := Lib.hid (grown_setRow HGW.out (lay cur (i * 2) (Builtin.zeroCells ((.agg #[.string ⟨#[]⟩, .string ⟨#[]⟩]) : Value).cells (j - i)).toList))
        have HXT : Hid ((lay cur (i * 2) (Builtin.zeroCells ((.agg #[.string ⟨#[]⟩, .string ⟨#[]⟩]) : Value).cells (j - i)).toList).toList.take (i * 2) = (keepN AProp.name l t).flatMap propCells) := Lib.hid (by
          have hD := HD.out
          rw [← HN.out] at hD
          rw [lay_low (by omega), ← hD.done, ← flat_take propCells_len, ← ht, List.take_take, Nat.min_eq_left (Nat.mul_le_mul_right _ (by omega))])
        have HKL : Hid ((keepN AProp.name l t).length = i) := Lib.hid (by
          have hD := HD.out
          rw [← HN.out] at hD
          exact hD.len_i)
        obtain ⟨zr, hzr⟩ : ∃ zr, lay cur (i * 2) (Builtin.zeroCells ((.agg #[.string ⟨#[]⟩, .string ⟨#[]⟩]) : Value).cells (j - i)).toList = zr := ⟨_, rfl⟩
        rw [hzr] at HX HXS HXG HXT
        simp only [hzr] at hcl
        clear hzr hzl hfit ht hsz hh hz1 hz2 hz3 hz4
        go_wp2
        go_ret
        refine ⟨_, rfl, ⟨by rw [flat_length propCells_len], .inr ⟨b, cap, zr, by rw [HKL.out]; rfl, hbg, HX.out, by rw [HKL.out]; omega, hcm', HXS.out, by rw [HKL.out]; exact HXT.out⟩⟩, HXG.out, rfl⟩

def looseFn (g : Nat) : Value := .func (.func 96) #[] #[.pointer (some ⟨g, 0, none⟩)]
theorem loose1_any (a t : ByteArray) (v0 : Int) (g : Nat) (w : World) (h : Blk w g 9 #[.string t]) :
    Calls Try.prog 96 #[.agg #[.string a, .int .i64 v0], .pointer (some ⟨g, 0, none⟩)] w fun e w' => e = .returned (.bool (eqT a t)) ∧ Below w.heap.size w w' := by
  have HX := Lib.hid (h.alloc (.cells #[.string a, .int .i64 v0] 82))
  have c0 := HX.out.cell 0
  have hlt := h.lt
  simp at c0
  clear h
  go_enter Try.func96, Try.ntmps96
  go_wp2
  go_ret
  exact ⟨rfl, (Below.refl _ _).alloc (Nat.le_refl _) _⟩

set_option maxRecDepth 100000 in
set_option maxHeartbeats 1000000 in
theorem idxRefN_any (S : Option Addr) (c : Nat) (l : List ARef) (t : ByteArray) (g : Nat) (w : World) (F : Nat → Prop) (hF : ∀ b, F b → b < w.heap.size) (h : RowOf 2 ERef w F S l) (hg : Blk w g 9 #[.string t]) (hl : l.length ≤ 1125899906842624) :
    Calls Try.prog 117 #[.slice S l.length c, looseFn g] w fun e w' => ∃ n : Int, e = .returned (.int .i64 n) ∧ FstN ARef.role l t n ∧ Below w.heap.size w w' := by
  have HG := Lib.hid hg
  have hglt := hg.lt
  clear hg
  unfold looseFn
  go_enter Try.func117, Try.ntmps117
  go_wp2_with fail
  go_loopg [5, 8] l.length (fun n s5 s8 wx => ∃ i : Nat, s8 = .int .i64 i ∧ n = l.length - i ∧ i ≤ l.length ∧ (∀ j (h : j < l.length), j < i → eqT l[j].role t = false) ∧ Below w.heap.size w wx)
  case atStart => exact ⟨0, rfl, rfl, Nat.zero_le _, fun j _ h => absurd h (Nat.not_lt_zero _), Below.refl _ _⟩
  case round =>
    obtain ⟨i, rfl, rfl, hil, hno, hb⟩ := hrel
    have HB := Lib.hid hb; have HNO := Lib.hid hno
    by_cases hlt : i < l.length
    · have hlt' : (i : Int) < l.length := by omega
      have i0 : (0 : Int) ≤ i := by omega
      obtain ⟨b, off, rfl, hbF, d0, d1⟩ := ref_at (RowOf.keep ERef.stays (Keep.below hb hF) (F' := F) (fun _ h => h) h) hlt
      clear hb hno
      go_upto_region 4 with fail
      go_wp2_with fail
      refine (loose1_any _ t _ g _ (HG.out.below HB.out hglt)).mono ?_
      rintro _ w1 ⟨rfl, hb1⟩
      have HB1 := Lib.hid (HB.out.trans (hb1.mono HB.out.size))
      clear hb1 d0 d1
      cases he : eqT l[i].role t
      · have HN := Lib.hid he
        clear he
        go_wp2
        go_roundg (l.length - (i + 1))
        case measure => omega
        case rel => exact ⟨i + 1, by go_num, rfl, by omega, fun j hj hji => by
          rcases Nat.lt_succ_iff_lt_or_eq.1 hji with h1 | h1
          · exact HNO.out j hj h1
          · subst h1; exact HN.out, HB1.out⟩
      · have HY := Lib.hid (show FstN ARef.role l t i from .inr ⟨i, hlt, rfl, he, HNO.out⟩)
        clear he
        go_wp2
        go_ret
        exact ⟨_, rfl, HY.out, HB1.out⟩
    · have hlt' : ¬ (i : Int) < l.length := by omega
      have HN := Lib.hid (show FstN ARef.role l t (-1) from .inl ⟨rfl, fun j hj => HNO.out j hj (by omega)⟩)
      clear hno hb
      go_wp2
      go_ret
      exact ⟨_, rfl, HN.out, HB.out⟩

set_option maxRecDepth 100000 in
set_option maxHeartbeats 4000000 in
theorem delRef_any (v : Value) (l : List ARef) (t : ByteArray) (g : Nat) (w : World) (base : Nat) (hown : w.ownsRow base 82 2 v l.length (l.flatMap refCells)) (hg : Blk w g 9 #[.string t]) (hne : v.ownBlock ≠ some g) (hlen : l.length ≤ 1125899906842624) :
    Calls Try.prog 95 #[v, looseFn g] w fun e w' => ∃ v', e = .returned v' ∧ w'.ownsRow base 82 2 v' (keepN ARef.role l t).length ((keepN ARef.role l t).flatMap refCells) ∧ w.grownBy w' v.ownBlock ∧ v'.ownBlock = v.ownBlock := by
  obtain ⟨A, cap, rfl⟩ := own_shape hown
  have HI := Lib.hid (idxRefN_any A cap l t g w (fun b => b < w.heap.size) (fun b h => h) (by
    obtain ⟨A', c', e, _, _, h3⟩ := IsRow.of_own (F := fun b => b < w.heap.size) refCells_len hown (own_at hown (fun b _ h => h))
    injection e with e1; subst e1; exact h3) hg hlen)
  have HOWN := Lib.hid hown; have HG := Lib.hid hg; have HNE := Lib.hid hne
  have hglt := hg.lt
  clear hown hg hne
  unfold looseFn at HI ⊢
  go_enter Try.func95, Try.ntmps95
  go_wp2_with fail
  refine HI.out.mono ?_
  rintro _ w1 ⟨n, rfl, hn, hb⟩
  have HB := Lib.hid hb
  clear HI hb
  rcases hn with ⟨rfl, hall⟩ | ⟨k, hk, rfl, hy, hno⟩
  · have HK := Lib.hid (keepN_all hall)
    have HEND := Lib.hid (own_keep HOWN.out fun b e => HB.out.block b (HOWN.out.lt b e).2)
    have HGR := Lib.hid (grown_below (w := w) (row := (Value.slice A l.length cap).ownBlock) ⟨rfl, rfl, rfl, Nat.le_refl _, fun _ _ _ => rfl⟩ HB.out)
    clear hall
    go_wp2
    go_ret
    refine ⟨_, rfl, ?_, HGR.out, rfl⟩
    rw [HK.out]; exact HEND.out
  · have HST := Lib.hid (DelInv.start hk hy hno)
    obtain ⟨b, c, e0, hnc, hcm, hbb, hbw⟩ := own_some HOWN.out (by omega)
    injection e0 with e1 _ e2
    subst e1; subst e2
    have hgb : g ≠ b := fun e => HNE.out (by rw [e]; rfl)
    have HEND := Lib.hid (own_keep HOWN.out fun b e => HB.out.block b (HOWN.out.lt b e).2)
    have HGR := Lib.hid (grown_below (w := w) (row := some b) ⟨rfl, rfl, rfl, Nat.le_refl _, fun _ _ _ => rfl⟩ HB.out)
    have hk1 : ((k : Int) == -1) = false := beq_eq_false_iff_ne.2 (by omega)
    obtain ⟨n, hn⟩ : ∃ n, l.length = n := ⟨_, rfl⟩
    have HN := Lib.hid hn
    rw [hn] at HOWN HEND hnc hlen hk ⊢
    clear hy hno hn HNE
    unfold maxLen at hcm
    go_wp2_with fail
    go_loopg [5, 6, 7] (n - (k + 1)) (fun gg s5 s6 _ wx => ∃ (i j : Nat) (C : List ARef), s5 = .int .i64 i ∧ s6 = .int .i64 j ∧ gg = n - j ∧ i < j ∧ j ≤ n ∧ Hid (wx.ownsRow base 82 2 (.slice (some ⟨b, 0, none⟩) n cap) n (C.flatMap refCells)) ∧ Hid (w.grownBy wx (some b)) ∧ Hid (DelInv ARef.role l t C i j))
    case atStart => exact ⟨k, k + 1, l, rfl, by go_num, rfl, by omega, by omega, HEND, HGR, HST⟩
    case round =>
      obtain ⟨i, j, C, rfl, rfl, rfl, hij, hjn, HO, HGW, HD⟩ := hrel
      clear HEND HGR HST HB HOWN
      by_cases hlt : j < n
      · have hlt' : (j : Int) < n := by omega
        have j0 : (0 : Int) ≤ j := by omega
        have i0 : (0 : Int) ≤ i := by omega
        have i1 : (i : Int) < n := by omega
        have hi2 : i < n := by omega
        obtain ⟨x, hx⟩ : ∃ x, l[j]? = some x := ⟨_, List.getElem?_eq_getElem (by rw [HN.out]; exact hlt)⟩
        have hxl : l[j]'(by rw [HN.out]; exact hlt) = x := by rw [List.getElem?_eq_getElem (by rw [HN.out]; exact hlt)] at hx; injection hx
        have HXL := Lib.hid (show ∃ h : j < l.length, l[j]'h = x from ⟨_, hxl⟩)
        obtain ⟨hC, hCj⟩ := HD.out.at_ (by rw [HN.out]; exact hlt)
        have hCl : C.length = n := by rw [HD.out.len, HN.out]
        have cx : ∀ (q r : Nat) (hq : q < C.length), r < 2 → wr.cell? ⟨b, q * 2 + r, none⟩ = (refCells C[q])[r]? := fun q r hq hr => by
          rw [own_cell HO.out _ (by rw [hCl] at hq; omega), flat_at refCells_len C q r hq hr]
        have d0 := cx j 0 hC (by omega)
        have d1 := cx j 1 hC (by omega)
        rw [hCj, hxl] at d0 d1
        have e0 := cx i 0 (by omega) (by omega)
        have e1 := cx i 1 (by omega) (by omega)
        simp [refCells] at d0 d1 e0 e1
        obtain ⟨xo, hxo⟩ : ∃ xo, C[i]'(by omega) = xo := ⟨_, rfl⟩
        rw [hxo] at e0 e1
        have hbwr : b < wr.heap.size := (HO.out.lt b rfl).2
        have hgwr : Blk wr g 9 #[.string t] := (HGW.out.block g hglt (fun e => hgb (by injection e))).trans HG.out
        have HGX := Lib.hid hgwr
        have hgwl := hgwr.lt
        have HXO := Lib.hid (show ∃ h : i < C.length, C[i]'h = xo from ⟨_, hxo⟩); have HCL := Lib.hid hCl
        clear hx hxl hC hCj hCl cx hgwr hxo
        go_upto_region 8 with fail
        have HW1 := Lib.hid ((Below.refl wr.heap.size wr).alloc (Nat.le_refl _) (.cells #[.string x.role, (.int .i64 x.target)] 82))
        have HBX := Lib.hid (Blk.new wr 82 #[.string x.role, (.int .i64 x.target)])
        have f0 := HBX.out.cell 0; have f1 := HBX.out.cell 1
        simp at f0 f1
        go_wp2_with fail
        refine (loose1_any _ t _ g _ (HGX.out.alloc _)).mono ?_
        rintro _ u ⟨rfl, hb1⟩
        have HBU := Lib.hid (HW1.out.trans (hb1.mono (by simp)))
        have HBXU := Lib.hid (HBX.out.below hb1 (by simp))
        clear hb1 d0 d1 e0 e1 f0 f1
        have f0 := HBXU.out.cell 0; have f1 := HBXU.out.cell 1
        simp at f0 f1
        have HOU := Lib.hid (own_keep HO.out fun b' e => HBU.out.block b' (HO.out.lt b' e).2)
        have HGU := Lib.hid (grown_below HGW.out HBU.out)
        have fz0 := own_frozen HOU.out (i * 2)
        have fz1 := own_frozen HOU.out (i * 2 + 1)
        have hbu : b < u.heap.size := (HOU.out.lt b rfl).2
        have e0 := own_cell HOU.out (i * 2) (by omega)
        have e1 := own_cell HOU.out (i * 2 + 1) (by omega)
        rw [show i * 2 = i * 2 + 0 from rfl, flat_at refCells_len C i 0 (by rw [HCL.out]; omega) (by omega), HXO.out.choose_spec] at e0
        rw [flat_at refCells_len C i 1 (by rw [HCL.out]; omega) (by omega), HXO.out.choose_spec] at e1
        simp [refCells] at e0 e1
        cases he : eqT x.role t
        · have HK : Hid (DelInv ARef.role l t (C.set i x) (i + 1) (j + 1)) := Lib.hid (by
            obtain ⟨h, e⟩ := HXL.out
            have := HD.out.keep h (by rw [e]; exact he)
            rwa [e] at this)
          have HOS : Hid (((u.setCell ⟨b, i * 2, none⟩ (.string x.role)).setCell ⟨b, i * 2 + 1, none⟩ (.int .i64 x.target)).ownsRow base 82 2 (.slice (some ⟨b, 0, none⟩) n cap) n ((C.set i x).flatMap refCells)) := Lib.hid (by
            have s1 := own_set HOU.out (i := i * 2) (by omega) (.string x.role)
            have s2 := own_set s1 (i := i * 2 + 1) (by omega) (.int .i64 x.target)
            have hiC : i < C.length := by rw [HCL.out]; omega
            have a1 := flat_set refCells_len C i 0 hiC (by omega) (.string x.role) (⟨x.role, xo.target⟩ : ARef) (by rw [HXO.out.choose_spec]; rfl)
            have a2 := flat_set refCells_len (C.set i (⟨x.role, xo.target⟩ : ARef)) i 1 (by simpa using hiC) (by omega) (.int .i64 x.target) x (by rw [List.getElem_set_self]; rfl)
            rw [List.set_set, a1] at a2
            rw [a2]
            exact s2)
          have HGS := Lib.hid (grown_set (grown_set HGU.out (i * 2) (.string x.role)) (i * 2 + 1) (.int .i64 x.target))
          clear he
          go_wp2
          go_roundg (n - (j + 1))
          case measure => omega
          case rel => exact ⟨i + 1, j + 1, _, by go_num, by go_num, rfl, by omega, by omega, HOS, HGS, HK⟩
        · have HK : Hid (DelInv ARef.role l t C i (j + 1)) := Lib.hid (by
            obtain ⟨h, e⟩ := HXL.out
            exact HD.out.skip h (by rw [e]; exact he))
          clear he
          go_wp2
          go_roundg (n - (j + 1))
          case measure => omega
          case rel => exact ⟨i, j + 1, _, rfl, by go_num, rfl, by omega, by omega, HOU, HGU, HK⟩
      · have hjn' : j = n := by omega
        subst hjn'
        have hlt' : ¬ (j : Int) < j := by omega
        have i0 : (0 : Int) ≤ i := by omega
        have i1 : (i : Int) ≤ j := by omega
        obtain ⟨_, ⟨e0, _⟩ | ⟨g', cap', cur, e0, hbg, hh, hnc', hcm', hsz, ht⟩⟩ := HO.out
        · cases e0
        injection e0 with e1 _ e2
        injection e1 with e1
        injection e1 with e1
        subst e1; subst e2
        obtain ⟨zi, hz1, hz2, hz3, hz4⟩ := info_parts ref_info
        have hcl : ∀ ty, (Builtin.clear_ #[36] ty #[.slice (some ⟨b, i * 2, none⟩) (j - i) (cap - i)]).run Try.prog wr = .ok (.tuple #[]) (wr.setRow b (lay cur (i * 2) (Builtin.zeroCells ((.agg #[.string ⟨#[]⟩, .int .i64 0]) : Value).cells (j - i)).toList)) := fun ty =>
          run_clear_rowK wr _ _ ty (.agg #[.string ⟨#[]⟩, .int .i64 0]) b (i * 2) (j - i) (cap - i) cur _ (by omega) Try.underlying36 (fun w => by simp [zeroValue, typeInfo, hz1, hz2]) hh (by rw [hsz]; show i * 2 + (j - i) * 2 ≤ cap * 2; have : (j - i) * 2 = j * 2 - i * 2 := Nat.sub_mul ..; have : j * 2 ≤ cap * 2 := Nat.mul_le_mul_right _ hnc'; omega) (zero_one (by intro v hv; simp [Value.cells] at hv; rcases hv with rfl | rfl <;> rfl))
        have hzl : (Builtin.zeroCells ((.agg #[.string ⟨#[]⟩, .int .i64 0]) : Value).cells (j - i)).toList.length = (j - i) * 2 := by rw [Array.length_toList, size_zeroCells]; rfl
        have hfit : i * 2 + (j - i) * 2 ≤ cur.size := by rw [hsz]; have : (j - i) * 2 = j * 2 - i * 2 := Nat.sub_mul ..; have : j * 2 ≤ cap * 2 := Nat.mul_le_mul_right _ hnc'; omega
        have HX := Lib.hid (Blk.row hh (lay cur (i * 2) (Builtin.zeroCells ((.agg #[.string ⟨#[]⟩, .int .i64 0]) : Value).cells (j - i)).toList))
        have HXS : Hid ((lay cur (i * 2) (Builtin.zeroCells ((.agg #[.string ⟨#[]⟩, .int .i64 0]) : Value).cells (j - i)).toList).size = cap * 2) := Lib.hid (by rw [lay_size (by rw [hzl]; exact hfit), hsz])
        have HXG := Lib.hid (grown_setRow HGW.out (lay cur (i * 2) (Builtin.zeroCells ((.agg #[.string ⟨#[]⟩, .int .i64 0]) : Value).cells (j - i)).toList))
        have HXT : Hid ((lay cur (i * 2) (Builtin.zeroCells ((.agg #[.string ⟨#[]⟩, .int .i64 0]) : Value).cells (j - i)).toList).toList.take (i * 2) = (keepN ARef.role l t).flatMap refCells) := Lib.hid (by
          have hD := HD.out
          rw [← HN.out] at hD
          rw [lay_low (by omega), ← hD.done, ← flat_take refCells_len, ← ht, List.take_take, Nat.min_eq_left (Nat.mul_le_mul_right _ (by omega))])
        have HKL : Hid ((keepN ARef.role l t).length = i) := Lib.hid (by
          have hD := HD.out
          rw [← HN.out] at hD
          exact hD.len_i)
        obtain ⟨zr, hzr⟩ : ∃ zr, lay cur (i * 2) (Builtin.zeroCells ((.agg #[.string ⟨#[]⟩, .int .i64 0]) : Value).cells (j - i)).toList = zr := ⟨_, rfl⟩
        rw [hzr] at HX HXS HXG HXT
        simp only [hzr] at hcl
        clear hzr hzl hfit ht hsz hh hz1 hz2 hz3 hz4
        go_wp2
        go_ret
        refine ⟨_, rfl, ⟨by rw [flat_length refCells_len], .inr ⟨b, cap, zr, by rw [HKL.out]; rfl, hbg, HX.out, by rw [HKL.out]; omega, hcm', HXS.out, by rw [HKL.out]; exact HXT.out⟩⟩, HXG.out, rfl⟩
end Go.Proofs.Ytmafhaadcjgcbaa
