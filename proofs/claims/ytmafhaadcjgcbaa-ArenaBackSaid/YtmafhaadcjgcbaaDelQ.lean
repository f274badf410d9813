import Derived.Test.YtmafhaadcjgcbaaSetP
import Derived.Test.YtmafhaadcjgcbaaALentI
set_option linter.unusedSimpArgs false
set_option linter.unusedVariables false
/- slices.DeleteFunc by a closure that says yes or no of each element: rows of numbers, rows of nodes -/
namespace Go.Proofs.Ytmafhaadcjgcbaa
open Go Go.RowKit

/-- what is left -/
def keepQ {α : Type} (p : α → Bool) (l : List α) : List α := l.filter (fun x => !p x)
def FstQ {α : Type} (p : α → Bool) (l : List α) (n : Int) : Prop :=
  (n = -1 ∧ ∀ j (h : j < l.length), p l[j] = false) ∨ ∃ (k : Nat) (h : k < l.length), n = k ∧ p l[k] = true ∧ ∀ j (h : j < l.length), j < k → p l[j] = false
theorem keepQ_all {α : Type} {p : α → Bool} {l : List α} (h : ∀ j (h : j < l.length), p l[j] = false) : keepQ p l = l :=
  List.filter_eq_self.2 fun x hx => by
    obtain ⟨i, hi, rfl⟩ := List.getElem_of_mem hx
    rw [h i hi]; rfl
structure DelQ {α : Type} (p : α → Bool) (l : List α) (C : List α) (i j : Nat) : Prop where
  len : C.length = l.length
  lt : i < j
  le : j ≤ l.length
  low : C.take i = keepQ p (l.take j)
  high : C.drop j = l.drop j
  mem : ∀ x ∈ C, x ∈ l
section
variable {α : Type} {p : α → Bool} {l C : List α} {i j : Nat}
theorem DelQ.start {k : Nat} (hk : k < l.length) (hy : p l[k] = true) (hn : ∀ j (h : j < l.length), j < k → p l[j] = false) : DelQ p l l k (k + 1) := by
  refine ⟨rfl, by omega, hk, ?_, rfl, fun x h => h⟩
  unfold keepQ
  rw [filter_take hk, hy]
  simp only [Bool.not_true, Bool.false_eq_true, if_false, List.append_nil]
  refine (List.filter_eq_self.2 fun x hx => ?_).symm
  obtain ⟨q, hq, rfl⟩ := List.getElem_of_mem hx
  rw [List.getElem_take, hn q (by rw [List.length_take] at hq; omega) (by rw [List.length_take] at hq; omega)]; rfl
theorem DelQ.at_ (h : DelQ p l C i j) (hj : j < l.length) : ∃ h : j < C.length, C[j]'h = l[j] := by
  have e := congrArg (fun x => x[0]?) h.high
  simp only [List.getElem?_drop, Nat.add_zero] at e
  have hC : j < C.length := by rw [h.len]; exact hj
  rw [List.getElem?_eq_getElem hC, List.getElem?_eq_getElem hj] at e
  exact ⟨hC, by injection e⟩
theorem DelQ.skip (h : DelQ p l C i j) (hj : j < l.length) (hy : p l[j] = true) : DelQ p l C i (j + 1) := by
  refine ⟨h.len, by have := h.lt; omega, hj, ?_, ?_, h.mem⟩
  · unfold keepQ
    rw [filter_take hj, hy, h.low]
    simp [keepQ]
  · have := congrArg (List.drop 1) h.high
    simpa [List.drop_drop] using this
theorem DelQ.keep (h : DelQ p l C i j) (hj : j < l.length) (hy : p l[j] = false) : DelQ p l (C.set i l[j]) (i + 1) (j + 1) := by
  have hl := h.len; have hlt := h.lt
  refine ⟨by simpa using hl, by omega, hj, ?_, ?_, fun x hx => ?_⟩
  · have hi : i < C.length := by omega
    rw [List.take_succ_eq_append_getElem (by simpa using hi), List.take_set_of_le (Nat.le_refl _), h.low, List.getElem_set_self]
    unfold keepQ
    rw [filter_take hj, hy]
    simp
  · have := congrArg (List.drop 1) h.high
    rw [List.drop_set_of_lt (by omega)]
    simpa [List.drop_drop] using this
  · rcases List.mem_or_eq_of_mem_set hx with hx | rfl
    · exact h.mem x hx
    · exact List.getElem_mem hj
theorem DelQ.done (h : DelQ p l C i l.length) : C.take i = keepQ p l := by have := h.low; rwa [List.take_length] at this
theorem DelQ.len_i (h : DelQ p l C i l.length) : (keepQ p l).length = i := by rw [← h.done, List.length_take]; have := h.len; have := h.lt; omega
end
/-- a node's lists are slices -/
def ShapeL (x : LN) : Prop := ∃ Ap np cp Ak nk ck Ar nr cr, x.p = .slice Ap np cp ∧ x.k = .slice Ak nk ck ∧ x.r = .slice Ar nr cr
theorem OwnL.shape {w : World} {base : Nat} {x : LN} (h : OwnL w base x) : ShapeL x := by
  obtain ⟨A1, c1, e1⟩ := own_shape h.p
  obtain ⟨A2, c2, e2⟩ := own_shape h.k
  obtain ⟨A3, c3, e3⟩ := own_shape h.r
  exact ⟨_, _, _, _, _, _, _, _, _, e1, e2, e3⟩

theorem flat_set7 (C : List LN) (i : Nat) (hi : i < C.length) (x : LN) : (((((((C.flatMap LN.cells).set (i * 7) (.int .i64 x.n.id)).set (i * 7 + 1) (.string x.n.concept)).set (i * 7 + 2) (.int .i64 x.n.parent)).set (i * 7 + 3) (.string x.n.role)).set (i * 7 + 4) x.p).set (i * 7 + 5) x.k).set (i * 7 + 6) x.r = (C.set i x).flatMap LN.cells := by
  have e : C.set i x = C.take i ++ x :: C.drop (i + 1) := (set_split hi x).1
  have e2 : C = C.take i ++ C[i] :: C.drop (i + 1) := (set_split hi x).2
  have hl : ((C.take i).flatMap LN.cells).length = i * 7 := by rw [flat_length LN.cells_len, List.length_take, Nat.min_eq_left (by omega)]
  rw [e]
  conv => lhs; rw [e2]
  rw [List.flatMap_append, List.flatMap_append, List.flatMap_cons, List.flatMap_cons]
  have st : ∀ (a b : List Value) (r : Nat) (u : Value), a.length = i * 7 → (a ++ b).set (i * 7 + r) u = a ++ b.set r u := fun a b r u ha => by
    rw [List.set_append_right _ _ (by omega), ha]; congr 1; congr 1; omega
  have st0 : ∀ (a b : List Value) (u : Value), a.length = i * 7 → (a ++ b).set (i * 7) u = a ++ b.set 0 u := fun a b u ha => st a b 0 u ha
  rw [st0 _ _ _ hl, st _ _ 1 _ hl, st _ _ 2 _ hl, st _ _ 3 _ hl, st _ _ 4 _ hl, st _ _ 5 _ hl, st _ _ 6 _ hl]
  rfl
set_option maxRecDepth 100000 in
set_option maxHeartbeats 2000000 in
theorem idxIntQ_any (S : Option Addr) (c : Nat) (l : List Int) (p : Int → Bool) (g : Nat) (w : World) (F : Nat → Prop) (row : Option Nat) (hF : ∀ b, F b → b < w.heap.size) (h : RowOf 1 (EFlat intCells) w F S l) (hcl : ∀ x ∈ l, ∀ w' : World, w.grownBy w' row → Calls Try.prog 128 #[.int .i64 x, .pointer (some ⟨g, 0, none⟩)] w' fun e w2 => e = .returned (.bool (p x)) ∧ Below w'.heap.size w' w2) (hl : l.length ≤ 1125899906842624) :
    Calls Try.prog 139 #[.slice S l.length c, .func (.func 128) #[] #[.pointer (some ⟨g, 0, none⟩)]] w fun e w' => ∃ n : Int, e = .returned (.int .i64 n) ∧ FstQ p l n ∧ Below w.heap.size w w' := by
  have HCL := Lib.hid hcl; have HH := Lib.hid h
  clear hcl h
  go_enter Try.func139, Try.ntmps139
  go_wp2_with fail
  go_loopg [5, 8] l.length (fun n s5 s8 wx => ∃ i : Nat, s8 = .int .i64 i ∧ n = l.length - i ∧ i ≤ l.length ∧ (∀ j (h : j < l.length), j < i → p l[j] = false) ∧ Below w.heap.size w wx)
  case atStart => exact ⟨0, rfl, rfl, Nat.zero_le _, fun j _ h => absurd h (Nat.not_lt_zero _), Below.refl _ _⟩
  case round =>
    obtain ⟨i, rfl, rfl, hil, hno, hb⟩ := hrel
    have HB := Lib.hid hb; have HNO := Lib.hid hno
    by_cases hlt : i < l.length
    · have hlt' : (i : Int) < l.length := by omega
      have i0 : (0 : Int) ≤ i := by omega
      obtain ⟨b, off, rfl, hbF⟩ := HH.out.1 (fun e => by rw [e] at hlt; exact absurd hlt (Nat.not_lt_zero _))
      obtain ⟨x, hx⟩ : ∃ x, l[i] = x := ⟨_, rfl⟩
      have HXM : Hid (x ∈ l) := Lib.hid (by rw [← hx]; exact List.getElem_mem hlt)
      have HX := Lib.hid (show ∃ h : i < l.length, l[i]'h = x from ⟨hlt, hx⟩)
      have cx : ∀ r, r < 1 → wr.cell? ⟨b, off + i * 1 + r, none⟩ = (intCells x)[r]? := fun r hr => by
        obtain ⟨cs, hcs, he, hcc⟩ := HH.out.2 i hlt
        have he : cs = intCells l[i] := he
        rw [← hx, ← he, ← hcc b off rfl r hr]
        exact hb.cell (p := ⟨b, off + i * 1 + r, none⟩) (hF b hbF)
      have d0 := cx 0 (by omega)
      simp [intCells] at d0
      have HONE : Hid (∀ w' : World, w.grownBy w' row → Calls Try.prog 128 #[.int .i64 x, .pointer (some ⟨g, 0, none⟩)] w' fun e w2 => e = .returned (.bool (p x)) ∧ Below w'.heap.size w' w2) := Lib.hid (fun w' hw => by
        have h := HCL.out x HXM.out w' hw
        exact h)
      clear hb hno cx hx
      go_upto_region 4 with fail
      go_wp2_with fail
      refine (HONE.out _ (grown_below (w := w) (row := row) ⟨rfl, rfl, rfl, Nat.le_refl _, fun _ _ _ => rfl⟩ HB.out)).mono ?_
      rintro _ w1 ⟨rfl, hb1⟩
      have HB1 := Lib.hid (HB.out.trans (hb1.mono HB.out.size))
      clear hb1 d0
      cases he : p x
      · have HN := Lib.hid he
        clear he
        go_wp2
        go_roundg (l.length - (i + 1))
        case measure => omega
        case rel => exact ⟨i + 1, by go_num, rfl, by omega, fun j hj hji => by
          rcases Nat.lt_succ_iff_lt_or_eq.1 hji with h1 | h1
          · exact HNO.out j hj h1
          · subst h1; obtain ⟨_, e⟩ := HX.out; rw [e]; exact HN.out, HB1.out⟩
      · have HY := Lib.hid (show FstQ p l i from .inr ⟨i, hlt, rfl, by obtain ⟨_, e⟩ := HX.out; rw [e]; exact he, HNO.out⟩)
        clear he
        go_wp2
        go_ret
        exact ⟨_, rfl, HY.out, HB1.out⟩
    · have hlt' : ¬ (i : Int) < l.length := by omega
      have HN := Lib.hid (show FstQ p l (-1) from .inl ⟨rfl, fun j hj => HNO.out j hj (by omega)⟩)
      clear hno hb
      go_wp2
      go_ret
      exact ⟨_, rfl, HN.out, HB.out⟩
set_option maxRecDepth 100000 in
set_option maxHeartbeats 8000000 in
theorem delIntQ_any (v : Value) (l : List Int) (p : Int → Bool) (g : Nat) (w : World) (base : Nat) (hown : w.ownsRow base 3 1 v l.length (l.flatMap intCells)) (hcl : ∀ x ∈ l, ∀ w' : World, w.grownBy w' v.ownBlock → Calls Try.prog 128 #[.int .i64 x, .pointer (some ⟨g, 0, none⟩)] w' fun e w2 => e = .returned (.bool (p x)) ∧ Below w'.heap.size w' w2) (hlen : l.length ≤ 1125899906842624) :
    Calls Try.prog 127 #[v, .func (.func 128) #[] #[.pointer (some ⟨g, 0, none⟩)]] w fun e w' => ∃ v', e = .returned v' ∧ w'.ownsRow base 3 1 v' (keepQ p l).length ((keepQ p l).flatMap intCells) ∧ w.grownBy w' v.ownBlock ∧ v'.ownBlock = v.ownBlock := by
  obtain ⟨A, cap, rfl⟩ := own_shape hown
  have HI := Lib.hid (idxIntQ_any A cap l p g w (fun b => b < w.heap.size) (Value.slice A l.length cap).ownBlock (fun b h => h) (by
    obtain ⟨A', c', e, _, _, h3⟩ := IsRow.of_own (F := fun b => b < w.heap.size) intCells_len hown (own_at hown (fun b _ h => h))
    injection e with e1; subst e1; exact h3) hcl hlen)
  have HOWN := Lib.hid hown; have HCL := Lib.hid hcl
  clear hown hcl
  go_enter Try.func127, Try.ntmps127
  go_wp2_with fail
  refine HI.out.mono ?_
  rintro _ w1 ⟨n, rfl, hn, hb⟩
  have HB := Lib.hid hb
  clear HI hb
  rcases hn with ⟨rfl, hall⟩ | ⟨k, hk, rfl, hy, hno⟩
  · have HK := Lib.hid (keepQ_all hall)
    have HEND := Lib.hid (own_keep HOWN.out fun b e => HB.out.block b (HOWN.out.lt b e).2)
    have HGR := Lib.hid (grown_below (w := w) (row := (Value.slice A l.length cap).ownBlock) ⟨rfl, rfl, rfl, Nat.le_refl _, fun _ _ _ => rfl⟩ HB.out)
    clear hall
    go_wp2
    go_ret
    refine ⟨_, rfl, ?_, HGR.out, rfl⟩
    rw [HK.out]; exact HEND.out
  · have HST := Lib.hid (DelQ.start hk hy hno)
    obtain ⟨b, c, e0, hnc, hcm, hbb, hbw⟩ := own_some HOWN.out (by omega)
    injection e0 with e1 _ e2
    subst e1; subst e2
    have HEND := Lib.hid (own_keep HOWN.out fun b e => HB.out.block b (HOWN.out.lt b e).2)
    have HGR := Lib.hid (grown_below (w := w) (row := some b) ⟨rfl, rfl, rfl, Nat.le_refl _, fun _ _ _ => rfl⟩ HB.out)
    have hk1 : ((k : Int) == -1) = false := beq_eq_false_iff_ne.2 (by omega)
    obtain ⟨n, hn⟩ : ∃ n, l.length = n := ⟨_, rfl⟩
    have HN := Lib.hid hn
    rw [hn] at HOWN HEND hnc hlen hk ⊢
    have HCL : Hid (∀ x ∈ l, ∀ w' : World, w.grownBy w' (some b) → Calls Try.prog 128 #[.int .i64 x, .pointer (some ⟨g, 0, none⟩)] w' fun e w2 => e = .returned (.bool (p x)) ∧ Below w'.heap.size w' w2) := Lib.hid HCL.out
    clear hy hno hn
    unfold maxLen at hcm
    go_wp2_with fail
    go_loopg [5, 6, 7] (n - (k + 1)) (fun gg s5 s6 _ wx => ∃ (i j : Nat) (C : List Int), s5 = .int .i64 i ∧ s6 = .int .i64 j ∧ gg = n - j ∧ i < j ∧ j ≤ n ∧ Hid (wx.ownsRow base 3 1 (.slice (some ⟨b, 0, none⟩) n cap) n (C.flatMap intCells)) ∧ Hid (w.grownBy wx (some b)) ∧ Hid (DelQ p l C i j))
    case atStart => exact ⟨k, k + 1, l, rfl, by go_num, rfl, by omega, by omega, HEND, HGR, HST⟩
    case round =>
      obtain ⟨i, j, C, rfl, rfl, rfl, hij, hjn, HO, HGW, HD⟩ := hrel
      clear HEND HGR HST HB HOWN
      by_cases hlt : j < n
      · have hlt' : (j : Int) < n := by omega
        have j0 : (0 : Int) ≤ j := by omega
        have i0 : (0 : Int) ≤ i := by omega
        have i1 : (i : Int) < n := by omega
        have hi2 : i < n := by omega
        obtain ⟨x, hx⟩ : ∃ x, l[j]? = some x := ⟨_, List.getElem?_eq_getElem (by rw [HN.out]; exact hlt)⟩
        have hxl : l[j]'(by rw [HN.out]; exact hlt) = x := by rw [List.getElem?_eq_getElem (by rw [HN.out]; exact hlt)] at hx; injection hx
        have HXL := Lib.hid (show ∃ h : j < l.length, l[j]'h = x from ⟨_, hxl⟩)
        have HXM : Hid (x ∈ l) := Lib.hid (by rw [← hxl]; exact List.getElem_mem _)
        obtain ⟨hC, hCj⟩ := HD.out.at_ (by rw [HN.out]; exact hlt)
        have hCl : C.length = n := by rw [HD.out.len, HN.out]
        have cx : ∀ (q r : Nat) (hq : q < C.length), r < 1 → wr.cell? ⟨b, q * 1 + r, none⟩ = (intCells C[q])[r]? := fun q r hq hr => by
          rw [own_cell HO.out _ (by rw [hCl] at hq; omega), flat_at intCells_len C q r hq hr]
        have d0 := cx j 0 hC (by omega)
        rw [hCj, hxl] at d0
        obtain ⟨xo, hxo⟩ : ∃ xo, C[i]'(by omega) = xo := ⟨_, rfl⟩
        have HXOM : Hid (xo ∈ l) := Lib.hid (HD.out.mem _ (by rw [← hxo]; exact List.getElem_mem _))
        have e0 := cx i 0 (by omega) (by omega)
        rw [hxo] at e0
        simp [intCells] at d0 e0
        have HONE : Hid (∀ w' : World, w.grownBy w' (some b) → Calls Try.prog 128 #[.int .i64 x, .pointer (some ⟨g, 0, none⟩)] w' fun e w2 => e = .returned (.bool (p x)) ∧ Below w'.heap.size w' w2) := Lib.hid (fun w' hw => by
          have h := HCL.out x HXM.out w' hw
          exact h)
        have hbwr : b < wr.heap.size := (HO.out.lt b rfl).2
        have HXO := Lib.hid (show ∃ h : i < C.length, C[i]'h = xo from ⟨_, hxo⟩); have HCLn := Lib.hid hCl
        clear hx hxl hC hCj hCl cx hxo
        go_upto_region 8 with fail
        go_wp2_with fail
        refine (HONE.out _ HGW.out).mono ?_
        rintro _ u ⟨rfl, hb1⟩
        have HBU := Lib.hid hb1
        clear hb1 d0 e0
        have HOU := Lib.hid (own_keep HO.out fun b' e => HBU.out.block b' (HO.out.lt b' e).2)
        have HGU := Lib.hid (grown_below HGW.out HBU.out)
        have fz0 := own_frozen HOU.out (i)
        have hbu : b < u.heap.size := (HOU.out.lt b rfl).2
        have e0 := own_cell HOU.out (i * 1 + 0) (by omega)
        rw [flat_at intCells_len C i 0 (by rw [HCLn.out]; omega) (by omega), HXO.out.choose_spec] at e0
        simp [intCells] at e0
        cases he : p x
        · have HK : Hid (DelQ p l (C.set i x) (i + 1) (j + 1)) := Lib.hid (by
            obtain ⟨h, e⟩ := HXL.out
            have := HD.out.keep h (by rw [e]; exact he)
            rwa [e] at this)
          have HOS : Hid ((u.setCell ⟨b, i, none⟩ (.int .i64 x)).ownsRow base 3 1 (.slice (some ⟨b, 0, none⟩) n cap) n ((C.set i x).flatMap intCells)) := Lib.hid (by
            have hiC : i < C.length := by rw [HCLn.out]; omega
            have s0 := HOU.out
            have s1 := own_set s0 (i := i) (by omega) (.int .i64 x)
            have a1 := flat_set intCells_len C i 0 hiC (by omega) (.int .i64 x) x rfl
            rw [Nat.mul_one, Nat.add_zero] at a1
            rw [a1]
            exact s1)
          have HGS := Lib.hid (grown_set HGU.out (i) (.int .i64 x))
          clear he
          go_wp2
          go_roundg (n - (j + 1))
          case measure => omega
          case rel => exact ⟨i + 1, j + 1, _, by go_num, by go_num, rfl, by omega, by omega, HOS, HGS, HK⟩
        · have HK : Hid (DelQ p l C i (j + 1)) := Lib.hid (by
            obtain ⟨h, e⟩ := HXL.out
            exact HD.out.skip h (by rw [e]; exact he))
          clear he
          go_wp2
          go_roundg (n - (j + 1))
          case measure => omega
          case rel => exact ⟨i, j + 1, _, rfl, by go_num, rfl, by omega, by omega, HOU, HGU, HK⟩
      · have hjn' : j = n := by omega
        subst hjn'
        have hlt' : ¬ (j : Int) < j := by omega
        have i0 : (0 : Int) ≤ i := by omega
        have i1 : (i : Int) ≤ j := by omega
        obtain ⟨_, ⟨e0, _⟩ | ⟨g', cap', cur, e0, hbg, hh, hnc', hcm', hsz, ht⟩⟩ := HO.out
        · cases e0
        injection e0 with e1 _ e2
        injection e1 with e1
        injection e1 with e1
        subst e1; subst e2
        obtain ⟨zi, hz1, hz2, hz3, hz4⟩ := info_parts int_info
        have hfit0 : i + (j - i) * 1 ≤ cap * 1 := by have : (j - i) * 1 = j * 1 - i * 1 := Nat.sub_mul ..; have : j * 1 ≤ cap * 1 := Nat.mul_le_mul_right _ hnc'; omega
        have hcl : ∀ ty, (Builtin.clear_ #[35] ty #[.slice (some ⟨b, i, none⟩) (j - i) (cap - i)]).run Try.prog wr = .ok (.tuple #[]) (wr.setRow b (lay cur (i) (Builtin.zeroCells ((.int .i64 0) : Value).cells (j - i)).toList)) := fun ty =>
          run_clear_rowK wr _ _ ty (.int .i64 0) b (i) (j - i) (cap - i) cur _ (by omega) Try.underlying35 (fun w => by simp [zeroValue, typeInfo, hz1, hz2]) hh (by rw [hsz]; exact hfit0) (zero_one (by intro v hv; simp [Value.cells] at hv; subst hv; rfl))
        have hzl : (Builtin.zeroCells ((.int .i64 0) : Value).cells (j - i)).toList.length = (j - i) * 1 := by rw [Array.length_toList, size_zeroCells]; rfl
        have hfit : i + (j - i) * 1 ≤ cur.size := by rw [hsz]; exact hfit0
        have HX := Lib.hid (Blk.row hh (lay cur (i) (Builtin.zeroCells ((.int .i64 0) : Value).cells (j - i)).toList))
        have HXS : Hid ((lay cur (i) (Builtin.zeroCells ((.int .i64 0) : Value).cells (j - i)).toList).size = cap * 1) := Lib.hid (by rw [lay_size (by rw [hzl]; exact hfit), hsz])
        have HXG := Lib.hid (grown_setRow HGW.out (lay cur (i) (Builtin.zeroCells ((.int .i64 0) : Value).cells (j - i)).toList))
        have HXT : Hid ((lay cur (i) (Builtin.zeroCells ((.int .i64 0) : Value).cells (j - i)).toList).toList.take (i * 1) = (keepQ p l).flatMap intCells) := Lib.hid (by
          have hD := HD.out
          rw [← HN.out] at hD
          have e1 := flat_take intCells_len C i
          rw [Nat.mul_one] at e1 ⊢
          rw [lay_low (by omega), ← hD.done, ← e1, ← ht, List.take_take, Nat.min_eq_left (by omega)])
        have HKL : Hid ((keepQ p l).length = i) := Lib.hid (by
          have hD := HD.out
          rw [← HN.out] at hD
          exact hD.len_i)
        obtain ⟨zr, hzr⟩ : ∃ zr, lay cur (i) (Builtin.zeroCells ((.int .i64 0) : Value).cells (j - i)).toList = zr := ⟨_, rfl⟩
        rw [hzr] at HX HXS HXG HXT
        simp only [hzr] at hcl
        clear hzr hzl hfit hfit0 ht hsz hh hz1 hz2 hz3 hz4
        go_wp2
        go_ret
        refine ⟨_, rfl, ⟨by rw [flat_length intCells_len], .inr ⟨b, cap, zr, by rw [HKL.out]; rfl, hbg, HX.out, by rw [HKL.out]; omega, hcm', HXS.out, by rw [HKL.out]; exact HXT.out⟩⟩, HXG.out, rfl⟩
set_option maxRecDepth 100000 in
set_option maxHeartbeats 2000000 in
theorem idxNodeQ_any (S : Option Addr) (c : Nat) (l : List LN) (p : LN → Bool) (g : Nat) (w : World) (F : Nat → Prop) (row : Option Nat) (hF : ∀ b, F b → b < w.heap.size) (h : RowOf 7 (EFlat LN.cells) w F S l) (hsh : ∀ x ∈ l, ShapeL x) (hcl : ∀ x ∈ l, ∀ w' : World, w.grownBy w' row → Calls Try.prog 107 #[.agg x.cells.toArray, .pointer (some ⟨g, 0, none⟩)] w' fun e w2 => e = .returned (.bool (p x)) ∧ Below w'.heap.size w' w2) (hl : l.length ≤ 1125899906842624) :
    Calls Try.prog 131 #[.slice S l.length c, .func (.func 107) #[] #[.pointer (some ⟨g, 0, none⟩)]] w fun e w' => ∃ n : Int, e = .returned (.int .i64 n) ∧ FstQ p l n ∧ Below w.heap.size w w' := by
  have HCL := Lib.hid hcl; have HH := Lib.hid h
  have HSH := Lib.hid hsh
  clear hcl h
  go_enter Try.func131, Try.ntmps131
  go_wp2_with fail
  go_loopg [5, 8] l.length (fun n s5 s8 wx => ∃ i : Nat, s8 = .int .i64 i ∧ n = l.length - i ∧ i ≤ l.length ∧ (∀ j (h : j < l.length), j < i → p l[j] = false) ∧ Below w.heap.size w wx)
  case atStart => exact ⟨0, rfl, rfl, Nat.zero_le _, fun j _ h => absurd h (Nat.not_lt_zero _), Below.refl _ _⟩
  case round =>
    obtain ⟨i, rfl, rfl, hil, hno, hb⟩ := hrel
    have HB := Lib.hid hb; have HNO := Lib.hid hno
    by_cases hlt : i < l.length
    · have hlt' : (i : Int) < l.length := by omega
      have i0 : (0 : Int) ≤ i := by omega
      obtain ⟨b, off, rfl, hbF⟩ := HH.out.1 (fun e => by rw [e] at hlt; exact absurd hlt (Nat.not_lt_zero _))
      obtain ⟨x, hx⟩ : ∃ x, l[i] = x := ⟨_, rfl⟩
      have HXM : Hid (x ∈ l) := Lib.hid (by rw [← hx]; exact List.getElem_mem hlt)
      have HX := Lib.hid (show ∃ h : i < l.length, l[i]'h = x from ⟨hlt, hx⟩)
      have cx : ∀ r, r < 7 → wr.cell? ⟨b, off + i * 7 + r, none⟩ = (LN.cells x)[r]? := fun r hr => by
        obtain ⟨cs, hcs, he, hcc⟩ := HH.out.2 i hlt
        have he : cs = LN.cells l[i] := he
        rw [← hx, ← he, ← hcc b off rfl r hr]
        exact hb.cell (p := ⟨b, off + i * 7 + r, none⟩) (hF b hbF)
      have d0 := cx 0 (by omega)
      have d1 := cx 1 (by omega)
      have d2 := cx 2 (by omega)
      have d3 := cx 3 (by omega)
      have d4 := cx 4 (by omega)
      have d5 := cx 5 (by omega)
      have d6 := cx 6 (by omega)
      simp [LN.cells, nodeCellsA] at d0 d1 d2 d3 d4 d5 d6
      obtain ⟨Ap, np, cp, Ak, nk, ck, Ar, nr, cr, e1, e2, e3⟩ := HSH.out x HXM.out
      rw [e1] at d4; rw [e2] at d5; rw [e3] at d6
      have HONE : Hid (∀ w' : World, w.grownBy w' row → Calls Try.prog 107 #[.agg #[.int .i64 x.n.id, .string x.n.concept, .int .i64 x.n.parent, .string x.n.role, .slice Ap np cp, .slice Ak nk ck, .slice Ar nr cr], .pointer (some ⟨g, 0, none⟩)] w' fun e w2 => e = .returned (.bool (p x)) ∧ Below w'.heap.size w' w2) := Lib.hid (fun w' hw => by
        have h := HCL.out x HXM.out w' hw
        unfold LN.cells nodeCellsA at h
        rw [e1, e2, e3] at h
        exact h)
      clear hb hno cx hx e1 e2 e3
      go_upto_region 4 with fail
      go_wp2_with fail
      refine (HONE.out _ (grown_below (w := w) (row := row) ⟨rfl, rfl, rfl, Nat.le_refl _, fun _ _ _ => rfl⟩ HB.out)).mono ?_
      rintro _ w1 ⟨rfl, hb1⟩
      have HB1 := Lib.hid (HB.out.trans (hb1.mono HB.out.size))
      clear hb1 d0 d1 d2 d3 d4 d5 d6
      cases he : p x
      · have HN := Lib.hid he
        clear he
        go_wp2
        go_roundg (l.length - (i + 1))
        case measure => omega
        case rel => exact ⟨i + 1, by go_num, rfl, by omega, fun j hj hji => by
          rcases Nat.lt_succ_iff_lt_or_eq.1 hji with h1 | h1
          · exact HNO.out j hj h1
          · subst h1; obtain ⟨_, e⟩ := HX.out; rw [e]; exact HN.out, HB1.out⟩
      · have HY := Lib.hid (show FstQ p l i from .inr ⟨i, hlt, rfl, by obtain ⟨_, e⟩ := HX.out; rw [e]; exact he, HNO.out⟩)
        clear he
        go_wp2
        go_ret
        exact ⟨_, rfl, HY.out, HB1.out⟩
    · have hlt' : ¬ (i : Int) < l.length := by omega
      have HN := Lib.hid (show FstQ p l (-1) from .inl ⟨rfl, fun j hj => HNO.out j hj (by omega)⟩)
      clear hno hb
      go_wp2
      go_ret
      exact ⟨_, rfl, HN.out, HB.out⟩
set_option maxRecDepth 100000 in
set_option maxHeartbeats 8000000 in
theorem delNodeQ_any (v : Value) (l : List LN) (p : LN → Bool) (g : Nat) (w : World) (base : Nat) (hown : w.ownsRow base 38 7 v l.length (l.flatMap LN.cells)) (hsh : ∀ x ∈ l, ShapeL x) (hcl : ∀ x ∈ l, ∀ w' : World, w.grownBy w' v.ownBlock → Calls Try.prog 107 #[.agg x.cells.toArray, .pointer (some ⟨g, 0, none⟩)] w' fun e w2 => e = .returned (.bool (p x)) ∧ Below w'.heap.size w' w2) (hlen : l.length ≤ 1125899906842624) :
    Calls Try.prog 106 #[v, .func (.func 107) #[] #[.pointer (some ⟨g, 0, none⟩)]] w fun e w' => ∃ v', e = .returned v' ∧ w'.ownsRow base 38 7 v' (keepQ p l).length ((keepQ p l).flatMap LN.cells) ∧ w.grownBy w' v.ownBlock ∧ v'.ownBlock = v.ownBlock := by
  obtain ⟨A, cap, rfl⟩ := own_shape hown
  have HI := Lib.hid (idxNodeQ_any A cap l p g w (fun b => b < w.heap.size) (Value.slice A l.length cap).ownBlock (fun b h => h) (by
    obtain ⟨A', c', e, _, _, h3⟩ := IsRow.of_own (F := fun b => b < w.heap.size) LN.cells_len hown (own_at hown (fun b _ h => h))
    injection e with e1; subst e1; exact h3) hsh hcl hlen)
  have HOWN := Lib.hid hown; have HCL := Lib.hid hcl
  have HSH := Lib.hid hsh
  clear hown hcl
  go_enter Try.func106, Try.ntmps106
  go_wp2_with fail
  refine HI.out.mono ?_
  rintro _ w1 ⟨n, rfl, hn, hb⟩
  have HB := Lib.hid hb
  clear HI hb
  rcases hn with ⟨rfl, hall⟩ | ⟨k, hk, rfl, hy, hno⟩
  · have HK := Lib.hid (keepQ_all hall)
    have HEND := Lib.hid (own_keep HOWN.out fun b e => HB.out.block b (HOWN.out.lt b e).2)
    have HGR := Lib.hid (grown_below (w := w) (row := (Value.slice A l.length cap).ownBlock) ⟨rfl, rfl, rfl, Nat.le_refl _, fun _ _ _ => rfl⟩ HB.out)
    clear hall
    go_wp2
    go_ret
    refine ⟨_, rfl, ?_, HGR.out, rfl⟩
    rw [HK.out]; exact HEND.out
  · have HST := Lib.hid (DelQ.start hk hy hno)
    obtain ⟨b, c, e0, hnc, hcm, hbb, hbw⟩ := own_some HOWN.out (by omega)
    injection e0 with e1 _ e2
    subst e1; subst e2
    have HEND := Lib.hid (own_keep HOWN.out fun b e => HB.out.block b (HOWN.out.lt b e).2)
    have HGR := Lib.hid (grown_below (w := w) (row := some b) ⟨rfl, rfl, rfl, Nat.le_refl _, fun _ _ _ => rfl⟩ HB.out)
    have hk1 : ((k : Int) == -1) = false := beq_eq_false_iff_ne.2 (by omega)
    obtain ⟨n, hn⟩ : ∃ n, l.length = n := ⟨_, rfl⟩
    have HN := Lib.hid hn
    rw [hn] at HOWN HEND hnc hlen hk ⊢
    have HCL : Hid (∀ x ∈ l, ∀ w' : World, w.grownBy w' (some b) → Calls Try.prog 107 #[.agg x.cells.toArray, .pointer (some ⟨g, 0, none⟩)] w' fun e w2 => e = .returned (.bool (p x)) ∧ Below w'.heap.size w' w2) := Lib.hid HCL.out
    clear hy hno hn
    unfold maxLen at hcm
    go_wp2_with fail
    go_loopg [5, 6, 7] (n - (k + 1)) (fun gg s5 s6 _ wx => ∃ (i j : Nat) (C : List LN), s5 = .int .i64 i ∧ s6 = .int .i64 j ∧ gg = n - j ∧ i < j ∧ j ≤ n ∧ Hid (wx.ownsRow base 38 7 (.slice (some ⟨b, 0, none⟩) n cap) n (C.flatMap LN.cells)) ∧ Hid (w.grownBy wx (some b)) ∧ Hid (DelQ p l C i j))
    case atStart => exact ⟨k, k + 1, l, rfl, by go_num, rfl, by omega, by omega, HEND, HGR, HST⟩
    case round =>
      obtain ⟨i, j, C, rfl, rfl, rfl, hij, hjn, HO, HGW, HD⟩ := hrel
      clear HEND HGR HST HB HOWN
      by_cases hlt : j < n
      · have hlt' : (j : Int) < n := by omega
        have j0 : (0 : Int) ≤ j := by omega
        have i0 : (0 : Int) ≤ i := by omega
        have i1 : (i : Int) < n := by omega
        have hi2 : i < n := by omega
        obtain ⟨x, hx⟩ : ∃ x, l[j]? = some x := ⟨_, List.getElem?_eq_getElem (by rw [HN.out]; exact hlt)⟩
        have hxl : l[j]'(by rw [HN.out]; exact hlt) = x := by rw [List.getElem?_eq_getElem (by rw [HN.out]; exact hlt)] at hx; injection hx
        have HXL := Lib.hid (show ∃ h : j < l.length, l[j]'h = x from ⟨_, hxl⟩)
        have HXM : Hid (x ∈ l) := Lib.hid (by rw [← hxl]; exact List.getElem_mem _)
        obtain ⟨hC, hCj⟩ := HD.out.at_ (by rw [HN.out]; exact hlt)
        have hCl : C.length = n := by rw [HD.out.len, HN.out]
        have cx : ∀ (q r : Nat) (hq : q < C.length), r < 7 → wr.cell? ⟨b, q * 7 + r, none⟩ = (LN.cells C[q])[r]? := fun q r hq hr => by
          rw [own_cell HO.out _ (by rw [hCl] at hq; omega), flat_at LN.cells_len C q r hq hr]
        have d0 := cx j 0 hC (by omega)
        have d1 := cx j 1 hC (by omega)
        have d2 := cx j 2 hC (by omega)
        have d3 := cx j 3 hC (by omega)
        have d4 := cx j 4 hC (by omega)
        have d5 := cx j 5 hC (by omega)
        have d6 := cx j 6 hC (by omega)
        rw [hCj, hxl] at d0 d1 d2 d3 d4 d5 d6
        obtain ⟨xo, hxo⟩ : ∃ xo, C[i]'(by omega) = xo := ⟨_, rfl⟩
        have HXOM : Hid (xo ∈ l) := Lib.hid (HD.out.mem _ (by rw [← hxo]; exact List.getElem_mem _))
        have e0 := cx i 0 (by omega) (by omega)
        have e1 := cx i 1 (by omega) (by omega)
        have e2 := cx i 2 (by omega) (by omega)
        have e3 := cx i 3 (by omega) (by omega)
        have e4 := cx i 4 (by omega) (by omega)
        have e5 := cx i 5 (by omega) (by omega)
        have e6 := cx i 6 (by omega) (by omega)
        rw [hxo] at e0 e1 e2 e3 e4 e5 e6
        simp [LN.cells, nodeCellsA] at d0 e0 d1 e1 d2 e2 d3 e3 d4 e4 d5 e5 d6 e6
        obtain ⟨Ap, np, cp, Ak, nk, ck, Ar, nr, cr, s1, s2, s3⟩ := HSH.out x HXM.out
        obtain ⟨Bp, mp, qp, Bk, mk, qk, Br, mr, qr, z1, z2, z3⟩ := HSH.out xo HXOM.out
        rw [s1] at d4; rw [s2] at d5; rw [s3] at d6
        rw [z1] at e4; rw [z2] at e5; rw [z3] at e6
        have HS := Lib.hid (And.intro s1 (And.intro s2 s3)); have HZS := Lib.hid (And.intro z1 (And.intro z2 z3))
        clear s1 s2 s3 z1 z2 z3
        have HONE : Hid (∀ w' : World, w.grownBy w' (some b) → Calls Try.prog 107 #[.agg #[.int .i64 x.n.id, .string x.n.concept, .int .i64 x.n.parent, .string x.n.role, .slice Ap np cp, .slice Ak nk ck, .slice Ar nr cr], .pointer (some ⟨g, 0, none⟩)] w' fun e w2 => e = .returned (.bool (p x)) ∧ Below w'.heap.size w' w2) := Lib.hid (fun w' hw => by
          have h := HCL.out x HXM.out w' hw
          unfold LN.cells nodeCellsA at h
          rw [HS.out.1, HS.out.2.1, HS.out.2.2] at h
          exact h)
        have hbwr : b < wr.heap.size := (HO.out.lt b rfl).2
        have HXO := Lib.hid (show ∃ h : i < C.length, C[i]'h = xo from ⟨_, hxo⟩); have HCLn := Lib.hid hCl
        clear hx hxl hC hCj hCl cx hxo
        go_upto_region 8 with fail
        have HW1 := Lib.hid ((Below.refl wr.heap.size wr).alloc (Nat.le_refl _) (.cells #[.int .i64 x.n.id, .string x.n.concept, .int .i64 x.n.parent, .string x.n.role, .slice Ap np cp, .slice Ak nk ck, .slice Ar nr cr] 38))
        have HBX := Lib.hid (Blk.new wr 38 #[.int .i64 x.n.id, .string x.n.concept, .int .i64 x.n.parent, .string x.n.role, .slice Ap np cp, .slice Ak nk ck, .slice Ar nr cr])
        have f0 := HBX.out.cell 0
        have f1 := HBX.out.cell 1
        have f2 := HBX.out.cell 2
        have f3 := HBX.out.cell 3
        have f4 := HBX.out.cell 4
        have f5 := HBX.out.cell 5
        have f6 := HBX.out.cell 6
        simp at f0 f1 f2 f3 f4 f5 f6
        have hbxl := HBX.out.lt
        go_wp2_with fail
        refine (HONE.out _ (grown_below HGW.out HW1.out)).mono ?_
        rintro _ u ⟨rfl, hb1⟩
        have HBU := Lib.hid (HW1.out.trans (hb1.mono (by simp)))
        have HBXU := Lib.hid (HBX.out.below hb1 (by simp))
        clear hb1 d0 e0 d1 e1 d2 e2 d3 e3 d4 e4 d5 e5 d6 e6 f0 f1 f2 f3 f4 f5 f6 hbxl
        have f0 := HBXU.out.cell 0
        have f1 := HBXU.out.cell 1
        have f2 := HBXU.out.cell 2
        have f3 := HBXU.out.cell 3
        have f4 := HBXU.out.cell 4
        have f5 := HBXU.out.cell 5
        have f6 := HBXU.out.cell 6
        simp at f0 f1 f2 f3 f4 f5 f6
        have hbxl := HBXU.out.lt
        have HOU := Lib.hid (own_keep HO.out fun b' e => HBU.out.block b' (HO.out.lt b' e).2)
        have HGU := Lib.hid (grown_below HGW.out HBU.out)
        have fz0 := own_frozen HOU.out (i * 7)
        have fz1 := own_frozen HOU.out (i * 7 + 1)
        have fz2 := own_frozen HOU.out (i * 7 + 2)
        have fz3 := own_frozen HOU.out (i * 7 + 3)
        have fz4 := own_frozen HOU.out (i * 7 + 4)
        have fz5 := own_frozen HOU.out (i * 7 + 5)
        have fz6 := own_frozen HOU.out (i * 7 + 6)
        have hbu : b < u.heap.size := (HOU.out.lt b rfl).2
        have e0 := own_cell HOU.out (i * 7 + 0) (by omega)
        rw [flat_at LN.cells_len C i 0 (by rw [HCLn.out]; omega) (by omega), HXO.out.choose_spec] at e0
        have e1 := own_cell HOU.out (i * 7 + 1) (by omega)
        rw [flat_at LN.cells_len C i 1 (by rw [HCLn.out]; omega) (by omega), HXO.out.choose_spec] at e1
        have e2 := own_cell HOU.out (i * 7 + 2) (by omega)
        rw [flat_at LN.cells_len C i 2 (by rw [HCLn.out]; omega) (by omega), HXO.out.choose_spec] at e2
        have e3 := own_cell HOU.out (i * 7 + 3) (by omega)
        rw [flat_at LN.cells_len C i 3 (by rw [HCLn.out]; omega) (by omega), HXO.out.choose_spec] at e3
        have e4 := own_cell HOU.out (i * 7 + 4) (by omega)
        rw [flat_at LN.cells_len C i 4 (by rw [HCLn.out]; omega) (by omega), HXO.out.choose_spec] at e4
        have e5 := own_cell HOU.out (i * 7 + 5) (by omega)
        rw [flat_at LN.cells_len C i 5 (by rw [HCLn.out]; omega) (by omega), HXO.out.choose_spec] at e5
        have e6 := own_cell HOU.out (i * 7 + 6) (by omega)
        rw [flat_at LN.cells_len C i 6 (by rw [HCLn.out]; omega) (by omega), HXO.out.choose_spec] at e6
        simp [LN.cells, nodeCellsA] at e0 e1 e2 e3 e4 e5 e6
        rw [HZS.out.1] at e4; rw [HZS.out.2.1] at e5; rw [HZS.out.2.2] at e6
        cases he : p x
        · have HK : Hid (DelQ p l (C.set i x) (i + 1) (j + 1)) := Lib.hid (by
            obtain ⟨h, e⟩ := HXL.out
            have := HD.out.keep h (by rw [e]; exact he)
            rwa [e] at this)
          have HOS : Hid ((((((((u.setCell ⟨b, i * 7, none⟩ (.int .i64 x.n.id)).setCell ⟨b, i * 7 + 1, none⟩ (.string x.n.concept)).setCell ⟨b, i * 7 + 2, none⟩ (.int .i64 x.n.parent)).setCell ⟨b, i * 7 + 3, none⟩ (.string x.n.role)).setCell ⟨b, i * 7 + 4, none⟩ (.slice Ap np cp)).setCell ⟨b, i * 7 + 5, none⟩ (.slice Ak nk ck)).setCell ⟨b, i * 7 + 6, none⟩ (.slice Ar nr cr)).ownsRow base 38 7 (.slice (some ⟨b, 0, none⟩) n cap) n ((C.set i x).flatMap LN.cells)) := Lib.hid (by
            have hiC : i < C.length := by rw [HCLn.out]; omega
            have s0 := HOU.out
            have s1 := own_set s0 (i := i * 7) (by omega) (.int .i64 x.n.id)
            have s2 := own_set s1 (i := i * 7 + 1) (by omega) (.string x.n.concept)
            have s3 := own_set s2 (i := i * 7 + 2) (by omega) (.int .i64 x.n.parent)
            have s4 := own_set s3 (i := i * 7 + 3) (by omega) (.string x.n.role)
            have s5 := own_set s4 (i := i * 7 + 4) (by omega) (.slice Ap np cp)
            have s6 := own_set s5 (i := i * 7 + 5) (by omega) (.slice Ak nk ck)
            have s7 := own_set s6 (i := i * 7 + 6) (by omega) (.slice Ar nr cr)
            have key := flat_set7 C i hiC x
            rw [HS.out.1, HS.out.2.1, HS.out.2.2] at key
            rw [← key]
            exact s7)
          have HGS := Lib.hid (grown_set (grown_set (grown_set (grown_set (grown_set (grown_set (grown_set HGU.out (i * 7) (.int .i64 x.n.id)) (i * 7 + 1) (.string x.n.concept)) (i * 7 + 2) (.int .i64 x.n.parent)) (i * 7 + 3) (.string x.n.role)) (i * 7 + 4) (.slice Ap np cp)) (i * 7 + 5) (.slice Ak nk ck)) (i * 7 + 6) (.slice Ar nr cr))
          clear he
          go_wp2
          go_roundg (n - (j + 1))
          case measure => omega
          case rel => exact ⟨i + 1, j + 1, _, by go_num, by go_num, rfl, by omega, by omega, HOS, HGS, HK⟩
        · have HK : Hid (DelQ p l C i (j + 1)) := Lib.hid (by
            obtain ⟨h, e⟩ := HXL.out
            exact HD.out.skip h (by rw [e]; exact he))
          clear he
          go_wp2
          go_roundg (n - (j + 1))
          case measure => omega
          case rel => exact ⟨i, j + 1, _, rfl, by go_num, rfl, by omega, by omega, HOU, HGU, HK⟩
      · have hjn' : j = n := by omega
        subst hjn'
        have hlt' : ¬ (j : Int) < j := by omega
        have i0 : (0 : Int) ≤ i := by omega
        have i1 : (i : Int) ≤ j := by omega
        obtain ⟨_, ⟨e0, _⟩ | ⟨g', cap', cur, e0, hbg, hh, hnc', hcm', hsz, ht⟩⟩ := HO.out
        · cases e0
        injection e0 with e1 _ e2
        injection e1 with e1
        injection e1 with e1
        subst e1; subst e2
        obtain ⟨zi, hz1, hz2, hz3, hz4⟩ := info_parts node_info
        have hfit0 : i * 7 + (j - i) * 7 ≤ cap * 7 := by have : (j - i) * 7 = j * 7 - i * 7 := Nat.sub_mul ..; have : j * 7 ≤ cap * 7 := Nat.mul_le_mul_right _ hnc'; omega
        have hcl : ∀ ty, (Builtin.clear_ #[22] ty #[.slice (some ⟨b, i * 7, none⟩) (j - i) (cap - i)]).run Try.prog wr = .ok (.tuple #[]) (wr.setRow b (lay cur (i * 7) (Builtin.zeroCells ((.agg #[.int .i64 0, .string ⟨#[]⟩, .int .i64 0, .string ⟨#[]⟩, .slice none 0 0, .slice none 0 0, .slice none 0 0]) : Value).cells (j - i)).toList)) := fun ty =>
          run_clear_rowK wr _ _ ty (.agg #[.int .i64 0, .string ⟨#[]⟩, .int .i64 0, .string ⟨#[]⟩, .slice none 0 0, .slice none 0 0, .slice none 0 0]) b (i * 7) (j - i) (cap - i) cur _ (by omega) Try.underlying22 (fun w => by simp [zeroValue, typeInfo, hz1, hz2]) hh (by rw [hsz]; exact hfit0) (zero_one (by intro v hv; simp [Value.cells] at hv; rcases hv with rfl | rfl | rfl | rfl | rfl | rfl | rfl <;> rfl))
        have hzl : (Builtin.zeroCells ((.agg #[.int .i64 0, .string ⟨#[]⟩, .int .i64 0, .string ⟨#[]⟩, .slice none 0 0, .slice none 0 0, .slice none 0 0]) : Value).cells (j - i)).toList.length = (j - i) * 7 := by rw [Array.length_toList, size_zeroCells]; rfl
        have hfit : i * 7 + (j - i) * 7 ≤ cur.size := by rw [hsz]; exact hfit0
        have HX := Lib.hid (Blk.row hh (lay cur (i * 7) (Builtin.zeroCells ((.agg #[.int .i64 0, .string ⟨#[]⟩, .int .i64 0, .string ⟨#[]⟩, .slice none 0 0, .slice none 0 0, .slice none 0 0]) : Value).cells (j - i)).toList))
        have HXS : Hid ((lay cur (i * 7) (Builtin.zeroCells ((.agg #[.int .i64 0, .string ⟨#[]⟩, .int .i64 0, .string ⟨#[]⟩, .slice none 0 0, .slice none 0 0, .slice none 0 0]) : Value).cells (j - i)).toList).size = cap * 7) := Lib.hid (by rw [lay_size (by rw [hzl]; exact hfit), hsz])
        have HXG := Lib.hid (grown_setRow HGW.out (lay cur (i * 7) (Builtin.zeroCells ((.agg #[.int .i64 0, .string ⟨#[]⟩, .int .i64 0, .string ⟨#[]⟩, .slice none 0 0, .slice none 0 0, .slice none 0 0]) : Value).cells (j - i)).toList))
        have HXT : Hid ((lay cur (i * 7) (Builtin.zeroCells ((.agg #[.int .i64 0, .string ⟨#[]⟩, .int .i64 0, .string ⟨#[]⟩, .slice none 0 0, .slice none 0 0, .slice none 0 0]) : Value).cells (j - i)).toList).toList.take (i * 7) = (keepQ p l).flatMap LN.cells) := Lib.hid (by
          have hD := HD.out
          rw [← HN.out] at hD
          rw [lay_low (by omega), ← hD.done, ← flat_take LN.cells_len, ← ht, List.take_take, Nat.min_eq_left (Nat.mul_le_mul_right _ (by omega))])
        have HKL : Hid ((keepQ p l).length = i) := Lib.hid (by
          have hD := HD.out
          rw [← HN.out] at hD
          exact hD.len_i)
        obtain ⟨zr, hzr⟩ : ∃ zr, lay cur (i * 7) (Builtin.zeroCells ((.agg #[.int .i64 0, .string ⟨#[]⟩, .int .i64 0, .string ⟨#[]⟩, .slice none 0 0, .slice none 0 0, .slice none 0 0]) : Value).cells (j - i)).toList = zr := ⟨_, rfl⟩
        rw [hzr] at HX HXS HXG HXT
        simp only [hzr] at hcl
        clear hzr hzl hfit hfit0 ht hsz hh hz1 hz2 hz3 hz4
        go_wp2
        go_ret
        refine ⟨_, rfl, ⟨by rw [flat_length LN.cells_len], .inr ⟨b, cap, zr, by rw [HKL.out]; rfl, hbg, HX.out, by rw [HKL.out]; omega, hcm', HXS.out, by rw [HKL.out]; exact HXT.out⟩⟩, HXG.out, rfl⟩
end Go.Proofs.Ytmafhaadcjgcbaa
