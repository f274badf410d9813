import Derived.Test.YtpjkifbicfcajaaASameOwn
import Derived.Test.YtpjkifbicfcajaaHSort
import Derived.Test.YtpjkifbicfcajaaPastP
import Derived.Test.YtpjkifbicfcajaaHNew
import Derived.Test.YtpjkifbicfcajaaRowM
set_option linter.unusedSimpArgs false
set_option linter.unusedVariables false
section
/- two nodes are the same, but for their numbers -/
namespace Go.Proofs.Ytpjkifbicfcajaa
open Go Go.RowKit

set_option maxRecDepth 100000 in
set_option maxHeartbeats 2000000 in
theorem hnsame_any (a b : ANode) (Sp Sk Sr Sp' Sk' Sr' : Option Addr) (cp ck cr cp' ck' cr' : Nat) (w : World) (F F' : Nat → Prop) (hF : ∀ b, F b → b < w.heap.size) (hF' : ∀ b, F' b → b < w.heap.size)
    (hp : RowOf 2 EProp w F Sp a.props) (hk : RowOf 1 EInt w F Sk a.kids) (hr : RowOf 2 ERef w F Sr a.refs) (hp' : RowOf 2 EProp w F' Sp' b.props) (hk' : RowOf 1 EInt w F' Sk' b.kids) (hr' : RowOf 2 ERef w F' Sr' b.refs)
    (lp : a.props.length ≤ 9223372036854775807) (lk : a.kids.length ≤ 9223372036854775807) (lr : a.refs.length ≤ 9223372036854775807) (hid : a.id = b.id) :
    Calls Try.prog 44 #[.agg #[.int .i64 a.id, .string a.concept, .int .i64 a.parent, .string a.role, .slice Sp a.props.length cp, .slice Sk a.kids.length ck, .slice Sr a.refs.length cr], .agg #[.int .i64 b.id, .string b.concept, .int .i64 b.parent, .string b.role, .slice Sp' b.props.length cp', .slice Sk' b.kids.length ck', .slice Sr' b.refs.length cr']] w fun e w' => e = .returned (.bool (eqB a b)) ∧ Below w.heap.size w w' := by
  have hb0 : Below w.heap.size w ((w.alloc (.cells #[.int .i64 a.id, .string a.concept, .int .i64 a.parent, .string a.role, .slice Sp a.props.length cp, .slice Sk a.kids.length ck, .slice Sr a.refs.length cr] 79)).alloc (.cells #[.int .i64 b.id, .string b.concept, .int .i64 b.parent, .string b.role, .slice Sp' b.props.length cp', .slice Sk' b.kids.length ck', .slice Sr' b.refs.length cr'] 79)) := ((Below.refl _ _).alloc (Nat.le_refl _) _).alloc (by simp) _
  have HB0 := Lib.hid hb0
  have HP := Lib.hid (fun (w0 : World) (hb : Below w.heap.size w w0) => eqProps_any Sp Sp' cp cp' a.props b.props w0 F F' (hp.keep EProp.stays (Keep.below hb hF) (fun _ h => h)) (hp'.keep EProp.stays (Keep.below hb hF') (fun _ h => h)) lp)
  have HK := Lib.hid (fun (w0 : World) (hb : Below w.heap.size w w0) => eqInts_any Sk Sk' ck ck' a.kids b.kids w0 F F' (hk.keep EInt.stays (Keep.below hb hF) (fun _ h => h)) (hk'.keep EInt.stays (Keep.below hb hF') (fun _ h => h)) lk)
  have HR := Lib.hid (fun (w0 : World) (hb : Below w.heap.size w w0) => eqRefs_any Sr Sr' cr cr' a.refs b.refs w0 F F' (hr.keep ERef.stays (Keep.below hb hF) (fun _ h => h)) (hr'.keep ERef.stays (Keep.below hb hF') (fun _ h => h)) lr)
  clear hb0 hp hk hr hp' hk' hr' lp lk lr
  go_enter Try.func44, Try.ntmps44
  have H1 := Lib.hid hid
  clear hid
  · cases h2 : (a.concept.toList == b.concept.toList)
    · have E := Lib.hid (eqB_no (x := a) (y := b) (fun e => by subst e; simp at h2))
      go_wp2
      go_ret
      exact ⟨by rw [E.out]; rfl, HB0.out⟩
    · cases h3 : (a.parent == b.parent)
      · have E := Lib.hid (eqB_no (x := a) (y := b) (fun e => by subst e; simp at h3))
        go_wp2
        go_ret
        exact ⟨by rw [E.out]; rfl, HB0.out⟩
      · cases h4 : (a.role.toList == b.role.toList)
        · have E := Lib.hid (eqB_no (x := a) (y := b) (fun e => by subst e; simp at h4))
          go_wp2
          go_ret
          exact ⟨by rw [E.out]; rfl, HB0.out⟩
        · cases h5 : eqB a.props b.props
          · have HC := Lib.hid (fun w0 hb => eq_is h5 (HP.out w0 hb))
            have E := Lib.hid (eqB_no (x := a) (y := b) (fun e => by have := (eqB_is h5).1 (by rw [e]); cases this))
            clear h5
            go_wp2_with fail
            refine (HC.out _ (by exact HB0.out)).mono ?_
            rintro _ _ ⟨rfl, n, rfl⟩
            go_wp2
            go_ret
            exact ⟨by rw [E.out]; rfl, below_drewN HB0.out _⟩
          · have HC := Lib.hid (fun w0 hb => eq_is h5 (HP.out w0 hb))
            have HE5 := Lib.hid ((eqB_is h5).2 rfl)
            clear h5
            go_wp2_with fail
            refine (HC.out _ (by exact HB0.out)).mono ?_
            rintro _ _ ⟨rfl, n, rfl⟩
            cases h6 : eqB a.kids b.kids
            · have HC := Lib.hid (fun w0 hb => eq_is h6 (HK.out w0 hb))
              have E := Lib.hid (eqB_no (x := a) (y := b) (fun e => by have := (eqB_is h6).1 (by rw [e]); cases this))
              clear h6
              go_wp2_with fail
              refine (HC.out _ (by exact (below_drewN HB0.out _))).mono ?_
              rintro _ _ ⟨rfl, n, rfl⟩
              go_wp2
              go_ret
              exact ⟨by rw [E.out]; rfl, below_drewN HB0.out _⟩
            · have HC := Lib.hid (fun w0 hb => eq_is h6 (HK.out w0 hb))
              have HE6 := Lib.hid ((eqB_is h6).2 rfl)
              clear h6
              go_wp2_with fail
              refine (HC.out _ (by exact (below_drewN HB0.out _))).mono ?_
              rintro _ _ ⟨rfl, n, rfl⟩
              cases h7 : eqB a.refs b.refs
              · have HC := Lib.hid (fun w0 hb => eq_is h7 (HR.out w0 hb))
                have E := Lib.hid (eqB_no (x := a) (y := b) (fun e => by have := (eqB_is h7).1 (by rw [e]); cases this))
                clear h7
                go_wp2_with fail
                refine (HC.out _ (by exact (below_drewN HB0.out _))).mono ?_
                rintro _ _ ⟨rfl, n, rfl⟩
                go_wp2
                go_ret
                exact ⟨by rw [E.out]; rfl, below_drewN HB0.out _⟩
              · have HC := Lib.hid (fun w0 hb => eq_is h7 (HR.out w0 hb))
                have HE7 := Lib.hid ((eqB_is h7).2 rfl)
                clear h7
                go_wp2_with fail
                refine (HC.out _ (by exact (below_drewN HB0.out _))).mono ?_
                rintro _ _ ⟨rfl, n, rfl⟩
                have E := Lib.hid (eqB_yes (x := a) (y := b) (node_ext H1.out ((ba_beq h2).2 rfl) (beq_iff_eq.1 h3) ((ba_beq h4).2 rfl) HE5.out HE6.out HE7.out))
                go_wp2
                go_ret
                exact ⟨by rw [E.out]; rfl, below_drewN HB0.out _⟩

end Go.Proofs.Ytpjkifbicfcajaa
end
section
/- history.Touched -/
namespace Go.Proofs.Ytpjkifbicfcajaa
open Go Go.RowKit Go.Maps

/-- a list of nodes with its lists' values, wherever the row is looked at -/
theorem lns_at {w : World} {A : Option Addr} {ls : List LN} (hc : ∀ ad, A = some ad → ∀ j u, (ls.flatMap LN.cells)[j]? = some u → w.cell? (ad.add j) = some u) {b off : Nat} (hA : A = some ⟨b, off, none⟩) (hb : b < w.heap.size) :
    ∀ wx, Below w.heap.size w wx → ∀ i (h : i < ls.length) j, j < 7 → wx.cell? ⟨b, off + i * 7 + j, none⟩ = ls[i].cells[j]? := by
  intro wx hbx i h j hj
  have hl : ls[i].cells.length = 7 := LN.cells_len _
  have hu : ls[i].cells[j]? = some (ls[i].cells[j]'(by omega)) := List.getElem?_eq_getElem _
  have := hc _ hA (i * 7 + j) _ (by rw [flat_at LN.cells_len ls i j h hj]; exact hu)
  rw [add_some, ← Nat.add_assoc] at this
  rw [hu, ← this]
  exact hbx.cell (p := ⟨b, _, none⟩) hb
/-- the error, the numbers -/
noncomputable def touchE (a b : AModel) : Int := if checkI a = 0 ∧ checkI b = 0 then 0 else 29
noncomputable def touchL (a b : AModel) : List Int := if checkI a = 0 ∧ checkI b = 0 then mergeT a.nodes b.nodes else []
theorem check_of_zero {m : AModel} (h : checkI m = 0) : CheckM m := Classical.byContradiction fun e => by rw [checkI_no e] at h; cases h
theorem LN.shapes {w : World} {F : Nat → Prop} {x : LN} (h : x.Reads w F) : ∃ Sp cp Sk ck Sr cr, x.p = .slice Sp x.n.props.length cp ∧ x.k = .slice Sk x.n.kids.length ck ∧ x.r = .slice Sr x.n.refs.length cr := by
  obtain ⟨⟨Sp, cp, ep, _⟩, ⟨Sk, ck, ek, _⟩, ⟨Sr, cr, er, _⟩⟩ := h
  exact ⟨Sp, cp, Sk, ck, Sr, cr, ep, ek, er⟩
theorem take_ids {ls : List LN} (h : Ris (ls.map LN.n)) {i : Nat} (hi : i < ls.length) : ∀ y ∈ ls.take i, y.n.id < ls[i].n.id := by
  intro y hy
  obtain ⟨j, hj, rfl⟩ := List.mem_take_iff_getElem.1 hy
  have := List.pairwise_iff_getElem.1 h j i (by simp; omega) (by simpa using hi) (by omega)
  simpa using this
open Classical in
/-- the numbers of those that are not among some -/
noncomputable def newIds (an : List ANode) (l : List LN) : List Int := (l.filter (fun y => decide (y.n ∉ an))).map (·.n.id)
theorem newIds_in {an : List ANode} {l : List LN} {y : LN} (h : y.n ∈ an) : newIds an (l ++ [y]) = newIds an l := by unfold newIds; simp [h]
theorem newIds_out {an : List ANode} {l : List LN} {y : LN} (h : y.n ∉ an) : newIds an (l ++ [y]) = newIds an l ++ [y.n.id] := by unfold newIds; simp [h]
theorem newIds_len (an : List ANode) (l : List LN) : (newIds an l).length ≤ l.length := by unfold newIds; rw [List.length_map]; exact List.length_filter_le _ _
theorem newIds_mem {an : List ANode} {l : List LN} {n : Int} : n ∈ newIds an l ↔ ∃ y ∈ l.map LN.n, y.id = n ∧ y ∉ an := by
  unfold newIds
  simp only [List.mem_map, List.mem_filter, decide_eq_true_eq]
  constructor
  · rintro ⟨y, ⟨hy, hn⟩, rfl⟩; exact ⟨y.n, ⟨y, hy, rfl⟩, rfl, hn⟩
  · rintro ⟨_, ⟨y, hy, rfl⟩, rfl, hn⟩; exact ⟨y, ⟨hy, hn⟩, rfl⟩
theorem newIds_nodup {an : List ANode} {l : List LN} (h : Ris (l.map LN.n)) : (newIds an l).Nodup := by
  unfold newIds
  have h1 : l.Pairwise (fun x y => x.n.id < y.n.id) := (List.pairwise_map (f := LN.n)).1 h
  exact (List.pairwise_map (f := fun y : LN => y.n.id)).2 ((h1.filter _).imp (fun h e => by omega))
theorem LN.Reads.rows {w : World} {F : Nat → Prop} {n : ANode} {A B C : Option Addr} {i j k ca cb cc : Nat} (h : LN.Reads w F ⟨n, .slice A i ca, .slice B j cb, .slice C k cc⟩) : RowOf 2 EProp w F A n.props ∧ RowOf 1 EInt w F B n.kids ∧ RowOf 2 ERef w F C n.refs := ⟨IsRow.row h.1, IsRow.row h.2.1, IsRow.row h.2.2⟩
theorem invKI : ∀ key kl, keyOf Try.prog 3 key = some kl → ∃ x : Int, key = .int .i64 x := fun key kl h => by
  obtain ⟨x, rfl, _⟩ := Maps.keyOf_int_inv Try.underlying3 h
  exact ⟨x, rfl⟩
theorem invVH : ∀ (v : Value) (y : DataW Value × List MemPlace), heldE v = some y → ∃ c : Value, v = c := fun v _ _ => ⟨v, rfl⟩
theorem rcnt_le {w : World} {b r n cnt : Nat} {D : DataW Value} {left : Lit → Bool} (h : w.ranges Try.prog 3 heldE b r n D left cnt) : cnt ≤ n := by
  obtain ⟨es, clock, since, seen, c0, hb, F, hs, hD, hr, _, hc, _⟩ := h
  have : (leftOf es seen).size ≤ es.size := by unfold leftOf; exact Array.size_filter_le
  omega
theorem coll_end {D : DataW Value} {left : Lit → Bool} {cs : List Int} {ls lb : List LN} (h : Coll D left cs) (hl : ∀ kl, left kl = false) (hm : MapOf D ls (lb.map (·.n.id))) : cs.Nodup ∧ ∀ n, n ∈ cs ↔ (∃ x ∈ ls.map LN.n, x.id = n) ∧ ¬ ∃ y ∈ lb.map LN.n, y.id = n := by
  refine ⟨h.1, fun n => ?_⟩
  rw [h.2, hm.has_]
  simp only [hl, and_true, List.mem_map, not_exists, not_and]
  constructor
  · rintro ⟨⟨x, hx, e⟩, h2⟩
    refine ⟨⟨x.n, ⟨x, hx, rfl⟩, e⟩, fun y hy e2 => ?_⟩
    obtain ⟨z, hz, rfl⟩ := hy
    exact h2 z hz e2
  · rintro ⟨⟨y, ⟨x, hx, rfl⟩, e⟩, h2⟩
    exact ⟨⟨x, hx, e⟩, fun z hz e2 => h2 z.n ⟨z, hz, rfl⟩ e2⟩
def TPost (w w' : World) (a b : AModel) (e : Ending) : Prop := ∃ v, e = .returned (.tuple #[v, .int .i64 (touchE a b)]) ∧ OwnI w' w.heap.size v (touchL a b) ∧ Below w.heap.size w w'
/-- what is asked of the second model alone -/
def ModMid (b : AModel) : Prop := (∀ x ∈ b.nodes, NodeOK x ∧ InR x.id) ∧ b.nodes.length ≤ 1172812402926
theorem ModAll.mid {b : AModel} (h : ModAll b) : ModMid b := ⟨fun x hx => ⟨(h.1 x hx).1, (h.1 x hx).2.2.1⟩, h.2.2⟩
theorem LN.cells_arr (x : LN) : x.cells.toArray = #[.int .i64 x.n.id, .string x.n.concept, .int .i64 x.n.parent, .string x.n.role, x.p, x.k, x.r] := rfl

set_option maxRecDepth 100000 in
set_option maxHeartbeats 8000000 in
theorem htouched_mid (A B : Option Addr) (cA cB : Nat) (a b : AModel) (w : World) (F : Nat → Prop) (hF : ∀ b, F b → b < w.heap.size) (ha : RowOf 7 ENode w F A a.nodes) (hb : RowOf 7 ENode w F B b.nodes) (hza : ModAll a) (hzb : ModMid b) :
    Calls Try.prog 26 #[.agg #[.int .i64 a.next, .slice A a.nodes.length cA], .agg #[.int .i64 b.next, .slice B b.nodes.length cB]] w fun e w' => TPost w w' a b e := by
  have HA := Lib.hid ha; have HBB := Lib.hid hb
  have HCA : Hid (∀ w', Below w.heap.size w w' → Calls Try.prog 30 #[.agg #[.int .i64 a.next, .slice A a.nodes.length cA]] w' fun e w2 => e = .returned (.int .i64 (checkI a)) ∧ Below w'.heap.size w' w2) := Lib.hid (fun w' hx => check_any A cA a w' F (fun b h => Nat.lt_of_lt_of_le (hF b h) hx.size) (ha.keep ENode.stays (Keep.below hx hF) (fun _ h => h)) (fun x h => (hza.1 x h).1) (by have := hza.2.2; omega))
  have HCB : Hid (∀ w', Below w.heap.size w w' → Calls Try.prog 30 #[.agg #[.int .i64 b.next, .slice B b.nodes.length cB]] w' fun e w2 => e = .returned (.int .i64 (checkI b)) ∧ Below w'.heap.size w' w2) := Lib.hid (fun w' hx => check_any B cB b w' F (fun b h => Nat.lt_of_lt_of_le (hF b h) hx.size) (hb.keep ENode.stays (Keep.below hx hF) (fun _ h => h)) (fun x h => (hzb.1 x h).1) (by have := hzb.2; omega))
  obtain ⟨ea, hea⟩ : ∃ x, checkI a = x := ⟨_, rfl⟩
  obtain ⟨eb, heb⟩ : ∃ x, checkI b = x := ⟨_, rfl⟩
  have h2a := checkI_two a; have h2b := checkI_two b
  rw [hea] at HCA h2a
  rw [heb] at HCB h2b
  have HEA := Lib.hid hea; have HEB := Lib.hid heb
  have H2A := Lib.hid h2a; have H2B := Lib.hid h2b
  have HNO : Hid (ea ≠ 0 ∨ eb ≠ 0 → touchE a b = 29 ∧ touchL a b = []) := Lib.hid (fun h => by
    have : ¬ (checkI a = 0 ∧ checkI b = 0) := by rw [hea, heb]; omega
    unfold touchE touchL; rw [if_neg this, if_neg this]; exact ⟨rfl, rfl⟩)
  clear hea heb h2a h2b ha hb
  have hmm := @run_makeMap Try.prog
  go_enter Try.func26, Try.ntmps26
  go_upto_region 1 with fail
  obtain ⟨u0, hu0⟩ : ∃ u : World, (w.alloc (.cells #[.int .i64 a.next, .slice A a.nodes.length cA] 27)).alloc (.cells #[.int .i64 b.next, .slice B b.nodes.length cB] 27) = u := ⟨_, rfl⟩
  have HB0 : Hid (Below w.heap.size w u0) := Lib.hid (by rw [← hu0]; exact ((Below.refl w.heap.size w).alloc (Nat.le_refl _) _).alloc (by simp) _)
  have HX0 : Hid (Blk u0 w.heap.size 27 #[.int .i64 a.next, .slice A a.nodes.length cA]) := Lib.hid (by rw [← hu0]; exact (Blk.new _ _ _).alloc _)
  have HY0 : Hid (Blk u0 (w.heap.size + 1) 27 #[.int .i64 b.next, .slice B b.nodes.length cB]) := Lib.hid (by rw [← hu0]; exact Blk.new' (by simp))
  have x0 := HX0.out.cell 0; have x1 := HX0.out.cell 1; have y0 := HY0.out.cell 0; have y1 := HY0.out.cell 1
  have hxlt := HX0.out.lt; have hylt := HY0.out.lt
  simp at x0 x1 y0 y1
  (try rw [hu0])
  clear hu0
  obtain ⟨s, hs⟩ : ∃ x, u0.heap.size = x := ⟨_, rfl⟩
  have HWE : Hid (∃ z, u0.alloc (.cells #[.int .i64 a.next, .slice A a.nodes.length cA, .int .i64 b.next, .slice B b.nodes.length cB] 27) = z) := Lib.hid ⟨_, rfl⟩
  go_wp2_with fail
  obtain ⟨u1, hu1⟩ := HWE.out
  have HS1 : Hid (Blk u1 s 27 #[.int .i64 a.next, .slice A a.nodes.length cA, .int .i64 b.next, .slice B b.nodes.length cB]) := Lib.hid (by rw [← hu1]; exact Blk.new' hs.symm)
  have hb1 : Below u0.heap.size u0 u1 := by rw [← hu1]; exact (Below.refl _ _).alloc (Nat.le_refl _) _
  have HB1 := Lib.hid (HB0.out.trans (hb1.mono HB0.out.size))
  have HX1 := Lib.hid (HX0.out.below hb1 hxlt); have HY1 := Lib.hid (HY0.out.below hb1 hylt)
  (try rw [hs])
  (try rw [hu1])
  clear HWE hu1 hs hb1 x0 x1 y0 y1 hxlt hylt HB0 HX0 HY0
  go_loopg [7, 8, 22] 2 (fun g s7 s8 s22 wx => ∃ i : Nat, s22 = .int .i64 i ∧ g = 2 - i ∧ i ≤ 2 ∧ (1 ≤ i → ea = 0) ∧ (2 ≤ i → eb = 0) ∧ Below w.heap.size w wx ∧ Blk wx w.heap.size 27 #[.int .i64 a.next, .slice A a.nodes.length cA] ∧ Blk wx (w.heap.size + 1) 27 #[.int .i64 b.next, .slice B b.nodes.length cB] ∧ Blk wx s 27 #[.int .i64 a.next, .slice A a.nodes.length cA, .int .i64 b.next, .slice B b.nodes.length cB])
  case atStart => exact ⟨0, rfl, rfl, by omega, fun h => absurd h (by omega), fun h => absurd h (by omega), HB1.out, HX1.out, HY1.out, HS1.out⟩
  case round =>
    clear HB1 HX1 HY1 HS1
    obtain ⟨i, rfl, rfl, hi2, hia, hib, hb, hx, hy, hsb⟩ := hrel
    have HB := Lib.hid hb; have HX := Lib.hid hx; have HY := Lib.hid hy; have HS := Lib.hid hsb
    have HIA := Lib.hid hia; have HIB := Lib.hid hib
    clear hb hx hy hsb hia hib
    by_cases hi : i = 0
    · subst hi
      have c0 := HS.out.cell 0; have c1 := HS.out.cell 1; have c2 := HS.out.cell 2; have c3 := HS.out.cell 3
      have hslt := HS.out.lt
      simp at c0 c1 c2 c3
      go_wp2_with fail
      clear c0 c1 c2 c3
      refine (HCA.out _ (HB.out.alloc HB.out.size _)).mono ?_
      rintro _ w2 ⟨rfl, hb2⟩
      have hb2' : Below wr.heap.size wr w2 := ((Below.refl _ _).alloc (Nat.le_refl _) _).trans (hb2.mono (by simp))
      have HB2 := Lib.hid (HB.out.trans (hb2'.mono HB.out.size))
      have HX2 := Lib.hid (HX.out.below hb2' HX.out.lt); have HY2 := Lib.hid (HY.out.below hb2' HY.out.lt); have HS2 := Lib.hid (HS.out.below hb2' hslt)
      clear hb2 hb2' hslt
      rcases H2A.out with h0 | h0
      · have HZ := Lib.hid h0
        have hd : (ea != 0) = false := by rw [h0]; rfl
        clear h0
        go_wp2
        go_roundg (2 - (0 + 1))
        case measure => omega
        case rel => exact ⟨0 + 1, by go_num, rfl, by omega, fun _ => HZ.out, fun h => absurd h (by omega), HB2.out, HX2.out, HY2.out, HS2.out⟩
      · have HZ := Lib.hid h0
        have hd : (ea != 0) = true := by rw [h0]; rfl
        clear h0
        go_wp2
        refine bodyPost_ret (v := .tuple #[.slice none 0 0, .int .i64 ea]) (by simp [results, Try.results26, go_sem]) rfl ?_
        obtain ⟨n1, n2⟩ := HNO.out (by have := HZ.out; omega)
        refine ⟨_, by rw [n1, HZ.out], ?_, HB2.out⟩
        rw [n2]
        exact OwnI.nil _ _
    by_cases hi1 : i = 1
    · subst hi1
      have c0 := HS.out.cell 0; have c1 := HS.out.cell 1; have c2 := HS.out.cell 2; have c3 := HS.out.cell 3
      have hslt := HS.out.lt
      simp at c0 c1 c2 c3
      go_wp2_with fail
      clear c0 c1 c2 c3
      refine (HCB.out _ (HB.out.alloc HB.out.size _)).mono ?_
      rintro _ w2 ⟨rfl, hb2⟩
      have hb2' : Below wr.heap.size wr w2 := ((Below.refl _ _).alloc (Nat.le_refl _) _).trans (hb2.mono (by simp))
      have HB2 := Lib.hid (HB.out.trans (hb2'.mono HB.out.size))
      have HX2 := Lib.hid (HX.out.below hb2' HX.out.lt); have HY2 := Lib.hid (HY.out.below hb2' HY.out.lt); have HS2 := Lib.hid (HS.out.below hb2' hslt)
      clear hb2 hb2' hslt
      rcases H2B.out with h0 | h0
      · have HZ := Lib.hid h0
        have hd : (eb != 0) = false := by rw [h0]; rfl
        clear h0
        go_wp2
        go_roundg (2 - (1 + 1))
        case measure => omega
        case rel => exact ⟨1 + 1, by go_num, rfl, by omega, fun _ => HIA.out (by omega), fun h => HZ.out, HB2.out, HX2.out, HY2.out, HS2.out⟩
      · have HZ := Lib.hid h0
        have hd : (eb != 0) = true := by rw [h0]; rfl
        clear h0
        go_wp2
        refine bodyPost_ret (v := .tuple #[.slice none 0 0, .int .i64 eb]) (by simp [results, Try.results26, go_sem]) rfl ?_
        obtain ⟨n1, n2⟩ := HNO.out (by have := HZ.out; omega)
        refine ⟨_, by rw [n1, HZ.out], ?_, HB2.out⟩
        rw [n2]
        exact OwnI.nil _ _
    have hi2 : i = 2 := by omega
    subst hi2
    have HE0 : Hid (ea = 0 ∧ eb = 0) := Lib.hid ⟨HIA.out (by omega), HIB.out (by omega)⟩
    clear HIA HIB hi hi1 HNO HS
    obtain ⟨ls, hls, hrd, hcs⟩ := HA.out.lns
    obtain ⟨lb, hlb, hrb, hcb⟩ := HBB.out.lns
    have hlsn : a.nodes.length = ls.length := by rw [← hls, List.length_map]
    have hlbn : b.nodes.length = lb.length := by rw [← hlb, List.length_map]
    have HRA : Hid (Ris (ls.map LN.n)) := Lib.hid (by rw [hls]; exact ris_of_ids (check_of_zero (HEA.out.trans HE0.out.1)).1)
    have HRB : Hid (Ris (lb.map LN.n)) := Lib.hid (by rw [hlb]; exact ris_of_ids (check_of_zero (HEB.out.trans HE0.out.2)).1)
    have HZA : Hid (∀ x ∈ ls, InR x.n.id) := Lib.hid (fun x hx => (hza.1 x.n (by rw [← hls]; exact List.mem_map_of_mem hx)).2.2.1)
    have HZB : Hid (∀ x ∈ lb, InR x.n.id) := Lib.hid (fun x hx => (hzb.1 x.n (by rw [← hlb]; exact List.mem_map_of_mem hx)).2)
    have HLA : Hid (∀ wx, Below w.heap.size w wx → ∀ i (h : i < ls.length), ∃ bA offA, A = some ⟨bA, offA, none⟩ ∧ ∀ j, j < 7 → wx.cell? ⟨bA, offA + i * 7 + j, none⟩ = ls[i].cells[j]?) := Lib.hid (fun wx hx i h => by
      obtain ⟨bA, offA, hA, hbF⟩ := HA.out.1 (fun e => by rw [e] at hlsn; simp at hlsn; omega)
      exact ⟨bA, offA, hA, fun j hj => lns_at hcs hA (hF _ hbF) wx hx i h j hj⟩)
    have HLB : Hid (∀ wx, Below w.heap.size w wx → ∀ i (h : i < lb.length), ∃ bA offA, B = some ⟨bA, offA, none⟩ ∧ ∀ j, j < 7 → wx.cell? ⟨bA, offA + i * 7 + j, none⟩ = lb[i].cells[j]?) := Lib.hid (fun wx hx i h => by
      obtain ⟨bA, offA, hA, hbF⟩ := HBB.out.1 (fun e => by rw [e] at hlbn; simp at hlbn; omega)
      exact ⟨bA, offA, hA, fun j hj => lns_at hcb hA (hF _ hbF) wx hx i h j hj⟩)
    have HLS := Lib.hid hls; have HLBS := Lib.hid hlb; have HRD := Lib.hid hrd; have HRDB := Lib.hid hrb
    have HNA := Lib.hid hlsn; have HNB := Lib.hid hlbn
    have hna : a.nodes.length ≤ 1172812402926 := hza.2.2
    have hnb : b.nodes.length ≤ 1172812402926 := hzb.2
    clear hls hlb hrd hrb hcs hcb hlsn hlbn
    obtain ⟨wo, hwo⟩ : ∃ x, x = wr := ⟨_, rfl⟩
    subst hwo
    obtain ⟨bm, hbm⟩ : ∃ x, wo.heap.size = x := ⟨_, rfl⟩
    have HWE : Hid (∃ z, wo.alloc (.map #[] 0) = z) := Lib.hid ⟨_, rfl⟩
    go_upto_region 9 with fail
    obtain ⟨u2, hu2⟩ := HWE.out
    have HM2 : Hid (u2.ownsMap Try.prog 3 heldE bm 0 (.map [])) := Lib.hid (by rw [← hu2, ← hbm]; exact World.ownsMap_made _ _ _ _)
    have hb2 : Below wo.heap.size wo u2 := by rw [← hu2]; exact (Below.refl _ _).alloc (Nat.le_refl _) _
    have HB2 := Lib.hid (HB.out.trans (hb2.mono HB.out.size))
    have HX2 := Lib.hid (HX.out.below hb2 HX.out.lt); have HY2 := Lib.hid (HY.out.below hb2 HY.out.lt)
    have HBM : Hid (w.heap.size + 2 ≤ bm) := Lib.hid (by have := HY.out.lt; omega)
    (try rw [hbm])
    (try rw [hu2])
    clear HWE hu2 hbm hb2 HB HX HY hmm
    have x1 := HX2.out.cell 1
    have hxlt := HX2.out.lt
    simp at x1
    go_wp2_with fail
    clear x1 hxlt
    go_loopg [11, 36] a.nodes.length (fun g s11 s36 wx => ∃ (i : Nat) (D : DataW Value), s36 = .int .i64 i ∧ g = a.nodes.length - i ∧ i ≤ a.nodes.length ∧ Below w.heap.size w wx ∧ Blk wx (w.heap.size + 1) 27 #[.int .i64 b.next, .slice B b.nodes.length cB] ∧ wx.ownsMap Try.prog 3 heldE bm i D ∧ MapOf D (ls.take i) [])
    case atStart => exact ⟨0, _, rfl, rfl, Nat.zero_le _, HB2.out, HY2.out, HM2.out, by simpa using MapOf.start⟩
    case round =>
      clear HB2 HX2 HY2 HM2
      obtain ⟨i, D, rfl, rfl, hil, hb, hy, hown, hmo⟩ := hrel
      have HB := Lib.hid hb; have HY := Lib.hid hy; have HMO := Lib.hid hmo
      clear hb hy hmo
      have i0 : (0 : Int) ≤ i := by omega
      by_cases hlt : i < a.nodes.length
      · have hlt' : (i : Int) < a.nodes.length := by omega
        have hls : i < ls.length := by have := HNA.out; omega
        obtain ⟨bA, offA, rfl, hc⟩ := HLA.out wr HB.out i hls
        have hin := HZA.out _ (List.getElem_mem hls)
        have HNE := Lib.hid (take_ids HRA.out hls)
        have HTK : Hid (ls.take (i + 1) = ls.take i ++ [ls[i]]) := Lib.hid (List.take_succ_eq_append_getElem hls)
        obtain ⟨Sp, cp, Sk, ck, Sr, cr, ep, ek, er⟩ := LN.shapes (HRD.out _ (List.getElem_mem hls))
        obtain ⟨x, hx⟩ : ∃ x, ls[i] = x := ⟨_, rfl⟩
        rw [hx] at hc hin HNE HTK ep ek er
        clear hx hls
        obtain ⟨xn, xp, xk, xr⟩ := x
        simp only at ep ek er hin
        subst ep; subst ek; subst er
        have d0 : wr.cell? ⟨bA, offA + i * 7, none⟩ = some (.int .i64 xn.id) := hc 0 (by omega)
        have d1 : wr.cell? ⟨bA, offA + i * 7 + 1, none⟩ = some (.string xn.concept) := hc 1 (by omega)
        have d2 : wr.cell? ⟨bA, offA + i * 7 + 2, none⟩ = some (.int .i64 xn.parent) := hc 2 (by omega)
        have d3 : wr.cell? ⟨bA, offA + i * 7 + 3, none⟩ = some (.string xn.role) := hc 3 (by omega)
        have d4 : wr.cell? ⟨bA, offA + i * 7 + 4, none⟩ = some (.slice Sp xn.props.length cp) := hc 4 (by omega)
        have d5 : wr.cell? ⟨bA, offA + i * 7 + 5, none⟩ = some (.slice Sk xn.kids.length ck) := hc 5 (by omega)
        have d6 : wr.cell? ⟨bA, offA + i * 7 + 6, none⟩ = some (.slice Sr xn.refs.length cr) := hc 6 (by omega)
        clear hc
        have hown2 := hown.alloc (.cells #[.int .i64 xn.id, .string xn.concept, .int .i64 xn.parent, .string xn.role, .slice Sp xn.props.length cp, .slice Sk xn.kids.length ck, .slice Sr xn.refs.length cr] 79)
        go_wp2_with (at_mapUpdate; refine wpList_mapUpdate_own _ rfl _ _ _ 87 rfl 3 79 lawI Try.underlying87 heldE bm i D rfl hown2 (by unfold maxLen; omega) _ _ _ rfl rfl (keyI hin) _ [] rfl ?_)
        intro w3 hown3 hg3
        have HB3 := Lib.hid ((HB.out.alloc HB.out.size (.cells #[.int .i64 xn.id, .string xn.concept, .int .i64 xn.parent, .string xn.role, .slice Sp xn.props.length cp, .slice Sk xn.kids.length ck, .slice Sr xn.refs.length cr] 79)).grown hg3 (by have := HB.out.size; simp; omega) (fun k e => by cases e; have := HBM.out; omega))
        have HY3 := Lib.hid ((HY.out.alloc (.cells #[.int .i64 xn.id, .string xn.concept, .int .i64 xn.parent, .string xn.role, .slice Sp xn.props.length cp, .slice Sk xn.kids.length ck, .slice Sr xn.refs.length cr] 79)).grown hg3 (fun e => by injection e with e; have := HBM.out; omega))
        have HM3 := Lib.hid hown3
        clear hown hown2 hown3 hg3 d0 d1 d2 d3 d4 d5 d6
        go_wp2
        go_roundg (a.nodes.length - (i + 1))
        case measure => omega
        case rel => exact ⟨i + 1, _, by go_num, rfl, by omega, HB3.out, HY3.out, HM3.out, by rw [HTK.out]; exact HMO.out.put ⟨xn, .slice Sp xn.props.length cp, .slice Sk xn.kids.length ck, .slice Sr xn.refs.length cr⟩ (fun y hy e => by have h : y.n.id < xn.id := HNE.out y hy; have e : y.n.id = xn.id := e; omega)⟩
      · have hlt' : ¬ (i : Int) < a.nodes.length := by omega
        have hia : i = a.nodes.length := by omega
        have HMA : Hid (MapOf D ls []) := Lib.hid (by
          have := HMO.out
          rw [List.take_of_length_le (by have := HNA.out; omega)] at this
          exact this)
        have HM := Lib.hid hown
        clear hown HMO
        obtain ⟨wq, hwq⟩ : ∃ x, x = wr := ⟨_, rfl⟩
        subst hwq
        have y1 := HY.out.cell 1
        have hylt := HY.out.lt
        simp at y1
        subst hia
        go_wp2_with fail
        clear y1 hylt
        go_loopg [12, 14, 15, 16, 48] b.nodes.length (fun g s12 s14 s15 s16 s48 wx => ∃ (k : Nat) (D : DataW Value) (v : Value), s48 = .int .i64 k ∧ g = b.nodes.length - k ∧ k ≤ b.nodes.length ∧ Below w.heap.size w wx ∧ wx.ownsMap Try.prog 3 heldE bm a.nodes.length D ∧ MapOf D ls ((lb.take k).map (·.n.id)) ∧ s12 = v ∧ OwnI wx w.heap.size v (newIds a.nodes (lb.take k)))
        case atStart => exact ⟨0, D, _, rfl, rfl, Nat.zero_le _, HB.out, HM.out, by simpa using HMA.out, rfl, by simpa [newIds] using OwnI.nil _ _⟩
        case round =>
          clear HB HY HM HMA hlt hlt' i0 hil
          obtain ⟨k, D, v, rfl, rfl, hkl, hb, hown, hmo, rfl, hob⟩ := hrel
          have HB := Lib.hid hb; have HMO := Lib.hid hmo; have HO := Lib.hid hob
          obtain ⟨Av, cv, rfl⟩ := hob.shape
          have hol : (newIds a.nodes (lb.take k)).length ≤ k := Nat.le_trans (newIds_len _ _) (by rw [List.length_take]; omega)
          clear hb hmo hob
          have k0 : (0 : Int) ≤ k := by omega
          by_cases hlt : k < b.nodes.length
          · have hlt' : (k : Int) < b.nodes.length := by omega
            have hls : k < lb.length := by have := HNB.out; omega
            obtain ⟨bB, offB, rfl, hc⟩ := HLB.out wr HB.out k hls
            have hin := HZB.out _ (List.getElem_mem hls)
            have HNE := Lib.hid (take_ids HRB.out hls)
            have HTK : Hid (lb.take (k + 1) = lb.take k ++ [lb[k]]) := Lib.hid (List.take_succ_eq_append_getElem hls)
            have HYR := Lib.hid (HRDB.out _ (List.getElem_mem hls))
            obtain ⟨Yp, yp, Yk, yk, Yr, yr, ep, ek, er⟩ := LN.shapes HYR.out
            obtain ⟨y, hy⟩ : ∃ y, lb[k] = y := ⟨_, rfl⟩
            rw [hy] at hc hin HNE HTK HYR ep ek er
            clear hy hls
            obtain ⟨yn, yp', yk', yr'⟩ := y
            simp only at ep ek er hin
            subst ep; subst ek; subst er
            have d0 : wr.cell? ⟨bB, offB + k * 7, none⟩ = some (.int .i64 yn.id) := hc 0 (by omega)
            have d1 : wr.cell? ⟨bB, offB + k * 7 + 1, none⟩ = some (.string yn.concept) := hc 1 (by omega)
            have d2 : wr.cell? ⟨bB, offB + k * 7 + 2, none⟩ = some (.int .i64 yn.parent) := hc 2 (by omega)
            have d3 : wr.cell? ⟨bB, offB + k * 7 + 3, none⟩ = some (.string yn.role) := hc 3 (by omega)
            have d4 : wr.cell? ⟨bB, offB + k * 7 + 4, none⟩ = some (.slice Yp yn.props.length yp) := hc 4 (by omega)
            have d5 : wr.cell? ⟨bB, offB + k * 7 + 5, none⟩ = some (.slice Yk yn.kids.length yk) := hc 5 (by omega)
            have d6 : wr.cell? ⟨bB, offB + k * 7 + 6, none⟩ = some (.slice Yr yn.refs.length yr) := hc 6 (by omega)
            clear hc
            have HND : Hid (yn.id ∉ (lb.take k).map (·.n.id)) := Lib.hid (fun h => by
              obtain ⟨z, hz, e⟩ := List.mem_map.1 h
              have h1 : z.n.id < yn.id := HNE.out z hz
              have h2 : z.n.id = yn.id := e
              omega)
            have HMD : Hid (MapOf (D.del (kI yn.id)) ls ((lb.take (k + 1)).map (·.n.id))) := Lib.hid (by rw [HTK.out, List.map_append]; exact HMO.out.del yn.id)
            by_cases hex : ∃ x ∈ ls, x.n.id = yn.id
            · obtain ⟨x, hxm, hxid⟩ := hex
              have HXM : Hid (x.n ∈ a.nodes) := Lib.hid (by rw [← HLS.out]; exact List.mem_map_of_mem hxm)
              have HXR := Lib.hid (HRD.out x hxm)
              have hat := HMO.out.at_ x hxm (by rw [hxid]; exact HND.out) (.held zeroN)
              have hhas : Maps.has D (kI yn.id) = true := (HMO.out.has_ yn.id).2 ⟨⟨x, hxm, hxid⟩, HND.out⟩
              obtain ⟨Sp, cp, Sk, ck, Sr, cr, ep, ek, er⟩ := LN.shapes HXR.out
              obtain ⟨xn, xp, xk, xr⟩ := x
              simp only at ep ek er hxid
              subst ep; subst ek; subst er
              have hat : D.atKey (kI yn.id) (.held zeroN) = .held (.agg #[.int .i64 xn.id, .string xn.concept, .int .i64 xn.parent, .string xn.role, .slice Sp xn.props.length cp, .slice Sk xn.kids.length ck, .slice Sr xn.refs.length cr]) := by rw [← hxid]; exact hat
              have HID := Lib.hid hxid
              clear hxm hxid
              have ow1 := hown.alloc (.cells #[.int .i64 yn.id, .string yn.concept, .int .i64 yn.parent, .string yn.role, .slice Yp yn.props.length yp, .slice Yk yn.kids.length yk, .slice Yr yn.refs.length yr] 79)
              have ow2 := ow1.alloc (.cells #[.int .i64 xn.id, .string xn.concept, .int .i64 xn.parent, .string xn.role, .slice Sp xn.props.length cp, .slice Sk xn.kids.length ck, .slice Sr xn.refs.length cr] 79)
              have hblt : bm < wr.heap.size := hown.lt
              have HNE2 : Hid ((.slice Av (newIds a.nodes (lb.take k)).length cv : Value).ownBlock ≠ some bm) := Lib.hid (own_ne_map HO.out hown)
              go_wp2_with (first | (at_lookup; refine wpList_lookup_held _ rfl _ _ 87 rfl Try.underlying87 bm a.nodes.length D rfl ow1 yn.id rfl hin (.agg #[.int .i64 xn.id, .string xn.concept, .int .i64 xn.parent, .string xn.role, .slice Sp xn.props.length cp, .slice Sk xn.kids.length ck, .slice Sr xn.refs.length cr]) true hat hhas ?_) | (at_delete; refine wpList_delete_own _ rfl _ _ 87 3 rfl 79 lawI Try.underlying87 heldE bm a.nodes.length D rfl ow2 _ (kI yn.id) rfl (keyI hin) ?_; intro w3 hown3 ht3; have by0 : Blk w3 wr.heap.size 79 #[.int .i64 yn.id, .string yn.concept, .int .i64 yn.parent, .string yn.role, .slice Yp yn.props.length yp, .slice Yk yn.kids.length yk, .slice Yr yn.refs.length yr] := ((Blk.new wr 79 #[.int .i64 yn.id, .string yn.concept, .int .i64 yn.parent, .string yn.role, .slice Yp yn.props.length yp, .slice Yk yn.kids.length yk, .slice Yr yn.refs.length yr]).alloc _).grown ht3.grown (fun e => by injection e with e; omega); have bx0 : Blk w3 (wr.heap.size + 1) 79 #[.int .i64 xn.id, .string xn.concept, .int .i64 xn.parent, .string xn.role, .slice Sp xn.props.length cp, .slice Sk xn.kids.length ck, .slice Sr xn.refs.length cr] := (Blk.new' (by simp)).grown ht3.grown (fun e => by injection e with e; omega); have gy0 : w3.cell? ⟨wr.heap.size, 0, none⟩ = some (.int .i64 yn.id) := by0.cell 0; have gy1 : w3.cell? ⟨wr.heap.size, 1, none⟩ = some (.string yn.concept) := by0.cell 1; have gy2 : w3.cell? ⟨wr.heap.size, 2, none⟩ = some (.int .i64 yn.parent) := by0.cell 2; have gy3 : w3.cell? ⟨wr.heap.size, 3, none⟩ = some (.string yn.role) := by0.cell 3; have gy4 : w3.cell? ⟨wr.heap.size, 4, none⟩ = some (.slice Yp yn.props.length yp) := by0.cell 4; have gy5 : w3.cell? ⟨wr.heap.size, 5, none⟩ = some (.slice Yk yn.kids.length yk) := by0.cell 5; have gy6 : w3.cell? ⟨wr.heap.size, 6, none⟩ = some (.slice Yr yn.refs.length yr) := by0.cell 6; have gx0 : w3.cell? ⟨wr.heap.size + 1, 0, none⟩ = some (.int .i64 xn.id) := bx0.cell 0; have gx1 : w3.cell? ⟨wr.heap.size + 1, 1, none⟩ = some (.string xn.concept) := bx0.cell 1; have gx2 : w3.cell? ⟨wr.heap.size + 1, 2, none⟩ = some (.int .i64 xn.parent) := bx0.cell 2; have gx3 : w3.cell? ⟨wr.heap.size + 1, 3, none⟩ = some (.string xn.role) := bx0.cell 3; have gx4 : w3.cell? ⟨wr.heap.size + 1, 4, none⟩ = some (.slice Sp xn.props.length cp) := bx0.cell 4; have gx5 : w3.cell? ⟨wr.heap.size + 1, 5, none⟩ = some (.slice Sk xn.kids.length ck) := bx0.cell 5; have gx6 : w3.cell? ⟨wr.heap.size + 1, 6, none⟩ = some (.slice Sr xn.refs.length cr) := bx0.cell 6; clear by0 bx0))
              have hg3 := ht3.grown
              have HB3 := Lib.hid (((HB.out.alloc HB.out.size (.cells #[.int .i64 yn.id, .string yn.concept, .int .i64 yn.parent, .string yn.role, .slice Yp yn.props.length yp, .slice Yk yn.kids.length yk, .slice Yr yn.refs.length yr] 79)).alloc (by have := HB.out.size; simp; omega) (.cells #[.int .i64 xn.id, .string xn.concept, .int .i64 xn.parent, .string xn.role, .slice Sp xn.props.length cp, .slice Sk xn.kids.length ck, .slice Sr xn.refs.length cr] 79)).grown hg3 (by have := HB.out.size; simp; omega) (fun k e => by cases e; have := HBM.out; omega))
              have HO3 : Hid (OwnI w3 w.heap.size (.slice Av (newIds a.nodes (lb.take k)).length cv) (newIds a.nodes (lb.take k))) := Lib.hid ((((HO.out.alloc (.cells #[.int .i64 yn.id, .string yn.concept, .int .i64 yn.parent, .string yn.role, .slice Yp yn.props.length yp, .slice Yk yn.kids.length yk, .slice Yr yn.refs.length yr] 79)).alloc (.cells #[.int .i64 xn.id, .string xn.concept, .int .i64 xn.parent, .string xn.role, .slice Sp xn.props.length cp, .slice Sk xn.kids.length ck, .slice Sr xn.refs.length cr] 79))).kept hg3 (.inr HNE2.out))
              have HM3 := Lib.hid hown3
              have hy3 : wr.heap.size < w3.heap.size := by have := ht3.grown.size; simp at this; omega
              clear ow1 ow2 hown3 ht3 hg3 hat hhas d0 d1 d2 d3 d4 d5 d6 hown gy1 gy2 gy3 gy4 gy5 gy6 gx0 gx1 gx2 gx3 gx4 gx5 gx6 hblt
              have HXL : Hid (xn.props.length ≤ 9223372036854775807 ∧ xn.kids.length ≤ 9223372036854775807 ∧ xn.refs.length ≤ 9223372036854775807) := Lib.hid (by have := (hza.1 xn HXM.out).2.1; unfold LensOK at this; omega)
              by_cases heq : xn = yn
              · have HEQ := Lib.hid heq
                clear heq
                refine (res_is (eqB_yes HEQ.out) (hnsame_any xn yn Sp Sk Sr Yp Yk Yr cp ck cr yp yk yr w3 F F (fun b hx => Nat.lt_of_lt_of_le (hF b hx) HB3.out.size) (fun b hx => Nat.lt_of_lt_of_le (hF b hx) HB3.out.size) (HXR.out.rows.1.keep EProp.stays (Keep.below HB3.out hF) (fun _ h => h)) (HXR.out.rows.2.1.keep EInt.stays (Keep.below HB3.out hF) (fun _ h => h)) (HXR.out.rows.2.2.keep ERef.stays (Keep.below HB3.out hF) (fun _ h => h)) (HYR.out.rows.1.keep EProp.stays (Keep.below HB3.out hF) (fun _ h => h)) (HYR.out.rows.2.1.keep EInt.stays (Keep.below HB3.out hF) (fun _ h => h)) (HYR.out.rows.2.2.keep ERef.stays (Keep.below HB3.out hF) (fun _ h => h)) HXL.out.1 HXL.out.2.1 HXL.out.2.2 HID.out)).mono ?_
                rintro _ w4 ⟨rfl, hb4⟩
                have HB4 := Lib.hid (HB3.out.trans (hb4.mono HB3.out.size))
                have HO4 := Lib.hid (HO3.out.below hb4)
                have HM4 := Lib.hid (HM3.out.kept (row := none) ⟨hb4.os, hb4.tape, hb4.output, hb4.size, fun k hk _ => hb4.block k hk⟩ (by simp))
                have gz0 : w4.cell? ⟨wr.heap.size, 0, none⟩ = some (.int .i64 yn.id) := (hb4.cell (p := ⟨wr.heap.size, 0, none⟩) hy3).trans gy0
                clear hb4 HB3 HO3 HM3 gy0 hy3
                have HB7 := HB4; have HM7 := HM4
                have HO7 : Hid (OwnI w4 w.heap.size (.slice Av (newIds a.nodes (lb.take k)).length cv) (newIds a.nodes (lb.take (k + 1)))) := Lib.hid (by
                  rw [HTK.out, newIds_in (y := ⟨yn, .slice Yp yn.props.length yp, .slice Yk yn.kids.length yk, .slice Yr yn.refs.length yr⟩) (by have := HXM.out; rw [HEQ.out] at this; exact this)]
                  exact HO4.out)
                go_wp2
                go_roundg (b.nodes.length - (k + 1))
                case measure => omega
                case rel => exact ⟨k + 1, _, _, by go_num, rfl, by omega, HB7.out, HM7.out, HMD.out, rfl, HO7.out⟩
              · have HEQ := Lib.hid heq
                clear heq
                refine (res_is (eqB_no HEQ.out) (hnsame_any xn yn Sp Sk Sr Yp Yk Yr cp ck cr yp yk yr w3 F F (fun b hx => Nat.lt_of_lt_of_le (hF b hx) HB3.out.size) (fun b hx => Nat.lt_of_lt_of_le (hF b hx) HB3.out.size) (HXR.out.rows.1.keep EProp.stays (Keep.below HB3.out hF) (fun _ h => h)) (HXR.out.rows.2.1.keep EInt.stays (Keep.below HB3.out hF) (fun _ h => h)) (HXR.out.rows.2.2.keep ERef.stays (Keep.below HB3.out hF) (fun _ h => h)) (HYR.out.rows.1.keep EProp.stays (Keep.below HB3.out hF) (fun _ h => h)) (HYR.out.rows.2.1.keep EInt.stays (Keep.below HB3.out hF) (fun _ h => h)) (HYR.out.rows.2.2.keep ERef.stays (Keep.below HB3.out hF) (fun _ h => h)) HXL.out.1 HXL.out.2.1 HXL.out.2.2 HID.out)).mono ?_
                rintro _ w4 ⟨rfl, hb4⟩
                have HB4 := Lib.hid (HB3.out.trans (hb4.mono HB3.out.size))
                have HO4 := Lib.hid (HO3.out.below hb4)
                have HM4 := Lib.hid (HM3.out.kept (row := none) ⟨hb4.os, hb4.tape, hb4.output, hb4.size, fun k hk _ => hb4.block k hk⟩ (by simp))
                have gz0 : w4.cell? ⟨wr.heap.size, 0, none⟩ = some (.int .i64 yn.id) := (hb4.cell (p := ⟨wr.heap.size, 0, none⟩) hy3).trans gy0
                clear hb4 HB3 HO3 HM3 gy0 hy3
                have HOUT : Hid (yn ∉ a.nodes) := Lib.hid (fun h => HEQ.out (by
                  obtain ⟨i1, h1, e1⟩ := List.getElem_of_mem HXM.out
                  obtain ⟨i2, h2, e2⟩ := List.getElem_of_mem h
                  have hr := HRA.out
                  rw [HLS.out] at hr
                  rcases Nat.lt_trichotomy i1 i2 with h3 | h3 | h3
                  · have := List.pairwise_iff_getElem.1 hr i1 i2 h1 h2 h3
                    rw [e1, e2] at this; have := HID.out; omega
                  · subst h3; rw [← e1, ← e2]
                  · have := List.pairwise_iff_getElem.1 hr i2 i1 h2 h1 h3
                    rw [e1, e2] at this; have := HID.out; omega))
                go_wp2_with (at_builtin; refine wpList_append_from _ rfl (.tmp 70) (.tmp 73) 54 rfl w.heap.size 3 Try.underlying54 hint_info ?u1 ?u2 (.slice Av (newIds a.nodes (lb.take k)).length cv) (newIds a.nodes (lb.take k)).length ((newIds a.nodes (lb.take k)).map (Value.int .i64)) ?u3 (World.ownsRow.alloc HO4.out (.cells #[.int .i64 yn.id] 3)) (some ⟨w4.heap.size, 0, none⟩) 1 1 [.int .i64 yn.id] ?u4 ?u5 ?u6 (fun ad e => by cases e; exact news_cells (Blk.new w4 3 #[.int .i64 yn.id])) ?u7 ?u8 ?u9 ?u10 ?u11)
                try (case u1 => rfl)
                try (case u2 => omega)
                try (case u3 => rfl)
                try (case u4 => rfl)
                try (case u5 => rfl)
                try (case u6 => intro e; cases e)
                try (case u7 => intro u hu; simp at hu; subst hu; rfl)
                try (case u8 => (try rw [List.length_append]); unfold maxLen; omega)
                try (case u9 => (try rw [List.length_append]); omega)
                try (case u10 => have := HB4.out.size; simp; omega)
                case u11 =>
                  intro A7 c7 w7 hown7 hg7 _
                  have HB7 := Lib.hid ((HB4.out.alloc HB4.out.size (.cells #[.int .i64 yn.id] 3)).grown hg7 (by have := HB4.out.size; simp; omega) (fun k e => (HO4.out.lt k e).1))
                  have HM7 := Lib.hid ((HM4.out.alloc (.cells #[.int .i64 yn.id] 3)).kept hg7 (fun e => own_ne_map HO4.out HM4.out e.symm))
                  have HO7 : Hid (OwnI w7 w.heap.size (.slice A7 ((newIds a.nodes (lb.take k)).length + 1) c7) (newIds a.nodes (lb.take (k + 1)))) := Lib.hid (by
                    rw [HTK.out, newIds_out (y := ⟨yn, .slice Yp yn.props.length yp, .slice Yk yn.kids.length yk, .slice Yr yn.refs.length yr⟩) HOUT.out]
                    unfold OwnI
                    simpa using hown7)
                  clear hown7 hg7
                  go_wp2
                  go_roundg (b.nodes.length - (k + 1))
                  case measure => omega
                  case rel => exact ⟨k + 1, _, _, by go_num, rfl, by omega, HB7.out, HM7.out, HMD.out, rfl, HO7.out⟩
            · have hhas : Maps.has D (kI yn.id) = false := by
                cases h : Maps.has D (kI yn.id) with
                | false => rfl
                | true => exact absurd ((HMO.out.has_ yn.id).1 h).1 hex
              have hat : D.atKey (kI yn.id) (.held zeroN) = .held (.agg #[.int .i64 0, .string ⟨#[]⟩, .int .i64 0, .string ⟨#[]⟩, .slice none 0 0, .slice none 0 0, .slice none 0 0]) := atKey_of_not_has hhas _
              have HNA2 : Hid (yn ∉ a.nodes) := Lib.hid (fun h => hex (by
                rw [← HLS.out] at h
                obtain ⟨x, hx, e⟩ := List.mem_map.1 h
                exact ⟨x, hx, by rw [e]⟩))
              clear hex
              have ow1 := hown.alloc (.cells #[.int .i64 yn.id, .string yn.concept, .int .i64 yn.parent, .string yn.role, .slice Yp yn.props.length yp, .slice Yk yn.kids.length yk, .slice Yr yn.refs.length yr] 79)
              have ow2 := ow1.alloc (.cells #[.int .i64 0, .string ⟨#[]⟩, .int .i64 0, .string ⟨#[]⟩, .slice none 0 0, .slice none 0 0, .slice none 0 0] 79)
              have hblt : bm < wr.heap.size := hown.lt
              have HNE2 : Hid ((.slice Av (newIds a.nodes (lb.take k)).length cv : Value).ownBlock ≠ some bm) := Lib.hid (own_ne_map HO.out hown)
              go_wp2_with (first | (at_lookup; refine wpList_lookup_held _ rfl _ _ 87 rfl Try.underlying87 bm a.nodes.length D rfl ow1 yn.id rfl hin (.agg #[.int .i64 0, .string ⟨#[]⟩, .int .i64 0, .string ⟨#[]⟩, .slice none 0 0, .slice none 0 0, .slice none 0 0]) false hat hhas ?_) | (at_delete; refine wpList_delete_own _ rfl _ _ 87 3 rfl 79 lawI Try.underlying87 heldE bm a.nodes.length D rfl ow2 _ (kI yn.id) rfl (keyI hin) ?_; intro w3 hown3 ht3; have by0 : Blk w3 wr.heap.size 79 #[.int .i64 yn.id, .string yn.concept, .int .i64 yn.parent, .string yn.role, .slice Yp yn.props.length yp, .slice Yk yn.kids.length yk, .slice Yr yn.refs.length yr] := ((Blk.new wr 79 #[.int .i64 yn.id, .string yn.concept, .int .i64 yn.parent, .string yn.role, .slice Yp yn.props.length yp, .slice Yk yn.kids.length yk, .slice Yr yn.refs.length yr]).alloc _).grown ht3.grown (fun e => by injection e with e; omega); have bx0 : Blk w3 (wr.heap.size + 1) 79 #[.int .i64 0, .string ⟨#[]⟩, .int .i64 0, .string ⟨#[]⟩, .slice none 0 0, .slice none 0 0, .slice none 0 0] := (Blk.new' (by simp)).grown ht3.grown (fun e => by injection e with e; omega); have gy0 : w3.cell? ⟨wr.heap.size, 0, none⟩ = some (.int .i64 yn.id) := by0.cell 0; have gy1 : w3.cell? ⟨wr.heap.size, 1, none⟩ = some (.string yn.concept) := by0.cell 1; have gy2 : w3.cell? ⟨wr.heap.size, 2, none⟩ = some (.int .i64 yn.parent) := by0.cell 2; have gy3 : w3.cell? ⟨wr.heap.size, 3, none⟩ = some (.string yn.role) := by0.cell 3; have gy4 : w3.cell? ⟨wr.heap.size, 4, none⟩ = some (.slice Yp yn.props.length yp) := by0.cell 4; have gy5 : w3.cell? ⟨wr.heap.size, 5, none⟩ = some (.slice Yk yn.kids.length yk) := by0.cell 5; have gy6 : w3.cell? ⟨wr.heap.size, 6, none⟩ = some (.slice Yr yn.refs.length yr) := by0.cell 6; have gx0 : w3.cell? ⟨wr.heap.size + 1, 0, none⟩ = some (.int .i64 0) := bx0.cell 0; have gx1 : w3.cell? ⟨wr.heap.size + 1, 1, none⟩ = some (.string ⟨#[]⟩) := bx0.cell 1; have gx2 : w3.cell? ⟨wr.heap.size + 1, 2, none⟩ = some (.int .i64 0) := bx0.cell 2; have gx3 : w3.cell? ⟨wr.heap.size + 1, 3, none⟩ = some (.string ⟨#[]⟩) := bx0.cell 3; have gx4 : w3.cell? ⟨wr.heap.size + 1, 4, none⟩ = some (.slice none 0 0) := bx0.cell 4; have gx5 : w3.cell? ⟨wr.heap.size + 1, 5, none⟩ = some (.slice none 0 0) := bx0.cell 5; have gx6 : w3.cell? ⟨wr.heap.size + 1, 6, none⟩ = some (.slice none 0 0) := bx0.cell 6; clear by0 bx0; refine Hid.out ?_))
              refine Lib.hid ?_
              have hg3 := ht3.grown
              have HB3 := Lib.hid (((HB.out.alloc HB.out.size (.cells #[.int .i64 yn.id, .string yn.concept, .int .i64 yn.parent, .string yn.role, .slice Yp yn.props.length yp, .slice Yk yn.kids.length yk, .slice Yr yn.refs.length yr] 79)).alloc (by have := HB.out.size; simp; omega) (.cells #[.int .i64 0, .string ⟨#[]⟩, .int .i64 0, .string ⟨#[]⟩, .slice none 0 0, .slice none 0 0, .slice none 0 0] 79)).grown hg3 (by have := HB.out.size; simp; omega) (fun k e => by cases e; have := HBM.out; omega))
              have HO3 : Hid (OwnI w3 w.heap.size (.slice Av (newIds a.nodes (lb.take k)).length cv) (newIds a.nodes (lb.take k))) := Lib.hid ((((HO.out.alloc (.cells #[.int .i64 yn.id, .string yn.concept, .int .i64 yn.parent, .string yn.role, .slice Yp yn.props.length yp, .slice Yk yn.kids.length yk, .slice Yr yn.refs.length yr] 79)).alloc (.cells #[.int .i64 0, .string ⟨#[]⟩, .int .i64 0, .string ⟨#[]⟩, .slice none 0 0, .slice none 0 0, .slice none 0 0] 79))).kept hg3 (.inr HNE2.out))
              have HM3 := Lib.hid hown3
              have hy3 : wr.heap.size < w3.heap.size := by have := ht3.grown.size; simp at this; omega
              clear ow1 ow2 hown3 ht3 hg3 hat hhas d0 d1 d2 d3 d4 d5 d6 hown gy1 gy2 gy3 gy4 gy5 gy6 gx0 gx1 gx2 gx3 gx4 gx5 gx6 hblt
              go_wp2_with (at_builtin; refine wpList_append_from _ rfl (.tmp 70) (.tmp 73) 54 rfl w.heap.size 3 Try.underlying54 hint_info ?v1 ?v2 (.slice Av (newIds a.nodes (lb.take k)).length cv) (newIds a.nodes (lb.take k)).length ((newIds a.nodes (lb.take k)).map (Value.int .i64)) ?v3 (World.ownsRow.alloc HO3.out (.cells #[.int .i64 yn.id] 3)) (some ⟨w3.heap.size, 0, none⟩) 1 1 [.int .i64 yn.id] ?v4 ?v5 ?v6 (fun ad e => by cases e; exact news_cells (Blk.new w3 3 #[.int .i64 yn.id])) ?v7 ?v8 ?v9 ?v10 ?v11)
              try (case v1 => rfl)
              try (case v2 => omega)
              try (case v3 => rfl)
              try (case v4 => rfl)
              try (case v5 => rfl)
              try (case v6 => intro e; cases e)
              try (case v7 => intro u hu; simp at hu; subst hu; rfl)
              try (case v8 => (try rw [List.length_append]); unfold maxLen; omega)
              try (case v9 => (try rw [List.length_append]); omega)
              try (case v10 => have := HB3.out.size; simp; omega)
              case v11 =>
                intro A7 c7 w7 hown7 hg7 _
                have HB7 := Lib.hid ((HB3.out.alloc HB3.out.size (.cells #[.int .i64 yn.id] 3)).grown hg7 (by have := HB3.out.size; simp; omega) (fun k e => (HO3.out.lt k e).1))
                have HM7 := Lib.hid ((HM3.out.alloc (.cells #[.int .i64 yn.id] 3)).kept hg7 (fun e => own_ne_map HO3.out HM3.out e.symm))
                have HO7 : Hid (OwnI w7 w.heap.size (.slice A7 ((newIds a.nodes (lb.take k)).length + 1) c7) (newIds a.nodes (lb.take (k + 1)))) := Lib.hid (by
                  rw [HTK.out, newIds_out (y := ⟨yn, .slice Yp yn.props.length yp, .slice Yk yn.kids.length yk, .slice Yr yn.refs.length yr⟩) HNA2.out]
                  unfold OwnI
                  simpa using hown7)
                clear hown7 hg7
                go_wp2
                go_roundg (b.nodes.length - (k + 1))
                case measure => omega
                case rel => exact ⟨k + 1, _, _, by go_num, rfl, by omega, HB7.out, HM7.out, HMD.out, rfl, HO7.out⟩
          · have hlt' : ¬ (k : Int) < b.nodes.length := by omega
            have hkb : k = b.nodes.length := by omega
            have HTT : Hid (lb.take k = lb) := Lib.hid (List.take_of_length_le (by have := HNB.out; omega))
            have HMO2 : Hid (MapOf D ls (lb.map (·.n.id))) := Lib.hid (by have := HMO.out; rwa [HTT.out] at this)
            obtain ⟨v, hv⟩ : ∃ v, (.slice Av (newIds a.nodes (lb.take k)).length cv : Value) = v := ⟨_, rfl⟩
            rw [hv] at HO
            have HO2 : Hid (OwnI wr w.heap.size v (newIds a.nodes lb)) := Lib.hid (by have := HO.out; rwa [HTT.out] at this)
            have hnl : (newIds a.nodes lb).length ≤ b.nodes.length := Nat.le_trans (newIds_len _ _) (by have := HNB.out; omega)
            (try rw [hv])
            clear HMO HO hv HTT hol
            obtain ⟨wp, hwp⟩ : ∃ x, x = wr := ⟨_, rfl⟩
            subst hwp
            have HW := Lib.hid hown
            subst hkb
            go_wp2_with (at_range; refine wpList_range_own _ rfl _ 87 rfl 3 79 lawI Try.underlying87 heldE bm a.nodes.length D rfl hown ?_; intro w5 hrg5 hg5 hs5; refine Hid.out ?_)
            refine Lib.hid ?_
            have HB5 := Lib.hid (HB.out.grown hg5 HB.out.size (fun k e => by cases e))
            have HO5 : Hid (OwnI w5 w.heap.size v (newIds a.nodes lb)) := Lib.hid (HO2.out.kept hg5 (by cases h : v.ownBlock with | none => exact .inl rfl | some x => exact .inr (by simp)))
            have HR5 := Lib.hid hrg5
            have hsz5 := rcnt_le hrg5
            obtain ⟨r0, hr0⟩ : ∃ x, wp.heap.size = x := ⟨_, rfl⟩
            rw [hr0] at HR5
            (try rw [hr0])
            have HR0B : Hid (w.heap.size ≤ r0) := Lib.hid (by have := HB.out.size; omega)
            clear hrg5 hg5 hs5 hown HW HB HO2 hr0
            go_wp2_with fail
            go_loopg [12, 17] (Maps.size D) (fun g s12 s17 wx => ∃ (left : Lit → Bool) (cs : List Int) (v : Value), s12 = v ∧ wx.ranges Try.prog 3 heldE bm r0 a.nodes.length D left g ∧ Coll D left cs ∧ Below w.heap.size w wx ∧ OwnI wx w.heap.size v (newIds a.nodes lb ++ cs) ∧ cs.length + g ≤ a.nodes.length)
            case atStart => exact ⟨_, [], v, rfl, HR5.out, Coll.start D, HB5.out, by simpa using HO5.out, by simpa using hsz5⟩
            case round =>
              clear HB5 HO5 HR5 hlt hlt' hkl k0
              obtain ⟨left, cs, v, rfl, hrg, hcoll, hb, ho, hlen⟩ := hrel
              obtain ⟨L, hL⟩ : ∃ L, newIds a.nodes lb ++ cs = L := ⟨_, rfl⟩
              have hll : L.length ≤ b.nodes.length + cs.length := by rw [← hL, List.length_append]; omega
              rw [hL] at ho
              have HL := Lib.hid hL
              clear hL
              obtain ⟨Av, cv, rfl⟩ := ho.shape
              have HB := Lib.hid hb; have HCO := Lib.hid hcoll; have HO := Lib.hid ho
              clear hb hcoll ho
              go_wp2_with (at_next; refine wpList_next_ranges _ rfl _ rfl 3 lawI heldE (Value.int .i64) (fun v => v) invKI invVH bm r0 a.nodes.length D left _ rfl hrg ?_ ?_)
              · intro hc0 hl0
                have HCE := Lib.hid (coll_end HCO.out hl0 HMO2.out)
                have hll2 : L.length < 4611686018427387904 := by omega
                clear hrg hc0 hl0 HCO hll
                go_wp2_with (go_at_call 45; refine (sortOwn_any _ L wr w.heap.size HO.out hll2).mono ?_; rintro _ w6 ⟨rfl, ho6, hg6⟩; refine Hid.out ?_)
                refine Lib.hid ?_
                have HB6 := Lib.hid (HB.out.grown hg6 HB.out.size (fun k e => (HO.out.lt k e).1))
                have HO6 := Lib.hid ho6
                clear ho6 hg6
                go_wp2
                refine bodyPost_ret (v := .tuple #[.slice Av L.length cv, .int .i64 0]) (by simp [results, Try.results26, go_sem]) rfl ?_
                have hz : checkI a = 0 ∧ checkI b = 0 := ⟨HEA.out.trans HE0.out.1, HEB.out.trans HE0.out.2⟩
                refine ⟨_, by unfold touchE; rw [if_pos hz], ?_, HB6.out⟩
                unfold touchL
                rw [if_pos hz, ← sort_touched (a := a.nodes) (b := b.nodes) (ob := newIds a.nodes lb) (cs := cs) (by rw [← HLS.out]; exact HRA.out) (by rw [← HLBS.out]; exact HRB.out) (newIds_nodup HRB.out) HCE.out.1 (fun n => by rw [newIds_mem, HLBS.out]) (fun n => by rw [← HLS.out, ← HLBS.out]; exact HCE.out.2 n)]
                rw [HL.out]
                exact HO6.out
              · intro x c kl y ps w5 cnt' hkey hlk hv hat hrg5 hlt hgr hsz hen
                have hhas : Maps.has D kl = true := Maps.has_true_of_atKey hat
                obtain ⟨x', ex, rfl, _⟩ := Maps.keyOf_int_inv Try.underlying3 hkey
                cases ex
                have HCO5 := Lib.hid (HCO.out.step (x := x) hlk hhas)
                have HB5 := Lib.hid (HB.out.grown hgr HB.out.size (fun k e => by cases e; exact HR0B.out))
                have hne : (.slice Av L.length cv : Value).ownBlock ≠ some r0 := own_ne_iter HO.out hrg
                have HO5 : Hid (OwnI w5 w.heap.size (.slice Av L.length cv) L) := Lib.hid (HO.out.kept hgr (.inr hne))
                have HR5 := Lib.hid hrg5
                clear hkey hlk hv hat hgr hsz hrg hrg5 hne HCO HB HO hhas
                go_wp2_with (at_builtin; refine wpList_append_from _ rfl (.tmp 82) (.tmp 84) 54 rfl w.heap.size 3 Try.underlying54 hint_info ?x1 ?x2 (.slice Av L.length cv) L.length (L.map (Value.int .i64)) ?x3 (World.ownsRow.alloc HO5.out (.cells #[.int .i64 x] 3)) (some ⟨w5.heap.size, 0, none⟩) 1 1 [.int .i64 x] ?x4 ?x5 ?x6 (fun ad e => by cases e; exact news_cells (Blk.new w5 3 #[.int .i64 x])) ?x7 ?x8 ?x9 ?x10 ?x11)
                try (case x1 => rfl)
                try (case x2 => omega)
                try (case x3 => rfl)
                try (case x4 => rfl)
                try (case x5 => rfl)
                try (case x6 => intro e; cases e)
                try (case x7 => intro u hu; simp at hu; subst hu; rfl)
                try (case x8 => (try rw [List.length_append]); unfold maxLen; omega)
                try (case x9 => (try rw [List.length_append]); omega)
                try (case x10 => have := HB5.out.size; simp; omega)
                case x11 =>
                  intro A7 c7 w7 hown7 hg7 _
                  have HB7 := Lib.hid ((HB5.out.alloc HB5.out.size (.cells #[.int .i64 x] 3)).grown hg7 (by have := HB5.out.size; simp; omega) (fun k e => (HO5.out.lt k e).1))
                  have HR7 := Lib.hid ((HR5.out.alloc (.cells #[.int .i64 x] 3)).kept hg7 (fun e => own_ne_map HO5.out HR5.out.owns e.symm) (fun e => own_ne_iter HO5.out HR5.out e.symm))
                  have HO7 : Hid (OwnI w7 w.heap.size (.slice A7 (L.length + 1) c7) (newIds a.nodes lb ++ (cs ++ [x]))) := Lib.hid (by
                    rw [← List.append_assoc, HL.out]
                    unfold OwnI
                    simpa using hown7)
                  clear hown7 hg7 hen
                  go_wp2
                  go_roundg cnt'
                  case measure => omega
                  case rel => exact ⟨_, cs ++ [x], _, rfl, HR7.out, HCO5.out, HB7.out, HO7.out, by rw [List.length_append]; simp; omega⟩
theorem htouched_any (A B : Option Addr) (cA cB : Nat) (a b : AModel) (w : World) (F : Nat → Prop) (hF : ∀ b, F b → b < w.heap.size) (ha : RowOf 7 ENode w F A a.nodes) (hb : RowOf 7 ENode w F B b.nodes) (hza : ModAll a) (hzb : ModAll b) :
    Calls Try.prog 26 #[.agg #[.int .i64 a.next, .slice A a.nodes.length cA], .agg #[.int .i64 b.next, .slice B b.nodes.length cB]] w fun e w' => TPost w w' a b e :=
  htouched_mid A B cA cB a b w F hF ha hb hza hzb.mid
end Go.Proofs.Ytpjkifbicfcajaa
end
