import Derived.Test.YtmafhaadcjgcbaaAOwnI
import Derived.Test.YtmafhaadcjgcbaaADeep
set_option linter.unusedSimpArgs false
set_option linter.unusedVariables false
namespace Go.Proofs.Ytmafhaadcjgcbaa
open Go Go.RowKit

/-- a node's kids in a role -/
def roleB (m : AModel) (role : ByteArray) (k : Int) : Bool := (nodeOf m k).role.toList == role.toList
def inL (m : AModel) (x : ANode) (role : ByteArray) : List Int := x.kids.filter (roleB m role)
/-- each node is found by its number, and so is each kid -/
def Fam (m : AModel) : Prop := (∀ y ∈ m.nodes, nodeOf m y.id = y) ∧ ∀ x ∈ m.nodes, ∀ k ∈ x.kids, ∃ y ∈ m.nodes, y.id = k
theorem Tree.fam {m : AModel} (h : Tree m) : Fam m := ⟨fun _ hy => h.nodeOf hy, fun _ hx _ hk => by obtain ⟨y, hy, e, _⟩ := h.kid hx hk; exact ⟨y, hy, e⟩⟩
theorem filter_take {α : Type} {p : α → Bool} {l : List α} {k : Nat} (h : k < l.length) : (l.take (k + 1)).filter p = (l.take k).filter p ++ (if p l[k] = true then [l[k]] else []) := by
  rw [List.take_succ_eq_append_getElem h, List.filter_append]
  cases hp : p l[k] <;> simp [List.filter_cons, hp]
theorem filter_len {α : Type} {p : α → Bool} {l : List α} (k : Nat) : ((l.take k).filter p).length ≤ l.length := Nat.le_trans (List.length_filter_le _ _) (by rw [List.length_take]; omega)

set_option maxRecDepth 100000 in
set_option maxHeartbeats 2000000 in
theorem in_fam (A : Option Addr) (c : Nat) (m : AModel) (w : World) (F : Nat → Prop) (hF : ∀ b, F b → b < w.heap.size) (h : RowOf 7 ENode w F A m.nodes) (hT : Fam m) (hs : SrtB m.nodes) (hr : ∀ x ∈ m.nodes, ∀ k ∈ x.kids, InR k) (hl : m.nodes.length ≤ 1048576) (j : Nat) (hj : j < m.nodes.length) (x : ANode) (hje : m.nodes[j] = x) (hk4 : x.kids.length ≤ 4096) (role : ByteArray) :
    Calls Try.prog 76 #[.agg #[.int .i64 m.next, .slice A m.nodes.length c], .int .i64 j, .string role] w fun e w' => ∃ v, e = .returned v ∧ OwnI w' w.heap.size v (inL m x role) ∧ Below w.heap.size w w' := by
  have hx : x ∈ m.nodes := by rw [← hje]; exact List.getElem_mem hj
  have HT := Lib.hid hT; have HX := Lib.hid hx; have HH := Lib.hid h
  obtain ⟨b, off, Sp, cp, Sk, ck, Sr, cr, rfl, hbF, d0, d1, d2, d3, d4, d5, d6, _, ⟨hk1, hk2, hk3⟩, _⟩ := node_at h hj
  rw [hje] at d5 hk1 hk3
  unfold maxLen at hk2
  have HK3 := Lib.hid hk3
  have hbw := hF _ hbF
  have j0 : (0 : Int) ≤ j := by omega
  have j1 : (j : Int) < m.nodes.length := by omega
  clear hT hx h hk3 d0 d1 d2 d3 d4 d6 hje
  go_enter Try.func76, Try.ntmps76
  have HBS := Lib.hid ((Below.refl w.heap.size w).alloc (Nat.le_refl _) (.cells #[.int .i64 m.next, .slice (some ⟨b, off, none⟩) m.nodes.length c] 24))
  have HMS := Lib.hid (Blk.new w 24 #[.int .i64 m.next, .slice (some ⟨b, off, none⟩) m.nodes.length c])
  go_wp2_with fail
  go_loopg [7, 17] x.kids.length (fun g s7 s17 wx => ∃ (k : Nat) (v : Value), s17 = .int .i64 k ∧ s7 = v ∧ g = x.kids.length - k ∧ k ≤ x.kids.length ∧ Below w.heap.size w wx ∧ Blk wx w.heap.size 24 #[.int .i64 m.next, .slice (some ⟨b, off, none⟩) m.nodes.length c] ∧ OwnI wx (w.heap.size + 1) v ((x.kids.take k).filter (roleB m role)))
  case atStart => exact ⟨0, _, rfl, rfl, rfl, Nat.zero_le _, HBS.out, HMS.out, OwnI.nil _ _⟩
  case round =>
    clear HBS HMS
    obtain ⟨k, v, rfl, rfl, rfl, hkk, hb, hmb, hown⟩ := hrel
    obtain ⟨L, hL⟩ : ∃ L, (x.kids.take k).filter (roleB m role) = L := ⟨_, rfl⟩
    rw [hL] at hown
    have HL := Lib.hid hL; clear hL
    obtain ⟨A', c', rfl⟩ := hown.shape
    have HB := Lib.hid hb; have HM := Lib.hid hmb; have HOWN := Lib.hid hown
    have m0 := hmb.cell 0; have m1 := hmb.cell 1
    have hmlt := hmb.lt
    have hsz := hb.size
    simp at m0 m1
    clear hmb hown
    by_cases hlt : k < x.kids.length
    · have hlt' : (k : Int) < x.kids.length := by omega
      have i0 : (0 : Int) ≤ k := by omega
      obtain ⟨b', off', rfl, hbF', e0⟩ := int_at (RowOf.keep EInt.stays (Keep.below hb hF) (F' := F) (fun _ h => h) HK3.out) hlt
      obtain ⟨y, hy, hyk⟩ := HT.out.2 _ HX.out _ (List.getElem_mem hlt)
      obtain ⟨i, hi, hie⟩ := List.getElem_of_mem hy
      obtain ⟨b2, off2, _, _, _, _, _, _, e', _, d0, d1, d2, d3, _⟩ := node_at (RowOf.keep ENode.stays (Keep.below hb hF) (F' := F) (fun _ h => h) HH.out) hi
      injection e' with e'
      injection e' with e1 e2
      subst e1; subst e2
      rw [hie] at d3
      have j0 : (0 : Int) ≤ i := by omega
      have j1 : (i : Int) < m.nodes.length := by omega
      have hat : atI m.nodes x.kids[k] = i := by rw [← hyk, ← hie]; exact atI_some hs.1 hi rfl
      have hin : InR x.kids[k] := hr x HX.out _ (List.getElem_mem hlt)
      have hrole : roleB m role x.kids[k] = (y.role.toList == role.toList) := by unfold roleB; rw [← hyk, HT.out.1 _ hy]
      have HROLE := Lib.hid hrole
      have CP := Lib.hid (fun (d : Nat) (os : Array Obj) => Calls.regrown_of (w := wr) (d := d) (os := os) (by
    have hbg := HB.out.trans ((below_regrown wr d os).mono HB.out.size)
    have := place_any (some ⟨b, off, none⟩) c m.next x.kids[k] m.nodes (Sort.grow (redrawn wr d) os) F (fun b hb' => Nat.lt_of_lt_of_le (hF b hb') hbg.size) (HH.out.keep ENode.stays (Keep.below hbg hF) (fun _ h => h)) hs hin hl
    rw [hat] at this; exact this))
      have HNX := Lib.hid (filter_take (p := roleB m role) hlt)
      have hll := filter_len (p := roleB m role) (l := x.kids) k
      clear hb d0 d1 d2 hie hyk hat hin hrole hy
      rw [HL.out] at hll HNX
      go_wp2_with fail
      cases hq : (y.role.toList == role.toList)
      · have HN2 : Hid ((x.kids.take (k + 1)).filter (roleB m role) = L) := Lib.hid (by rw [HNX.out, HROLE.out, hq]; simp)
        have k0 := cell_regrown m0
        have k1 := cell_regrown m1
        have k3 := cell_regrown d3
        clear m0 m1 d3
        refine wp_region_quiet_below (by kernel_rfl) (by kernel_rfl) ?_
        repeat (first | go_big_quiet_step (exact CP.out _ _) | quiet_step (exact CP.out _ _))
        refine wpQuiet_nil ?_
        intro _ hw'
        obtain ⟨⟨dq, osq⟩, hw''⟩ := hw'
        subst hw''
        have HB2 := Lib.hid (HB.out.trans ((below_regrown wr dq osq).mono HB.out.size))
        have HM2 := Lib.hid (HM.out.below (below_regrown wr dq osq) hmlt)
        have HOW2 := Lib.hid (HOWN.out.below (below_regrown wr dq osq))
        clear k0 k1 k3 CP hq
        go_wp2
        go_roundg (x.kids.length - (k + 1))
        case measure => omega
        case rel => exact ⟨k + 1, _, by go_num, rfl, rfl, by omega, HB2.out, HM2.out, by rw [HN2.out]; exact HOW2.out⟩
      · have HN2 : Hid ((x.kids.take (k + 1)).filter (roleB m role) = L ++ [x.kids[k]]) := Lib.hid (by rw [HNX.out, HROLE.out, hq]; simp)
        have k0 := cell_regrown m0
        have k1 := cell_regrown m1
        have k3 := cell_regrown d3
        clear m0 m1 d3
        refine wp_region_quiet_below (by kernel_rfl) (by kernel_rfl) ?_
        repeat (first | go_big_quiet_step (exact CP.out _ _) | quiet_step (exact CP.out _ _))
        refine wpQuiet_nil ?_
        intro _ hw'
        obtain ⟨⟨dq, osq⟩, hw''⟩ := hw'
        subst hw''
        have HB2 := Lib.hid (HB.out.trans ((below_regrown wr dq osq).mono HB.out.size))
        have HM2 := Lib.hid (HM.out.below (below_regrown wr dq osq) hmlt)
        have HOW2 := Lib.hid (HOWN.out.below (below_regrown wr dq osq))
        clear k0 k1 k3 CP hq
        obtain ⟨u, hu⟩ : ∃ u : World, Sort.grow (redrawn wr dq) osq = u := ⟨_, rfl⟩
        rw [hu] at HB2 HM2 HOW2 ⊢
        clear hu
        have hsz2 := HB2.out.size
        have HOW3 := Lib.hid (HOW2.out.alloc (.cells #[.int .i64 x.kids[k]] 3))
        go_wp2_with (at_builtin; refine wpList_pushI rfl (.tmp 31) (.tmp 33) rfl ?a1 HOW3.out x.kids[k] u.heap.size ?a2 ?a3 ?a4 ?a5 ?a6)
        case a1 => rfl
        case a2 => rfl
        case a3 => exact Blk.new _ _ _
        case a4 => omega
        case a5 => simp; omega
        case a6 =>
          intro A3 c3 w3 own3 hg3 _
          have HOW4 := Lib.hid own3
          have HB4 := Lib.hid ((HB2.out.alloc hsz2 _).grown hg3 (by simp; omega) (fun b e => Nat.le_of_succ_le (HOW2.out.lt b e).1))
          have HM4 : Hid (Blk w3 w.heap.size 24 #[.int .i64 m.next, .slice (some ⟨b, off, none⟩) m.nodes.length c]) := Lib.hid ((HM2.out.alloc (.cells #[.int .i64 x.kids[k]] 3)).grown hg3 (fun e => by have := (HOW2.out.lt _ e.symm).1; omega))
          clear own3 hg3
          go_wp2
          go_roundg (x.kids.length - (k + 1))
          case measure => omega
          case rel => exact ⟨k + 1, _, by go_num, rfl, rfl, by omega, HB4.out, HM4.out, by rw [HN2.out]; simpa using HOW4.out⟩
    · have hlt' : decide ((k : Int) < x.kids.length) = false := decide_eq_false (by omega)
      have ht : x.kids.take k = x.kids := List.take_of_length_le (by omega)
      have HLL : Hid (inL m x role = L) := Lib.hid (by have e := HL.out; rw [ht] at e; exact e)
      clear hb ht
      go_wp2
      go_ret
      exact ⟨_, rfl, by rw [HLL.out]; exact HOWN.out.weaken (Nat.le_succ _), HB.out⟩

theorem in_any (A : Option Addr) (c : Nat) (m : AModel) (w : World) (F : Nat → Prop) (hF : ∀ b, F b → b < w.heap.size) (h : RowOf 7 ENode w F A m.nodes) (hT : Tree m) (hs : SrtB m.nodes) (hr : ∀ x ∈ m.nodes, ∀ k ∈ x.kids, InR k) (hl : m.nodes.length ≤ 1048576) (j : Nat) (hj : j < m.nodes.length) (x : ANode) (hje : m.nodes[j] = x) (hk4 : x.kids.length ≤ 4096) (role : ByteArray) :
    Calls Try.prog 76 #[.agg #[.int .i64 m.next, .slice A m.nodes.length c], .int .i64 j, .string role] w fun e w' => ∃ v, e = .returned v ∧ OwnI w' w.heap.size v (inL m x role) ∧ Below w.heap.size w w' :=
  in_fam A c m w F hF h hT.fam hs hr hl j hj x hje hk4 role
end Go.Proofs.Ytmafhaadcjgcbaa
