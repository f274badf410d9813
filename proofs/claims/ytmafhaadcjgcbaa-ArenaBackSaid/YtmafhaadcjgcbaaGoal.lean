import Derived.Test.YtmafhaadcjgcbaaAIndex
import Derived.Test.YtmafhaadcjgcbaaATellsA
import Derived.Test.YtmafhaadcjgcbaaAIn
import Derived.Test.YtmafhaadcjgcbaaADeep
import Derived.Test.YtmafhaadcjgcbaaAAlone
import Derived.Test.YtmafhaadcjgcbaaAOrder
set_option linter.unusedSimpArgs false
set_option linter.unusedVariables false
section
namespace Go.Proofs.Ytmafhaadcjgcbaa
open Go Go.RowKit

set_option maxRecDepth 100000 in
set_option maxHeartbeats 400000 in
theorem sindex_any (A : Option Addr) (c : Nat) (l : List Int) (id : Int) (w : World) (F : Nat → Prop) (h : RowOf 1 EInt w F A l) (hl : l.length ≤ 9223372036854775807) :
    Calls Try.prog 126 #[.slice A l.length c, .int .i64 id] w fun e w' => e = .returned (.int .i64 (idxI l id)) ∧ Below w.heap.size w w' := by
  go_enter Try.func126, Try.ntmps126
  go_wp2_with fail
  go_loopg [5, 8] l.length (fun g s5 s8 wx => ∃ k : Nat, s8 = .int .i64 k ∧ g = l.length - k ∧ k ≤ l.length ∧ w = wx ∧ ∀ j (hj : j < l.length), j < k → l[j] ≠ id)
  case atStart => exact ⟨0, rfl, rfl, Nat.zero_le _, rfl, fun j hj h => absurd h (Nat.not_lt_zero _)⟩
  case round =>
    obtain ⟨k, rfl, rfl, hk, rfl, hn⟩ := hrel
    have HN := Lib.hid hn; clear hn
    by_cases hlt : k < l.length
    · obtain ⟨b, off, rfl, hb, d0⟩ := int_at h hlt
      have m1 : (0 : Int) ≤ k := by omega
      have m2 : (k : Int) < l.length := by omega
      by_cases he : l[k] = id
      · have HE := Lib.hid (idxI_at hlt he HN.out)
        have he' : (id == l[k]) = true := by simp [he]
        clear he
        go_wp2
        go_ret
        exact ⟨by rw [HE.out]; rfl, Below.refl _ _⟩
      · have he' : (id == l[k]) = false := beq_eq_false_iff_ne.2 (Ne.symm he)
        have HE := Lib.hid he
        clear he
        go_wp2
        go_roundg (l.length - (k + 1))
        case measure => omega
        case rel => exact ⟨k + 1, by go_num, rfl, by omega, rfl, fun j hj hjk => by
          rcases Nat.lt_succ_iff_lt_or_eq.1 hjk with h' | h'
          · exact HN.out j hj h'
          · subst h'; exact HE.out⟩
    · have HE := Lib.hid (idxI_none (l := l) (id := id) fun j hj => HN.out j hj (by omega))
      have m2 : decide ((k : Int) < l.length) = false := decide_eq_false (by omega)
      go_wp2
      go_ret
      exact ⟨by rw [HE.out]; rfl, Below.refl _ _⟩
end Go.Proofs.Ytmafhaadcjgcbaa
end
section
namespace Go.Proofs.Ytmafhaadcjgcbaa
open Go Go.RowKit

theorem OwnI.row {w : World} {base : Nat} {A : Option Addr} {n c : Nat} {l : List Int} (h : OwnI w base (.slice A n c) l) : RowOf 1 EInt w (fun b => b < w.heap.size) A l ∧ c ≤ 9223372036854775807 := by
  obtain ⟨A', c', e, _, h3, h4⟩ := h.isRow (F := fun b => b < w.heap.size) (fun b _ h => h)
  injection e with e1 _ e2
  subst e1; subst e2
  unfold maxLen at h3
  exact ⟨h4, h3⟩
end Go.Proofs.Ytmafhaadcjgcbaa
end
section
namespace Go.Proofs.Ytmafhaadcjgcbaa
open Go Go.RowKit

/-- among all kids, where a place of a role is: l: the kids in that role -/
def spotI (kids l : List Int) (at' : Int) : Option Int :=
  if at' < 0 ∨ (l.length : Int) < at' then none
  else if h : at'.toNat < l.length then some (idxI kids l[at'.toNat])
  else if h : 0 < l.length then some (idxI kids l[l.length - 1] + 1) else some kids.length
theorem spotI_no {kids l : List Int} {a : Int} (h : a < 0 ∨ (l.length : Int) < a) : spotI kids l a = none := if_pos h
theorem spotI_at {kids l : List Int} {q : Nat} (h : q < l.length) : spotI kids l q = some (idxI kids l[q]) := by
  have h0 : ¬ ((q : Int) < 0 ∨ (l.length : Int) < q) := by omega
  have h1 : ((q : Int).toNat) < l.length := by simpa using h
  unfold spotI; rw [if_neg h0, dif_pos h1]; simp
theorem spotI_last {kids l : List Int} (h : 0 < l.length) : spotI kids l l.length = some (idxI kids l[l.length - 1] + 1) := by
  have h0 : ¬ ((l.length : Int) < 0 ∨ (l.length : Int) < l.length) := by omega
  have h1 : ¬ ((l.length : Int).toNat) < l.length := by simp
  unfold spotI; rw [if_neg h0, dif_neg h1, dif_pos h]
theorem spotI_all {kids l : List Int} (h : l.length = 0) : spotI kids l 0 = some (kids.length : Int) := by
  have h0 : ¬ ((0 : Int) < 0 ∨ (l.length : Int) < 0) := by omega
  have h1 : ¬ ((0 : Int).toNat) < l.length := by have : (0 : Int).toNat = 0 := rfl; omega
  have h2 : ¬ 0 < l.length := by omega
  unfold spotI; rw [if_neg h0, dif_neg h1, dif_neg h2]
theorem idxI_le (l : List Int) (x : Int) : -1 ≤ idxI l x ∧ idxI l x < l.length ∨ (l.length = 0 ∧ idxI l x = -1) := by
  rcases idxI_cases l x with ⟨i, h, _, e, _⟩ | ⟨_, e⟩
  · exact .inl (by omega)
  · by_cases h : l.length = 0
    · exact .inr ⟨h, e⟩
    · exact .inl (by omega)
theorem spotI_le {kids l : List Int} (hs : ∀ k ∈ l, k ∈ kids) {a i : Int} (h : spotI kids l a = some i) : 0 ≤ i ∧ i ≤ kids.length := by
  unfold spotI at h
  split at h
  · cases h
  · split at h
    · injection h with h; subst h
      have := idxI_le kids l[a.toNat]
      have := (idxI_mem (l := kids) (id := l[a.toNat])).2 (hs _ (List.getElem_mem _))
      omega
    · split at h
      · injection h with h; subst h
        have := idxI_le kids l[l.length - 1]
        have := (idxI_mem (l := kids) (id := l[l.length - 1])).2 (hs _ (List.getElem_mem _))
        omega
      · injection h with h; omega
theorem inL_sub {m : AModel} {x : ANode} {role : ByteArray} : ∀ k ∈ inL m x role, k ∈ x.kids := fun _ h => (List.mem_filter.1 h).1
theorem inL_len {m : AModel} {x : ANode} {role : ByteArray} : (inL m x role).length ≤ x.kids.length := List.length_filter_le _ _

set_option maxRecDepth 100000 in
set_option maxHeartbeats 2000000 in
theorem spot_any (A : Option Addr) (c : Nat) (m : AModel) (w : World) (F : Nat → Prop) (hF : ∀ b, F b → b < w.heap.size) (h : RowOf 7 ENode w F A m.nodes) (hT : Fam m) (hs : SrtB m.nodes) (hr : ∀ x ∈ m.nodes, ∀ k ∈ x.kids, InR k) (hl : m.nodes.length ≤ 1048576) (j : Nat) (hj : j < m.nodes.length) (x : ANode) (hje : m.nodes[j] = x) (hk4 : x.kids.length ≤ 4096) (role : ByteArray) (a : Int) (ha : InR a) :
    Calls Try.prog 118 #[.agg #[.int .i64 m.next, .slice A m.nodes.length c], .int .i64 x.id, .string role, .int .i64 a] w fun e w' => e = .returned (.tuple #[.int .i64 ((spotI x.kids (inL m x role) a).getD 0), .bool (spotI x.kids (inL m x role) a).isSome]) ∧ Below w.heap.size w w' := by
  have hat : atI m.nodes x.id = j := by rw [← hje]; exact atI_some hs.1 hj rfl
  have hidr : InR x.id := by have := hs.2 j hj; rw [hje] at this; unfold InR; omega
  obtain ⟨b, off, Sp, cp, Sk, ck, Sr, cr, rfl, hbF, d0, d1, d2, d3, d4, d5, d6, _, ⟨hk1, hk2, hk3⟩, _⟩ := node_at h hj
  rw [hje] at d5 hk1 hk3
  have HJE := Lib.hid hje
  have HH := Lib.hid h; have HT := Lib.hid hT; have HS := Lib.hid hs; have HR := Lib.hid hr; have HK3 := Lib.hid hk3
  have hbw := hF _ hbF
  have hj0 : (0 : Int) ≤ j := by omega
  have hj1 : (j : Int) < m.nodes.length := by omega
  clear h hT hs hr hk3 d0 d1 d2 d3 d4 d6 hje
  have HB0 := Lib.hid ((Below.refl w.heap.size w).alloc (Nat.le_refl _) (.cells #[.int .i64 m.next, .slice (some ⟨b, off, none⟩) m.nodes.length c] 24))
  have HM0 := Lib.hid (Blk.new w 24 #[.int .i64 m.next, .slice (some ⟨b, off, none⟩) m.nodes.length c])
  replace d5 := cell_alloc d5 (.cells #[.int .i64 m.next, .slice (some ⟨b, off, none⟩) m.nodes.length c] 24)
  go_enter Try.func118, Try.ntmps118
  go_wp2_with fail
  obtain ⟨wr, hwr⟩ : ∃ u : World, w.alloc (.cells #[.int .i64 m.next, .slice (some ⟨b, off, none⟩) m.nodes.length c] 24) = u := ⟨_, rfl⟩
  rw [hwr] at HB0 HM0 d5
  (try rw [hwr])
  clear hwr
  have m0 := HM0.out.cell 0; have m1 := HM0.out.cell 1
  have hmlt := HM0.out.lt
  simp at m0 m1
  have CP := Lib.hid (fun (d : Nat) (os : Array Obj) => Calls.regrown_of (w := wr) (d := d) (os := os) (by
    have hbg := HB0.out.trans ((below_regrown wr d os).mono HB0.out.size)
    have := place_any (some ⟨b, off, none⟩) c m.next x.id m.nodes (Sort.grow (redrawn wr d) os) F (fun b hb' => Nat.lt_of_lt_of_le (hF b hb') hbg.size) (HH.out.keep ENode.stays (Keep.below hbg hF) (fun _ h => h)) HS.out hidr hl
    rw [hat] at this; exact this))
  have k0 := cell_regrown m0; have k1 := cell_regrown m1; have k5 := cell_regrown d5
  clear m0 m1 d5
  refine wp_region_quiet_below (by kernel_rfl) (by kernel_rfl) ?_
  repeat (first | go_big_quiet_step (exact CP.out _ _) | quiet_step (exact CP.out _ _))
  refine wpQuiet_nil ?_
  intro _ hw'
  obtain ⟨⟨dq, osq⟩, hw''⟩ := hw'
  subst hw''
  have HB1 := Lib.hid (HB0.out.trans ((below_regrown wr dq osq).mono HB0.out.size))
  have HM1 := Lib.hid (HM0.out.below (below_regrown wr dq osq) hmlt)
  clear k0 k1 k5 CP
  obtain ⟨u1, hu1⟩ : ∃ u : World, Sort.grow (redrawn wr dq) osq = u := ⟨_, rfl⟩
  rw [hu1] at HB1 HM1 ⊢
  clear hu1 HB0 HM0 hmlt
  have m0 := HM1.out.cell 0; have m1 := HM1.out.cell 1
  have hmlt := HM1.out.lt
  simp at m0 m1
  have CP := Lib.hid (fun (d : Nat) (os : Array Obj) => Calls.regrown_of (w := u1) (d := d) (os := os) (by
    have hbg := HB1.out.trans ((below_regrown u1 d os).mono HB1.out.size)
    have := place_any (some ⟨b, off, none⟩) c m.next x.id m.nodes (Sort.grow (redrawn u1 d) os) F (fun b hb' => Nat.lt_of_lt_of_le (hF b hb') hbg.size) (HH.out.keep ENode.stays (Keep.below hbg hF) (fun _ h => h)) HS.out hidr hl
    rw [hat] at this; exact this))
  have k0 := cell_regrown m0; have k1 := cell_regrown m1
  clear m0 m1
  go_wp2_with fail
  refine wp_region_quiet_below_tail 5 (by kernel_rfl) (by kernel_rfl) ?_
  simp only [List.take_succ_cons, List.take_zero, List.drop_succ_cons, List.drop_zero]
  repeat (first | go_big_quiet_step (exact CP.out _ _) | quiet_step (exact CP.out _ _))
  refine wpQuiet_nil ?_
  intro _ hw'
  obtain ⟨⟨dq, osq⟩, hw''⟩ := hw'
  subst hw''
  have HB2 := Lib.hid (HB1.out.trans ((below_regrown u1 dq osq).mono HB1.out.size))
  clear k0 k1 CP HB1
  obtain ⟨u2, hu2⟩ : ∃ u : World, Sort.grow (redrawn u1 dq) osq = u := ⟨_, rfl⟩
  rw [hu2] at HB2 ⊢
  clear hu2
  go_wp2_with fail
  refine (in_fam (some ⟨b, off, none⟩) c m u2 F (fun b hb => Nat.lt_of_lt_of_le (hF b hb) HB2.out.size) (HH.out.keep ENode.stays (Keep.below HB2.out hF) (fun _ h => h)) HT.out HS.out HR.out hl j hj x HJE.out hk4 role).mono ?_
  rintro _ w4 ⟨v4, rfl, hown, hb4⟩
  obtain ⟨Al, cl, rfl⟩ := hown.shape
  have HL4 := Lib.hid (OwnI.row hown).1
  have HB4 := Lib.hid (HB2.out.trans (hb4.mono HB2.out.size))
  clear hown hb4
  have HSUB := Lib.hid (inL_sub (m := m) (x := x) (role := role))
  have hll := inL_len (m := m) (x := x) (role := role)
  obtain ⟨l, hl0⟩ : ∃ l, inL m x role = l := ⟨_, rfl⟩
  have HLI := Lib.hid hl0
  rw [hl0] at HL4 HSUB hll
  (try rw [hl0])
  (try simp only [hl0])
  clear hl0
  have HKR := Lib.hid (HK3.out.keep EInt.stays (Keep.below HB4.out hF) (F' := F) (fun _ h => h))
  have hkl : x.kids.length ≤ 9223372036854775807 := by omega
  clear HK3
  have ha1 := ha.1; have ha2 := ha.2
  by_cases h1 : a < 0
  · have E := Lib.hid (spotI_no (kids := x.kids) (l := l) (Or.inl h1))
    have h1' : decide (a < 0) = true := decide_eq_true h1
    go_wp2
    go_ret2
    exact ⟨by rw [HLI.out, E.out]; rfl, HB4.out⟩
  · have h1' : decide (a < 0) = false := decide_eq_false h1
    by_cases h2 : (l.length : Int) < a
    · have E := Lib.hid (spotI_no (kids := x.kids) (l := l) (Or.inr h2))
      have h2' : decide ((l.length : Int) < a) = true := decide_eq_true h2
      go_wp2
      go_ret2
      exact ⟨by rw [HLI.out, E.out]; rfl, HB4.out⟩
    · have h2' : decide ((l.length : Int) < a) = false := decide_eq_false h2
      obtain ⟨q, rfl⟩ : ∃ q : Nat, a = q := ⟨a.toNat, by omega⟩
      have hq0 : (0 : Int) ≤ q := by omega
      by_cases h3 : q < l.length
      · have E := Lib.hid (spotI_at (kids := x.kids) h3)
        obtain ⟨b2, off2, rfl, hb2, e0⟩ := int_at HL4.out h3
        have h3' : decide ((q : Int) < l.length) = true := decide_eq_true (by omega)
        have h3'' : (q : Int) < l.length := by omega
        go_wp2_with fail
        refine (sindex_any Sk ck x.kids l[q] w4 F HKR.out hkl).mono ?_
        rintro _ w6 ⟨rfl, hb6⟩
        go_wp2
        go_ret2
        exact ⟨by rw [HLI.out, E.out]; rfl, HB4.out.trans (hb6.mono HB4.out.size)⟩
      · have h3' : decide ((q : Int) < l.length) = false := decide_eq_false (by omega)
        have hql : q = l.length := by omega
        subst hql
        by_cases h4 : 0 < l.length
        · have E := Lib.hid (spotI_last (kids := x.kids) h4)
          obtain ⟨b2, off2, rfl, hb2, e0⟩ := int_at HL4.out (i := l.length - 1) (by omega)
          have h4' : decide ((0 : Int) < l.length) = true := decide_eq_true (by omega)
          have g1 : IntKind.i64.wrap ((l.length : Int) - 1) = ((l.length - 1 : Nat) : Int) := by rw [IntKind.wrap_i64]; omega
          have g2 : (0 : Int) ≤ ((l.length - 1 : Nat) : Int) := by omega
          have g3 : ((l.length - 1 : Nat) : Int) < l.length := by omega
          have g4 : ((l.length : Int) - 1) = ((l.length - 1 : Nat) : Int) := by omega
          obtain ⟨q, hq⟩ : ∃ q, l.length - 1 = q := ⟨_, rfl⟩
          have hql' : q < l.length := by omega
          have hix := idxI_le x.kids (l[q])
          have g5 : IntKind.i64.wrap (idxI x.kids l[q] + 1) = idxI x.kids l[q] + 1 := by rw [IntKind.wrap_i64]; omega
          simp only [hq] at E e0 g1 g2 g3 g4
          have HG1 := Lib.hid g1; have HG4 := Lib.hid g4
          clear g4
          go_wp2_with fail
          refine (sindex_any Sk ck x.kids l[q] w4 F HKR.out hkl).mono ?_
          rintro _ w6 ⟨rfl, hb6⟩
          go_wp2
          go_ret2
          exact ⟨by rw [HLI.out, E.out]; rfl, HB4.out.trans (hb6.mono HB4.out.size)⟩
        · have hl0 : l.length = 0 := by omega
          have E := Lib.hid (spotI_all (kids := x.kids) hl0)
          have HL0 := Lib.hid hl0
          have h4' : decide ((0 : Int) < l.length) = false := decide_eq_false (by omega)
          go_wp2
          go_ret2
          exact ⟨by rw [HLI.out]; (try rw [HL0.out]); (try rw [show ((0 : Nat) : Int) = 0 from rfl]); rw [E.out]; rfl, HB4.out⟩

end Go.Proofs.Ytmafhaadcjgcbaa
end
section
namespace Go.Proofs.Ytmafhaadcjgcbaa
open Go Go.RowKit

/-- what bars a place among the roots -/
def rootE (role : ByteArray) (a : Int) : Int := if role.size = 0 ∧ a = 0 then 0 else 22
/-- what bars a place below a node that stands so deep, for a node so high -/
def kidE (sp : Option Int) (d high : Int) : Int := if sp.isSome = true then (if 64 < d + high then 23 else 0) else 22
theorem rootE_yes {role : ByteArray} {a : Int} (h : role.size = 0) (h2 : a = 0) : rootE role a = 0 := if_pos ⟨h, h2⟩
theorem rootE_no {role : ByteArray} {a : Int} (h : ¬ (role.size = 0 ∧ a = 0)) : rootE role a = 22 := if_neg h
theorem kidE_none {d high : Int} : kidE none d high = 22 := rfl
theorem kidE_deep {i d high : Int} (h : 64 < d + high) : kidE (some i) d high = 23 := by unfold kidE; simp [h]
theorem kidE_ok {i d high : Int} (h : ¬ 64 < d + high) : kidE (some i) d high = 0 := by unfold kidE; simp [h]

set_option maxRecDepth 100000 in
set_option maxHeartbeats 1000000 in
theorem goalRoot_any (nx : Int) (A : Option Addr) (n c : Nat) (w : World) (role : ByteArray) (a high : Int) :
    Calls Try.prog 81 #[.agg #[.int .i64 nx, .slice A n c], .int .i64 0, .string role, .int .i64 a, .int .i64 high] w fun e w' => e = .returned (.int .i64 (rootE role a)) ∧ Below w.heap.size w w' := by
  have HB := Lib.hid ((Below.refl w.heap.size w).alloc (Nat.le_refl _) (.cells #[.int .i64 nx, .slice A n c] 24))
  have g0 : ((0 : Int) == 0) = true := by decide
  cases hr0 : role.toList.isEmpty
  · have E := Lib.hid (rootE_no (role := role) (a := a) (fun h => nonempty_size hr0 h.1))
    have hr1 : (!role.toList.isEmpty) = true := by rw [hr0]; rfl
    clear hr0
    go_enter Try.func81, Try.ntmps81
    go_wp2
    go_ret
    exact ⟨by rw [E.out]; rfl, HB.out⟩
  · have hr1 : (!role.toList.isEmpty) = false := by rw [hr0]; rfl
    cases ha0 : (a != 0)
    · have E := Lib.hid (rootE_yes (role := role) (a := a) (empty_size hr0) (by simpa using ha0))
      clear hr0
      go_enter Try.func81, Try.ntmps81
      go_wp2
      go_ret
      exact ⟨by rw [E.out]; rfl, HB.out⟩
    · have E := Lib.hid (rootE_no (role := role) (a := a) (fun h => by simp [h.2] at ha0))
      clear hr0
      go_enter Try.func81, Try.ntmps81
      go_wp2
      go_ret
      exact ⟨by rw [E.out]; rfl, HB.out⟩

set_option maxRecDepth 100000 in
set_option maxHeartbeats 2000000 in
theorem goalKid_any (A : Option Addr) (c : Nat) (m : AModel) (w : World) (F : Nat → Prop) (hF : ∀ b, F b → b < w.heap.size) (h : RowOf 7 ENode w F A m.nodes) (hT : Tree m) (hs : SrtB m.nodes) (hrp : ∀ x ∈ m.nodes, InR x.parent) (hr : ∀ x ∈ m.nodes, ∀ k ∈ x.kids, InR k) (hl : m.nodes.length ≤ 1048576) (j : Nat) (hj : j < m.nodes.length) (x : ANode) (hje : m.nodes[j] = x) (hk4 : x.kids.length ≤ 4096) (role : ByteArray) (a : Int) (ha : InR a) (d : Nat) (hd : Dep m d x.id) (hd6 : d ≤ 64) (high : Int) (hh : 0 ≤ high ∧ high ≤ 1048576) :
    Calls Try.prog 81 #[.agg #[.int .i64 m.next, .slice A m.nodes.length c], .int .i64 x.id, .string role, .int .i64 a, .int .i64 high] w fun e w' => e = .returned (.int .i64 (kidE (spotI x.kids (inL m x role) a) d high)) ∧ Below w.heap.size w w' := by
  have HB0 := Lib.hid ((Below.refl w.heap.size w).alloc (Nat.le_refl _) (.cells #[.int .i64 m.next, .slice A m.nodes.length c] 24))
  have HM0 := Lib.hid (Blk.new w 24 #[.int .i64 m.next, .slice A m.nodes.length c])
  have hx : x ∈ m.nodes := by rw [← hje]; exact List.getElem_mem hj
  have hpos := id_pos hT.ids hx
  have g0 : (x.id == 0) = false := beq_eq_false_iff_ne.2 (by omega)
  have HH := Lib.hid h
  have HSP := Lib.hid (spot_any A c m (w.alloc (.cells #[.int .i64 m.next, .slice A m.nodes.length c] 24)) F (fun b hb => Nat.lt_of_lt_of_le (hF b hb) HB0.out.size) (h.keep ENode.stays (Keep.below HB0.out hF) (fun _ h => h)) hT.fam hs hr hl j hj x hje hk4 role a ha)
  have HT := Lib.hid hT; have HS := Lib.hid hs; have HRP := Lib.hid hrp; have HX := Lib.hid hx; have HD := Lib.hid hd
  have g1 : IntKind.i64.wrap ((d : Int) + high) = d + high := by rw [IntKind.wrap_i64]; omega
  clear h hT hs hrp hr hje hx hd hpos
  rcases hsp : spotI x.kids (inL m x role) a with _ | i
  · have hsp2 := HSP.out
    rw [hsp] at hsp2
    have HSP2 := Lib.hid hsp2
    have E := Lib.hid hsp
    clear hsp hsp2 HSP
    go_enter Try.func81, Try.ntmps81
    go_wp2_with fail
    refine HSP2.out.mono ?_
    rintro _ w1 ⟨rfl, hb1⟩
    have HB1 := Lib.hid (HB0.out.trans (hb1.mono HB0.out.size))
    clear hb1
    have q1 : decide ((-1 : Int) < 0) = true := by decide
    simp only [Option.getD_none, Option.isSome_none]
    go_wp2
    go_ret
    exact ⟨by first | rfl | (rw [E.out]; rfl), HB1.out⟩
  · have hsp2 := HSP.out
    rw [hsp] at hsp2
    have HSP2 := Lib.hid hsp2
    have E := Lib.hid hsp
    have hi0 : 0 ≤ i := (spotI_le inL_sub hsp).1
    clear hsp hsp2 HSP
    go_enter Try.func81, Try.ntmps81
    go_wp2_with fail
    refine HSP2.out.mono ?_
    rintro _ w1 ⟨rfl, hb1⟩
    have HB1 := Lib.hid (HB0.out.trans (hb1.mono HB0.out.size))
    have hm1 := HM0.out.below hb1 (by simp)
    have m0 := hm1.cell 0; have m1 := hm1.cell 1
    have hmlt := hm1.lt
    simp at m0 m1
    clear hb1 hm1
    simp only [Option.getD_some, Option.isSome_some]
    have q1 : decide (i < 0) = false := decide_eq_false (by omega)
    go_wp2_with fail
    refine (deep_any A c m w1 F (fun b hb => Nat.lt_of_lt_of_le (hF b hb) HB1.out.size) (HH.out.keep ENode.stays (Keep.below HB1.out hF) (fun _ h => h)) HT.out HS.out HRP.out hl x HX.out d HD.out hd6).mono ?_
    rintro _ w2 ⟨rfl, hb2⟩
    have HB2 := Lib.hid (HB1.out.trans (hb2.mono HB1.out.size))
    clear hb2
    by_cases hdeep : 64 < (d : Int) + high
    · have K := Lib.hid (kidE_deep (i := i) hdeep)
      have q2 : decide (64 < (d : Int) + high) = true := decide_eq_true hdeep
      clear hdeep
      go_wp2
      go_ret
      exact ⟨by first | (rw [K.out]; rfl) | (rw [E.out, K.out]; rfl), HB2.out⟩
    · have K := Lib.hid (kidE_ok (i := i) hdeep)
      have q2 : decide (64 < (d : Int) + high) = false := decide_eq_false hdeep
      clear hdeep
      go_wp2
      go_ret
      exact ⟨by first | (rw [K.out]; rfl) | (rw [E.out, K.out]; rfl), HB2.out⟩

end Go.Proofs.Ytmafhaadcjgcbaa
end
