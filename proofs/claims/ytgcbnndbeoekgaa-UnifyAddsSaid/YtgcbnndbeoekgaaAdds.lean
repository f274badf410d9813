import Derived.Test.YtgcbnndbeoekgaaUAdd
import Derived.Test.YtgcbnndbeoekgaaRAdd
import Derived.Test.YtgcbnndbeoekgaaRegZ
import Derived.Test.YtgcbnndbeoekgaaNarrow
import Derived.Test.YtgcbnndbeoekgaaOwnB
import Derived.Test.YtgcbnndbeoekgaaSameB
import Derived.Test.YtgcbnndbeoekgaaData15
set_option linter.unusedSimpArgs false
set_option linter.unusedVariables false
/- the law: two more terms that are to be alike make of any bound just the one that the chapter says -/
namespace Go.Proofs.Ytgcbnndbeoekgaa
open Go Go.RowKit Go.Maps

theorem binds_set {w : World} {q : Nat} {v x u : Value} {l : List ABind} (h : IsRow 2 EBind w (fun b => b < w.heap.size) v l) {A : Option Addr} {n c : Nat} (hx : x = .slice A n c) (hq : Blk w q 24 #[x]) : IsRow 2 EBind (w.setCell ⟨q, 0, none⟩ u) (fun b => b < (w.setCell ⟨q, 0, none⟩ u).heap.size) v l := by
  subst hx
  obtain ⟨Ac, cc, hc0, hc1, hc2, hc3⟩ := h
  exact ⟨Ac, cc, hc0, hc1, hc2, (binds_avoid hc3 (slice_noint hq)).keep EBind.stays (keep_far (p := ⟨q, 0, none⟩) (fun b h => h.2) _) (fun b h => by simpa using h.1)⟩
theorem terms_set {w : World} {q : Nat} {v x u : Value} {l : List TN} (h : IsRow 3 ETN w (fun b => b < w.heap.size) v l) {A : Option Addr} {n c : Nat} (hx : x = .slice A n c) (hq : Blk w q 24 #[x]) : IsRow 3 ETN (w.setCell ⟨q, 0, none⟩ u) (fun b => b < (w.setCell ⟨q, 0, none⟩ u).heap.size) v l := by
  subst hx
  obtain ⟨Ac, cc, hc0, hc1, hc2, hc3⟩ := h
  exact ⟨Ac, cc, hc0, hc1, hc2, (nodes_avoid hc3 (slice_noint hq)).keep ETN.stays (keep_far (p := ⟨q, 0, none⟩) (fun b h => h.2) _) (fun b h => by simpa using h.1)⟩

/-- what is in memory while the copies are made -/
structure AS (w : World) (A1 : Option Addr) (c1 : Nat) (A2 : Option Addr) (c2 : Nat) (bd : List ABind) (l1 l2 : List TN) (u : World) (oc z1 z2 : Option Value) (p1 p2 : Option Nat) : Prop where
  b : Below w.heap.size w u
  x : Blk u w.heap.size 24 #[.slice A1 l1.length c1]
  y : Blk u (w.heap.size + 1) 24 #[.slice A2 l2.length c2]
  c : ∀ v, oc = some v → IsRow 2 EBind u (fun b => b < u.heap.size) v bd
  t1 : ∀ v, z1 = some v → IsRow 3 ETN u (fun b => b < u.heap.size) v l1
  t2 : ∀ v, z2 = some v → IsRow 3 ETN u (fun b => b < u.heap.size) v l2
  q1 : ∀ q, p1 = some q → Blk u q 24 #[.slice none 0 0] ∧ w.heap.size + 1 < q
  q2 : ∀ q, p2 = some q → Blk u q 24 #[.slice none 0 0] ∧ w.heap.size + 1 < q
  ne : ∀ q q', p1 = some q → p2 = some q' → q ≠ q'
section
variable {w u u' : World} {A1 A2 : Option Addr} {c1 c2 : Nat} {bd : List ABind} {l1 l2 : List TN} {oc z1 z2 : Option Value} {p1 p2 : Option Nat}
theorem AS.call (h : AS w A1 c1 A2 c2 bd l1 l2 u oc z1 z2 p1 p2) (hb : Below u.heap.size u u') : AS w A1 c1 A2 c2 bd l1 l2 u' oc z1 z2 p1 p2 :=
  ⟨h.b.trans (hb.mono h.b.size), h.x.below hb h.x.lt, h.y.below hb h.y.lt, fun v e => (h.c v e).keep EBind.stays (Keep.below hb (fun b h => h)) (fun b h => Nat.lt_of_lt_of_le h hb.size), fun v e => (h.t1 v e).keep ETN.stays (Keep.below hb (fun b h => h)) (fun b h => Nat.lt_of_lt_of_le h hb.size), fun v e => (h.t2 v e).keep ETN.stays (Keep.below hb (fun b h => h)) (fun b h => Nat.lt_of_lt_of_le h hb.size), fun q e => ⟨(h.q1 q e).1.below hb (h.q1 q e).1.lt, (h.q1 q e).2⟩, fun q e => ⟨(h.q2 q e).1.below hb (h.q2 q e).1.lt, (h.q2 q e).2⟩, h.ne⟩
theorem AS.setc (h : AS w A1 c1 A2 c2 bd l1 l2 u oc z1 z2 p1 p2) {v : Value} (hr : IsRow 2 EBind u' (fun b => u.heap.size ≤ b ∧ b < u'.heap.size) v bd) (hb : Below u.heap.size u u') : AS w A1 c1 A2 c2 bd l1 l2 u' (some v) z1 z2 p1 p2 :=
  { h.call hb with c := fun v' e => by cases e; exact hr.keep EBind.stays (Keep.refl _ _) (fun b h => h.2) }
theorem AS.set1 (h : AS w A1 c1 A2 c2 bd l1 l2 u oc z1 z2 p1 p2) {v : Value} (hr : IsRow 3 ETN u' (fun b => u.heap.size ≤ b ∧ b < u'.heap.size) v l1) (hb : Below u.heap.size u u') : AS w A1 c1 A2 c2 bd l1 l2 u' oc (some v) z2 p1 p2 :=
  { h.call hb with t1 := fun v' e => by cases e; exact hr.keep ETN.stays (Keep.refl _ _) (fun b h => h.2) }
theorem AS.set2 (h : AS w A1 c1 A2 c2 bd l1 l2 u oc z1 z2 p1 p2) {v : Value} (hr : IsRow 3 ETN u' (fun b => u.heap.size ≤ b ∧ b < u'.heap.size) v l2) (hb : Below u.heap.size u u') : AS w A1 c1 A2 c2 bd l1 l2 u' oc z1 (some v) p1 p2 :=
  { h.call hb with t2 := fun v' e => by cases e; exact hr.keep ETN.stays (Keep.refl _ _) (fun b h => h.2) }
theorem AS.all1 (h : AS w A1 c1 A2 c2 bd l1 l2 u oc z1 z2 none p2) : AS w A1 c1 A2 c2 bd l1 l2 (u.alloc (.cells #[.slice none 0 0] 24)) oc z1 z2 (some u.heap.size) p2 :=
  { h.call ((Below.refl _ _).alloc (Nat.le_refl _) _) with
    q1 := fun q e => by cases e; exact ⟨Blk.new _ _ _, h.y.lt⟩
    ne := fun q q' e e' => by cases e; exact Ne.symm (Nat.ne_of_lt (h.q2 q' e').1.lt) }
theorem AS.all2 (h : AS w A1 c1 A2 c2 bd l1 l2 u oc z1 z2 p1 none) : AS w A1 c1 A2 c2 bd l1 l2 (u.alloc (.cells #[.slice none 0 0] 24)) oc z1 z2 p1 (some u.heap.size) :=
  { h.call ((Below.refl _ _).alloc (Nat.le_refl _) _) with
    q2 := fun q e => by cases e; exact ⟨Blk.new _ _ _, h.y.lt⟩
    ne := fun q q' e e' => by cases e'; exact Nat.ne_of_lt (h.q1 q e).1.lt }
theorem AS.held (h : AS w A1 c1 A2 c2 bd l1 l2 u oc z1 z2 p1 p2) : u.cell? ⟨w.heap.size, 0, none⟩ = some (.slice A1 l1.length c1) ∧ u.cell? ⟨w.heap.size + 1, 0, none⟩ = some (.slice A2 l2.length c2) := by
  have a := h.x.cell 0; have b := h.y.cell 0
  simp at a b
  exact ⟨a, b⟩
/-- both copies are stored -/
structure AD (w : World) (A1 : Option Addr) (c1 : Nat) (A2 : Option Addr) (c2 : Nat) (bd : List ABind) (l1 l2 : List TN) (u : World) (cv z1 z2 : Value) (m1 m2 : Nat) (x1 x2 : Value) : Prop where
  b : Below w.heap.size w u
  x : Blk u w.heap.size 24 #[.slice A1 l1.length c1]
  y : Blk u (w.heap.size + 1) 24 #[.slice A2 l2.length c2]
  q1 : Blk u m1 24 #[x1]
  q2 : Blk u m2 24 #[x2]
  c : IsRow 2 EBind u (fun b => b < u.heap.size) cv bd
  t1 : IsRow 3 ETN u (fun b => b < u.heap.size) z1 l1
  t2 : IsRow 3 ETN u (fun b => b < u.heap.size) z2 l2
  far : w.heap.size + 1 < m1 ∧ w.heap.size + 1 < m2 ∧ m1 ≠ m2
theorem AS.ad {cv v1 v2 : Value} {a b : Nat} (h : AS w A1 c1 A2 c2 bd l1 l2 u (some cv) (some v1) (some v2) (some a) (some b)) : AD w A1 c1 A2 c2 bd l1 l2 u cv v1 v2 a b (.slice none 0 0) (.slice none 0 0) :=
  ⟨h.b, h.x, h.y, (h.q1 a rfl).1, (h.q2 b rfl).1, h.c cv rfl, h.t1 v1 rfl, h.t2 v2 rfl, (h.q1 a rfl).2, (h.q2 b rfl).2, h.ne a b rfl rfl⟩
theorem AD.held {cv v1 v2 x1 x2 : Value} {a b : Nat} (h : AD w A1 c1 A2 c2 bd l1 l2 u cv v1 v2 a b x1 x2) : u.cell? ⟨w.heap.size, 0, none⟩ = some (.slice A1 l1.length c1) ∧ u.cell? ⟨w.heap.size + 1, 0, none⟩ = some (.slice A2 l2.length c2) := by
  have a := h.x.cell 0; have b := h.y.cell 0
  simp at a b
  exact ⟨a, b⟩
theorem AD.st1 {cv v1 v2 x2 : Value} {a b : Nat} (h : AD w A1 c1 A2 c2 bd l1 l2 u cv v1 v2 a b (.slice none 0 0) x2) (z : Value) : AD w A1 c1 A2 c2 bd l1 l2 (u.setCell ⟨a, 0, none⟩ z) cv v1 v2 a b z x2 := by
  have hf := h.far
  exact ⟨h.b.setCell (p := ⟨a, 0, none⟩) (by show w.heap.size ≤ a; omega) _, h.x.far (p := ⟨a, 0, none⟩) (by show w.heap.size ≠ a; omega) _, h.y.far (p := ⟨a, 0, none⟩) (by show w.heap.size + 1 ≠ a; omega) _, by simpa using h.q1.set_ 0 z, h.q2.far (p := ⟨a, 0, none⟩) (Ne.symm hf.2.2) _, binds_set h.c rfl h.q1, terms_set h.t1 rfl h.q1, terms_set h.t2 rfl h.q1, hf⟩
theorem AD.st2 {cv v1 v2 x1 : Value} {a b : Nat} (h : AD w A1 c1 A2 c2 bd l1 l2 u cv v1 v2 a b x1 (.slice none 0 0)) (z : Value) : AD w A1 c1 A2 c2 bd l1 l2 (u.setCell ⟨b, 0, none⟩ z) cv v1 v2 a b x1 z := by
  have hf := h.far
  exact ⟨h.b.setCell (p := ⟨b, 0, none⟩) (by show w.heap.size ≤ b; omega) _, h.x.far (p := ⟨b, 0, none⟩) (by show w.heap.size ≠ b; omega) _, h.y.far (p := ⟨b, 0, none⟩) (by show w.heap.size + 1 ≠ b; omega) _, h.q1.far (p := ⟨b, 0, none⟩) hf.2.2 _, by simpa using h.q2.set_ 0 z, binds_set h.c rfl h.q2, terms_set h.t1 rfl h.q2, terms_set h.t2 rfl h.q2, hf⟩
end

set_option maxRecDepth 100000 in
set_option maxHeartbeats 16000000 in
theorem adds_any (v0 u1 u2 : Value) (bd : List ABind) (l1 l2 : List TN) (w : World) (hr0 : IsRow 2 EBind w (fun b => b < w.heap.size) v0 bd) (hx1 : IsRow 3 ETN w (fun b => b < w.heap.size) u1 l1) (hx2 : IsRow 3 ETN w (fun b => b < w.heap.size) u2 l2) (hz : ∀ x ∈ bd, TermAll x.term) (hzl1 : TermAll l1) (hzl2 : TermAll l2) :
    Calls Try.prog 5 #[v0, .agg #[u1], .agg #[u2]] w fun e w' => e = .returned (.bool true) ∧ Below w.heap.size w w' := by
  obtain ⟨A0, c0, rfl, b1, b2, hrb⟩ := hr0
  obtain ⟨A1, c1, rfl, a1, a2, hr1⟩ := hx1
  obtain ⟨A2, c2, rfl, d1, d2, hr2⟩ := hx2
  have HRB := Lib.hid hrb; have HR1 := Lib.hid hr1; have HR2 := Lib.hid hr2; have HZ := Lib.hid hz; have HZ1 := Lib.hid hzl1; have HZ2 := Lib.hid hzl2
  have HCM : Hid (c0 ≤ maxLen ∧ c1 ≤ maxLen ∧ c2 ≤ maxLen) := Lib.hid ⟨b2, a2, d2⟩
  have HLE : Hid (bd.length ≤ c0 ∧ l1.length ≤ c1 ∧ l2.length ≤ c2) := Lib.hid ⟨b1, a1, d1⟩
  unfold maxLen at a2 b2 d2
  have HLB : Hid (∀ n ∈ lensOf [l1.length, l2.length] bd, n ≤ 140737488355328) := Lib.hid (lens_le (fun n hn => by
    simp only [List.mem_cons, List.not_mem_nil, or_false] at hn
    have h1 := hzl1.2; have h2 := hzl2.2
    rcases hn with rfl | rfl <;> omega) (by omega) (fun x hx => by have := (hz x hx).2; omega))
  have HLL : Hid ((lensOf [l1.length, l2.length] bd).length ≤ 4000) := Lib.hid (by have := lensTo_len [l1.length, l2.length] bd 1000; simp at this; unfold lensOf; omega)
  have HNARROW := Lib.hid (narrow (ns := [l1.length, l2.length]) (b := bd))
  clear hrb hr1 hr2 hz hzl1 hzl2
  go_enter Try.func5, Try.ntmps5
  obtain ⟨w0, hw0⟩ : ∃ x : World, ((w.alloc (.cells #[.slice A1 l1.length c1] 24)).alloc (.cells #[.slice A2 l2.length c2] 24)).alloc (.cells #[.slice A1 l1.length c1, .slice A2 l2.length c2] 24) = x := ⟨_, rfl⟩
  have HB0 : Hid (Below w.heap.size w w0) := Lib.hid (by rw [← hw0]; exact (((Below.refl w.heap.size w).alloc (Nat.le_refl _) _).alloc (by simp) _).alloc (by simp; omega) _)
  have HX0 : Hid (Blk w0 w.heap.size 24 #[.slice A1 l1.length c1]) := Lib.hid (by rw [← hw0]; exact ((Blk.new w 24 #[.slice A1 l1.length c1]).alloc _).alloc _)
  have HY0 : Hid (Blk w0 (w.heap.size + 1) 24 #[.slice A2 l2.length c2]) := Lib.hid (by rw [← hw0]; exact (Blk.new' (w := w.alloc (.cells #[.slice A1 l1.length c1] 24)) (by simp)).alloc _)
  have HW0 : Hid (w0.heap.size = w.heap.size + 3) := Lib.hid (by rw [← hw0]; simp)
  have HT : Hid (Calls Try.prog 11 #[.slice A0 bd.length c0, .slice (some ⟨w.heap.size + 1 + 1, 0, none⟩) 2 2] w0 fun e w' => ∃ v, e = .returned v ∧ LenRow w' w0.heap.size v (lensOf [l1.length, l2.length] bd) ∧ Below w0.heap.size w0 w') := Lib.hid (by
    have := terms_any A0 c0 bd w0 (fun b => b < w.heap.size) (fun b h => Nat.lt_of_lt_of_le h HB0.out.size) (HRB.out.keep EBind.stays (Keep.below HB0.out (fun b h => h)) (fun _ h => h)) b1 HCM.out.1 (w.heap.size + 1 + 1) [.slice A1 l1.length c1, .slice A2 l2.length c2] [l1.length, l2.length] (by rw [← hw0]; exact Blk.new' (by simp)) (.cons ⟨_, _, rfl⟩ (.cons ⟨_, _, rfl⟩ .nil)) (by simp) 2
    simpa using this)
  have HWE := Lib.hid hw0
  clear hw0
  go_wp2_with fail
  (try rw [HWE.out])
  refine HT.out.mono ?_
  rintro _ w1 ⟨v1, rfl, hv1, hb1⟩
  have HB1 : Hid (Below w.heap.size w w1) := Lib.hid (HB0.out.trans (hb1.mono HB0.out.size))
  have HX1 := Lib.hid (HX0.out.below hb1 HX0.out.lt); have HY1 := Lib.hid (HY0.out.below hb1 HY0.out.lt)
  have HV1 := Lib.hid (wide_any v1 (lensOf [l1.length, l2.length] bd) w1 _ hv1 HLB.out HLL.out)
  clear hv1 hb1 HT HB0 HX0 HY0 HLB HLL HWE HW0
  by_cases hw : 400 < (lensOf [l1.length, l2.length] bd).sum
  · have HD : Hid (decide (400 < (lensOf [l1.length, l2.length] bd).sum) = true) := Lib.hid (decide_eq_true hw)
    rw [HD.out] at HV1
    clear hw
    go_wp2_with (go_at_call 10; refine HV1.out.mono ?_; rintro e w' ⟨rfl, rfl⟩)
    go_ret
    exact ⟨rfl, HB1.out⟩
  have HD : Hid (decide (400 < (lensOf [l1.length, l2.length] bd).sum) = false) := Lib.hid (decide_eq_false hw)
  obtain ⟨n1, n2, n3⟩ := HNARROW.out hw
  have hl41 : l1.length ≤ 400 := n1 _ (by simp)
  have hl42 : l2.length ≤ 400 := n1 _ (by simp)
  have HN3 := Lib.hid n3
  rw [HD.out] at HV1
  clear hw n1 n3 HNARROW
  go_upto_region 3 with (go_at_call 10; refine HV1.out.mono ?_; rintro e w' ⟨rfl, rfl⟩)
  have HOWN : Hid (∀ w', Below w.heap.size w w' → Calls Try.prog 12 #[.slice A0 bd.length c0] w' fun e w2 => ∃ v, e = .returned v ∧ IsRow 2 EBind w2 (fun b => w'.heap.size ≤ b ∧ b < w2.heap.size) v bd ∧ Below w'.heap.size w' w2) := Lib.hid (fun w' hb => own_any A0 c0 bd w' (fun b => b < w.heap.size) (fun b h => Nat.lt_of_lt_of_le h hb.size) (HRB.out.keep EBind.stays (Keep.below hb (fun b h => h)) (fun _ h => h)) HLE.out.1 HCM.out.1 (by omega) (fun x hx => ⟨by have := HN3.out x hx; omega, fun t ht => ((HZ.out x hx).1 t ht).2.2⟩))
  have HCPY1 : Hid (∀ w', Below w.heap.size w w' → Calls Try.prog 13 #[.agg #[.slice A1 l1.length c1]] w' fun e w2 => ∃ v, e = .returned (.agg #[v]) ∧ IsRow 3 ETN w2 (fun b => w'.heap.size ≤ b ∧ b < w2.heap.size) v l1 ∧ Below w'.heap.size w' w2) := Lib.hid (fun w' hb => rcopyT_any A1 c1 l1 w' (fun b => b < w.heap.size) (fun b h => Nat.lt_of_lt_of_le h hb.size) (HR1.out.keep ETN.stays (Keep.below hb (fun b h => h)) (fun _ h => h)) HLE.out.2.1 HCM.out.2.1 (by omega) (fun t ht => (HZ1.out.1 t ht).2.2))
  have HCPY2 : Hid (∀ w', Below w.heap.size w w' → Calls Try.prog 13 #[.agg #[.slice A2 l2.length c2]] w' fun e w2 => ∃ v, e = .returned (.agg #[v]) ∧ IsRow 3 ETN w2 (fun b => w'.heap.size ≤ b ∧ b < w2.heap.size) v l2 ∧ Below w'.heap.size w' w2) := Lib.hid (fun w' hb => rcopyT_any A2 c2 l2 w' (fun b => b < w.heap.size) (fun b h => Nat.lt_of_lt_of_le h hb.size) (HR2.out.keep ETN.stays (Keep.below hb (fun b h => h)) (fun _ h => h)) HLE.out.2.2 HCM.out.2.2 (by omega) (fun t ht => (HZ2.out.1 t ht).2.2))
  -- HD2 : Hid (∀ w', Blk w' w.heap.size 24 #[.slice A1 l1.length c1] → Blk w' (w.heap.size + 1) 24 #[.slice A2 l2.length c2] → w'.cell? ⟨w.heap.size, 0, none⟩ = some (.slice A1 l1.length c1) ∧ w'.cell? ⟨w.heap.size + 1, 0, none⟩ = some (.slice A2 l2.length c2)) := Lib.hid (fun w' h h2 => by have c0 := h.cell 0; have c1 := h2.cell 0; simp at c0 c1; exact ⟨c0, c1⟩)
  clear HV1
  go_cut [7, 8, 9] (fun s7 s8 s9 wx => ∃ q1 q2 z1 z2, s8 = .pointer (some ⟨q1, 0, none⟩) ∧ s9 = .pointer (some ⟨q2, 0, none⟩) ∧ Below w.heap.size w wx ∧ Blk wx w.heap.size 24 #[.slice A1 l1.length c1] ∧ Blk wx (w.heap.size + 1) 24 #[.slice A2 l2.length c2] ∧ Blk wx q1 24 #[z1] ∧ Blk wx q2 24 #[z2] ∧ IsRow 2 EBind wx (fun b => b < wx.heap.size) s7 bd ∧ IsRow 3 ETN wx (fun b => b < wx.heap.size) z1 l1 ∧ IsRow 3 ETN wx (fun b => b < wx.heap.size) z2 l2)
  case first =>
    obtain ⟨u, hu⟩ : ∃ u : World, w1.drew = u := ⟨_, rfl⟩
    have hbu : Below w1.heap.size w1 u := by rw [← hu]; exact (Below.refl _ _).drew
    have HU : Hid (AS w A1 c1 A2 c2 bd l1 l2 u none none none none none) := Lib.hid ⟨HB1.out.trans (hbu.mono HB1.out.size), HX1.out.below hbu HX1.out.lt, HY1.out.below hbu HY1.out.lt, fun v e => (by cases e), fun v e => (by cases e), fun v e => (by cases e), fun v e => (by cases e), fun v e => (by cases e), fun v v' e => (by cases e)⟩
    clear hbu HB1 HX1 HY1
    refine wp_region_Y (S := (fun w' : World => w'.cell? ⟨w.heap.size, 0, none⟩ = some (.slice A1 l1.length c1) ∧ w'.cell? ⟨w.heap.size + 1, 0, none⟩ = some (.slice A2 l2.length c2))) 10 (by kernel_rfl) (by rw [hu]; exact HU.out.held) (fun hHeld => ?_)
    rw [hu] at hHeld ⊢
    clear hu
    refine wpAnyY_take (i := 0) (v := ?_) rfl (by kernel_rfl) (by kernel_rfl) (by kernel_rfl) (by kernel_rfl) (fun _ _ _ h => h) (Or.inl ⟨by rfl, ?_⟩) (by assumption) ?_
    rotate_left 1
    · (intro w' hSw; obtain ⟨s0, s1⟩ := hSw; go_simp); try with_reducible rfl
    try simp only [Act.put, List.setIfInBounds_toArray, List.set_cons_zero, List.set_cons_succ, Nat.zero_add]
    refine wpAnyY_take (i := 2) (v := ?_) rfl (by kernel_rfl) (by kernel_rfl) (by kernel_rfl) (by kernel_rfl) (fun _ _ _ h => h) (Or.inl ⟨by rfl, ?_⟩) (by assumption) ?_
    rotate_left 1
    · (intro w' hSw; obtain ⟨s0, s1⟩ := hSw; go_simp); try with_reducible rfl
    try simp only [Act.put, List.setIfInBounds_toArray, List.set_cons_zero, List.set_cons_succ, Nat.zero_add]
    refine wpAnyY_take (i := 4) (v := ?_) rfl (by kernel_rfl) (by kernel_rfl) (by kernel_rfl) (by kernel_rfl) (fun _ _ _ h => h) (Or.inl ⟨by rfl, ?_⟩) (by assumption) ?_
    rotate_left 1
    · (intro w' hSw; obtain ⟨s0, s1⟩ := hSw; go_simp); try with_reducible rfl
    try simp only [Act.put, List.setIfInBounds_toArray, List.set_cons_zero, List.set_cons_succ, Nat.zero_add]
    refine wpAnyY_three (i := 1) (j := 6) (m := 7) rfl rfl rfl (by kernel_rfl) (fun K hK => ?_) (fun K hK => ?_) (fun K hK => ?_)
    · go_simp
      refine (HOWN.out _ HU.out.b).mono ?_
      rintro _ v1 ⟨e1, rfl, hr, hb⟩
      have HV1 : Hid (AS w A1 c1 A2 c2 bd l1 l2 v1 (some e1) none none none none) := Lib.hid (HU.out.setc hr hb)
      clear hr hb HU
      refine hK.out _ _ (fun _ => HV1.out.held) ?_
      have hhV1 := HV1.out.held
      clear hK K
      try simp only [Act.put, List.setIfInBounds_toArray, List.set_cons_zero, List.set_cons_succ, Nat.zero_add]
      refine wpAnyY_three (i := 3) (j := 6) (m := 7) rfl rfl rfl (by kernel_rfl) (fun K hK => ?_) (fun K hK => ?_) (fun K hK => ?_)
      · go_simp
        refine (HCPY1.out _ HV1.out.b).mono ?_
        rintro _ v2 ⟨e2, rfl, hr, hb⟩
        obtain ⟨a2, b2, e, hq⟩ := hr
        subst e
        have HV2 : Hid (AS w A1 c1 A2 c2 bd l1 l2 v2 (some e1) (some (.slice a2 l1.length b2)) none none none) := Lib.hid (HV1.out.set1 ⟨_, _, rfl, hq⟩ hb)
        clear hq hb HV1
        refine hK.out _ _ (fun _ => HV2.out.held) ?_
        have hhV2 := HV2.out.held
        clear hK K
        try simp only [Act.put, List.setIfInBounds_toArray, List.set_cons_zero, List.set_cons_succ, Nat.zero_add]
        refine wpAnyY_three (i := 5) (j := 6) (m := 7) rfl rfl rfl (by kernel_rfl) (fun K hK => ?_) (fun K hK => ?_) (fun K hK => ?_)
        · go_simp
          refine (HCPY2.out _ HV2.out.b).mono ?_
          rintro _ v3 ⟨e3, rfl, hr, hb⟩
          obtain ⟨a3, b3, e, hq⟩ := hr
          subst e
          have HV3 : Hid (AS w A1 c1 A2 c2 bd l1 l2 v3 (some e1) (some (.slice a2 l1.length b2)) (some (.slice a3 l2.length b3)) none none) := Lib.hid (HV2.out.set2 ⟨_, _, rfl, hq⟩ hb)
          clear hq hb HV2
          refine hK.out _ _ (fun _ => HV3.out.held) ?_
          have hhV3 := HV3.out.held
          clear hK K
          try simp only [Act.put, List.setIfInBounds_toArray, List.set_cons_zero, List.set_cons_succ, Nat.zero_add]
          refine wpAnyY_two (i := 6) (j := 7) rfl rfl (by kernel_rfl) (fun K hK => ?_) (fun K hK => ?_)
          · go_simp
            obtain ⟨q4, hq⟩ : ∃ q, v3.heap.size = q := ⟨_, rfl⟩
            obtain ⟨v4, hn⟩ : ∃ x : World, v3.alloc (.cells #[.slice none 0 0] 24) = x := ⟨_, rfl⟩
            have HV4 : Hid (AS w A1 c1 A2 c2 bd l1 l2 v4 (some e1) (some (.slice a2 l1.length b2)) (some (.slice a3 l2.length b3)) (some q4) none) := Lib.hid (by rw [← hn, ← hq]; exact HV3.out.all1)
            rw [hn]
            try rw [hq]
            clear hn hq HV3
            refine hK.out _ _ (fun _ => HV4.out.held) ?_
            have hhV4 := HV4.out.held
            clear hK K
            try simp only [Act.put, List.setIfInBounds_toArray, List.set_cons_zero, List.set_cons_succ, Nat.zero_add]
            refine wpAnyY_one (i := 7) rfl (by kernel_rfl) (fun K hK => ?_)
            go_simp
            obtain ⟨q5, hq⟩ : ∃ q, v4.heap.size = q := ⟨_, rfl⟩
            obtain ⟨v5, hn⟩ : ∃ x : World, v4.alloc (.cells #[.slice none 0 0] 24) = x := ⟨_, rfl⟩
            have HV5 : Hid (AS w A1 c1 A2 c2 bd l1 l2 v5 (some e1) (some (.slice a2 l1.length b2)) (some (.slice a3 l2.length b3)) (some q4) (some q5)) := Lib.hid (by rw [← hn, ← hq]; exact HV4.out.all2)
            rw [hn]
            try rw [hq]
            clear hn hq HV4
            refine hK.out _ _ (fun _ => HV5.out.held) ?_
            have hhV5 := HV5.out.held
            clear hK K
            try simp only [Act.put, List.setIfInBounds_toArray, List.set_cons_zero, List.set_cons_succ, Nat.zero_add]
            refine wpAnyY_one (i := 8) rfl (by kernel_rfl) (fun K hK => ?_)
            go_simp
            refine hK.out _ _ (fun _ => HV5.out.held) ?_
            have D0 := Lib.hid HV5.out.ad
            clear HV5
            clear hK K
            try simp only [Act.put, List.setIfInBounds_toArray, List.set_cons_zero, List.set_cons_succ, Nat.zero_add]
            refine wpAnyY_one (i := 9) rfl (by kernel_rfl) (fun K hK => ?_)
            have d := D0.out.q1.cell 0; have f := D0.out.q1.frozen 0; have g := D0.out.q1.lt
            simp at d
            go_simp
            clear d f g
            obtain ⟨v7, hn⟩ : ∃ x : World, v5.setCell ⟨q4, 0, none⟩ (.slice a2 l1.length b2) = x := ⟨_, rfl⟩
            have D1 := Lib.hid (D0.out.st1 (.slice a2 l1.length b2))
            rw [hn] at D1 ⊢
            clear hn D0
            refine hK.out _ _ (fun _ => D1.out.held) ?_
            have hh1 := D1.out.held
            clear hK K
            try simp only [Act.put, List.setIfInBounds_toArray, List.set_cons_zero, List.set_cons_succ, Nat.zero_add]
            refine wpAnyY_one0 (i := 10) rfl (by kernel_rfl) (by kernel_rfl) (fun K hK => ?_)
            have d := D1.out.q2.cell 0; have f := D1.out.q2.frozen 0; have g := D1.out.q2.lt
            simp at d
            go_simp
            clear d f g
            obtain ⟨v8, hn⟩ : ∃ x : World, v7.setCell ⟨q5, 0, none⟩ (.slice a3 l2.length b3) = x := ⟨_, rfl⟩
            have D2 := Lib.hid (D1.out.st2 (.slice a3 l2.length b3))
            rw [hn] at D2 ⊢
            clear hn D1
            refine hK.out _ _ ?_
            clear hK K
            try simp only [Act.put, List.setIfInBounds_toArray, List.set_cons_zero, List.set_cons_succ, Nat.zero_add]
            refine wpAnyY_done (by kernel_rfl) ?_ _
            go_wp2_with fail
            go_meet
            case rel => exact ⟨_, _, _, _, rfl, rfl, D2.out.b, D2.out.x, D2.out.y, D2.out.q1, D2.out.q2, D2.out.c, D2.out.t1, D2.out.t2⟩
          · go_simp
            obtain ⟨q9, hq⟩ : ∃ q, v3.heap.size = q := ⟨_, rfl⟩
            obtain ⟨v9, hn⟩ : ∃ x : World, v3.alloc (.cells #[.slice none 0 0] 24) = x := ⟨_, rfl⟩
            have HV9 : Hid (AS w A1 c1 A2 c2 bd l1 l2 v9 (some e1) (some (.slice a2 l1.length b2)) (some (.slice a3 l2.length b3)) none (some q9)) := Lib.hid (by rw [← hn, ← hq]; exact HV3.out.all2)
            rw [hn]
            try rw [hq]
            clear hn hq HV3
            refine hK.out _ _ (fun _ => HV9.out.held) ?_
            have hhV9 := HV9.out.held
            clear hK K
            try simp only [Act.put, List.setIfInBounds_toArray, List.set_cons_zero, List.set_cons_succ, Nat.zero_add]
            refine wpAnyY_one (i := 6) rfl (by kernel_rfl) (fun K hK => ?_)
            go_simp
            obtain ⟨q10, hq⟩ : ∃ q, v9.heap.size = q := ⟨_, rfl⟩
            obtain ⟨v10, hn⟩ : ∃ x : World, v9.alloc (.cells #[.slice none 0 0] 24) = x := ⟨_, rfl⟩
            have HV10 : Hid (AS w A1 c1 A2 c2 bd l1 l2 v10 (some e1) (some (.slice a2 l1.length b2)) (some (.slice a3 l2.length b3)) (some q10) (some q9)) := Lib.hid (by rw [← hn, ← hq]; exact HV9.out.all1)
            rw [hn]
            try rw [hq]
            clear hn hq HV9
            refine hK.out _ _ (fun _ => HV10.out.held) ?_
            have hhV10 := HV10.out.held
            clear hK K
            try simp only [Act.put, List.setIfInBounds_toArray, List.set_cons_zero, List.set_cons_succ, Nat.zero_add]
            refine wpAnyY_one (i := 8) rfl (by kernel_rfl) (fun K hK => ?_)
            go_simp
            refine hK.out _ _ (fun _ => HV10.out.held) ?_
            have D0 := Lib.hid HV10.out.ad
            clear HV10
            clear hK K
            try simp only [Act.put, List.setIfInBounds_toArray, List.set_cons_zero, List.set_cons_succ, Nat.zero_add]
            refine wpAnyY_one (i := 9) rfl (by kernel_rfl) (fun K hK => ?_)
            have d := D0.out.q1.cell 0; have f := D0.out.q1.frozen 0; have g := D0.out.q1.lt
            simp at d
            go_simp
            clear d f g
            obtain ⟨v12, hn⟩ : ∃ x : World, v10.setCell ⟨q10, 0, none⟩ (.slice a2 l1.length b2) = x := ⟨_, rfl⟩
            have D1 := Lib.hid (D0.out.st1 (.slice a2 l1.length b2))
            rw [hn] at D1 ⊢
            clear hn D0
            refine hK.out _ _ (fun _ => D1.out.held) ?_
            have hh1 := D1.out.held
            clear hK K
            try simp only [Act.put, List.setIfInBounds_toArray, List.set_cons_zero, List.set_cons_succ, Nat.zero_add]
            refine wpAnyY_one0 (i := 10) rfl (by kernel_rfl) (by kernel_rfl) (fun K hK => ?_)
            have d := D1.out.q2.cell 0; have f := D1.out.q2.frozen 0; have g := D1.out.q2.lt
            simp at d
            go_simp
            clear d f g
            obtain ⟨v13, hn⟩ : ∃ x : World, v12.setCell ⟨q9, 0, none⟩ (.slice a3 l2.length b3) = x := ⟨_, rfl⟩
            have D2 := Lib.hid (D1.out.st2 (.slice a3 l2.length b3))
            rw [hn] at D2 ⊢
            clear hn D1
            refine hK.out _ _ ?_
            clear hK K
            try simp only [Act.put, List.setIfInBounds_toArray, List.set_cons_zero, List.set_cons_succ, Nat.zero_add]
            refine wpAnyY_done (by kernel_rfl) ?_ _
            go_wp2_with fail
            go_meet
            case rel => exact ⟨_, _, _, _, rfl, rfl, D2.out.b, D2.out.x, D2.out.y, D2.out.q1, D2.out.q2, D2.out.c, D2.out.t1, D2.out.t2⟩
        · go_simp
          obtain ⟨q14, hq⟩ : ∃ q, v2.heap.size = q := ⟨_, rfl⟩
          obtain ⟨v14, hn⟩ : ∃ x : World, v2.alloc (.cells #[.slice none 0 0] 24) = x := ⟨_, rfl⟩
          have HV14 : Hid (AS w A1 c1 A2 c2 bd l1 l2 v14 (some e1) (some (.slice a2 l1.length b2)) none (some q14) none) := Lib.hid (by rw [← hn, ← hq]; exact HV2.out.all1)
          rw [hn]
          try rw [hq]
          clear hn hq HV2
          refine hK.out _ _ (fun _ => HV14.out.held) ?_
          have hhV14 := HV14.out.held
          clear hK K
          try simp only [Act.put, List.setIfInBounds_toArray, List.set_cons_zero, List.set_cons_succ, Nat.zero_add]
          refine wpAnyY_two (i := 5) (j := 7) rfl rfl (by kernel_rfl) (fun K hK => ?_) (fun K hK => ?_)
          · go_simp
            refine (HCPY2.out _ HV14.out.b).mono ?_
            rintro _ v15 ⟨e15, rfl, hr, hb⟩
            obtain ⟨a15, b15, e, hq⟩ := hr
            subst e
            have HV15 : Hid (AS w A1 c1 A2 c2 bd l1 l2 v15 (some e1) (some (.slice a2 l1.length b2)) (some (.slice a15 l2.length b15)) (some q14) none) := Lib.hid (HV14.out.set2 ⟨_, _, rfl, hq⟩ hb)
            clear hq hb HV14
            refine hK.out _ _ (fun _ => HV15.out.held) ?_
            have hhV15 := HV15.out.held
            clear hK K
            try simp only [Act.put, List.setIfInBounds_toArray, List.set_cons_zero, List.set_cons_succ, Nat.zero_add]
            refine wpAnyY_one (i := 7) rfl (by kernel_rfl) (fun K hK => ?_)
            go_simp
            obtain ⟨q16, hq⟩ : ∃ q, v15.heap.size = q := ⟨_, rfl⟩
            obtain ⟨v16, hn⟩ : ∃ x : World, v15.alloc (.cells #[.slice none 0 0] 24) = x := ⟨_, rfl⟩
            have HV16 : Hid (AS w A1 c1 A2 c2 bd l1 l2 v16 (some e1) (some (.slice a2 l1.length b2)) (some (.slice a15 l2.length b15)) (some q14) (some q16)) := Lib.hid (by rw [← hn, ← hq]; exact HV15.out.all2)
            rw [hn]
            try rw [hq]
            clear hn hq HV15
            refine hK.out _ _ (fun _ => HV16.out.held) ?_
            have hhV16 := HV16.out.held
            clear hK K
            try simp only [Act.put, List.setIfInBounds_toArray, List.set_cons_zero, List.set_cons_succ, Nat.zero_add]
            refine wpAnyY_one (i := 8) rfl (by kernel_rfl) (fun K hK => ?_)
            go_simp
            refine hK.out _ _ (fun _ => HV16.out.held) ?_
            have D0 := Lib.hid HV16.out.ad
            clear HV16
            clear hK K
            try simp only [Act.put, List.setIfInBounds_toArray, List.set_cons_zero, List.set_cons_succ, Nat.zero_add]
            refine wpAnyY_one (i := 9) rfl (by kernel_rfl) (fun K hK => ?_)
            have d := D0.out.q1.cell 0; have f := D0.out.q1.frozen 0; have g := D0.out.q1.lt
            simp at d
            go_simp
            clear d f g
            obtain ⟨v18, hn⟩ : ∃ x : World, v16.setCell ⟨q14, 0, none⟩ (.slice a2 l1.length b2) = x := ⟨_, rfl⟩
            have D1 := Lib.hid (D0.out.st1 (.slice a2 l1.length b2))
            rw [hn] at D1 ⊢
            clear hn D0
            refine hK.out _ _ (fun _ => D1.out.held) ?_
            have hh1 := D1.out.held
            clear hK K
            try simp only [Act.put, List.setIfInBounds_toArray, List.set_cons_zero, List.set_cons_succ, Nat.zero_add]
            refine wpAnyY_one0 (i := 10) rfl (by kernel_rfl) (by kernel_rfl) (fun K hK => ?_)
            have d := D1.out.q2.cell 0; have f := D1.out.q2.frozen 0; have g := D1.out.q2.lt
            simp at d
            go_simp
            clear d f g
            obtain ⟨v19, hn⟩ : ∃ x : World, v18.setCell ⟨q16, 0, none⟩ (.slice a15 l2.length b15) = x := ⟨_, rfl⟩
            have D2 := Lib.hid (D1.out.st2 (.slice a15 l2.length b15))
            rw [hn] at D2 ⊢
            clear hn D1
            refine hK.out _ _ ?_
            clear hK K
            try simp only [Act.put, List.setIfInBounds_toArray, List.set_cons_zero, List.set_cons_succ, Nat.zero_add]
            refine wpAnyY_done (by kernel_rfl) ?_ _
            go_wp2_with fail
            go_meet
            case rel => exact ⟨_, _, _, _, rfl, rfl, D2.out.b, D2.out.x, D2.out.y, D2.out.q1, D2.out.q2, D2.out.c, D2.out.t1, D2.out.t2⟩
          · go_simp
            obtain ⟨q20, hq⟩ : ∃ q, v14.heap.size = q := ⟨_, rfl⟩
            obtain ⟨v20, hn⟩ : ∃ x : World, v14.alloc (.cells #[.slice none 0 0] 24) = x := ⟨_, rfl⟩
            have HV20 : Hid (AS w A1 c1 A2 c2 bd l1 l2 v20 (some e1) (some (.slice a2 l1.length b2)) none (some q14) (some q20)) := Lib.hid (by rw [← hn, ← hq]; exact HV14.out.all2)
            rw [hn]
            try rw [hq]
            clear hn hq HV14
            refine hK.out _ _ (fun _ => HV20.out.held) ?_
            have hhV20 := HV20.out.held
            clear hK K
            try simp only [Act.put, List.setIfInBounds_toArray, List.set_cons_zero, List.set_cons_succ, Nat.zero_add]
            refine wpAnyY_one (i := 5) rfl (by kernel_rfl) (fun K hK => ?_)
            go_simp
            refine (HCPY2.out _ HV20.out.b).mono ?_
            rintro _ v21 ⟨e21, rfl, hr, hb⟩
            obtain ⟨a21, b21, e, hq⟩ := hr
            subst e
            have HV21 : Hid (AS w A1 c1 A2 c2 bd l1 l2 v21 (some e1) (some (.slice a2 l1.length b2)) (some (.slice a21 l2.length b21)) (some q14) (some q20)) := Lib.hid (HV20.out.set2 ⟨_, _, rfl, hq⟩ hb)
            clear hq hb HV20
            refine hK.out _ _ (fun _ => HV21.out.held) ?_
            have hhV21 := HV21.out.held
            clear hK K
            try simp only [Act.put, List.setIfInBounds_toArray, List.set_cons_zero, List.set_cons_succ, Nat.zero_add]
            refine wpAnyY_one (i := 8) rfl (by kernel_rfl) (fun K hK => ?_)
            go_simp
            refine hK.out _ _ (fun _ => HV21.out.held) ?_
            have D0 := Lib.hid HV21.out.ad
            clear HV21
            clear hK K
            try simp only [Act.put, List.setIfInBounds_toArray, List.set_cons_zero, List.set_cons_succ, Nat.zero_add]
            refine wpAnyY_one (i := 9) rfl (by kernel_rfl) (fun K hK => ?_)
            have d := D0.out.q1.cell 0; have f := D0.out.q1.frozen 0; have g := D0.out.q1.lt
            simp at d
            go_simp
            clear d f g
            obtain ⟨v23, hn⟩ : ∃ x : World, v21.setCell ⟨q14, 0, none⟩ (.slice a2 l1.length b2) = x := ⟨_, rfl⟩
            have D1 := Lib.hid (D0.out.st1 (.slice a2 l1.length b2))
            rw [hn] at D1 ⊢
            clear hn D0
            refine hK.out _ _ (fun _ => D1.out.held) ?_
            have hh1 := D1.out.held
            clear hK K
            try simp only [Act.put, List.setIfInBounds_toArray, List.set_cons_zero, List.set_cons_succ, Nat.zero_add]
            refine wpAnyY_one0 (i := 10) rfl (by kernel_rfl) (by kernel_rfl) (fun K hK => ?_)
            have d := D1.out.q2.cell 0; have f := D1.out.q2.frozen 0; have g := D1.out.q2.lt
            simp at d
            go_simp
            clear d f g
            obtain ⟨v24, hn⟩ : ∃ x : World, v23.setCell ⟨q20, 0, none⟩ (.slice a21 l2.length b21) = x := ⟨_, rfl⟩
            have D2 := Lib.hid (D1.out.st2 (.slice a21 l2.length b21))
            rw [hn] at D2 ⊢
            clear hn D1
            refine hK.out _ _ ?_
            clear hK K
            try simp only [Act.put, List.setIfInBounds_toArray, List.set_cons_zero, List.set_cons_succ, Nat.zero_add]
            refine wpAnyY_done (by kernel_rfl) ?_ _
            go_wp2_with fail
            go_meet
            case rel => exact ⟨_, _, _, _, rfl, rfl, D2.out.b, D2.out.x, D2.out.y, D2.out.q1, D2.out.q2, D2.out.c, D2.out.t1, D2.out.t2⟩
        · go_simp
          obtain ⟨q25, hq⟩ : ∃ q, v2.heap.size = q := ⟨_, rfl⟩
          obtain ⟨v25, hn⟩ : ∃ x : World, v2.alloc (.cells #[.slice none 0 0] 24) = x := ⟨_, rfl⟩
          have HV25 : Hid (AS w A1 c1 A2 c2 bd l1 l2 v25 (some e1) (some (.slice a2 l1.length b2)) none none (some q25)) := Lib.hid (by rw [← hn, ← hq]; exact HV2.out.all2)
          rw [hn]
          try rw [hq]
          clear hn hq HV2
          refine hK.out _ _ (fun _ => HV25.out.held) ?_
          have hhV25 := HV25.out.held
          clear hK K
          try simp only [Act.put, List.setIfInBounds_toArray, List.set_cons_zero, List.set_cons_succ, Nat.zero_add]
          refine wpAnyY_two (i := 5) (j := 6) rfl rfl (by kernel_rfl) (fun K hK => ?_) (fun K hK => ?_)
          · go_simp
            refine (HCPY2.out _ HV25.out.b).mono ?_
            rintro _ v26 ⟨e26, rfl, hr, hb⟩
            obtain ⟨a26, b26, e, hq⟩ := hr
            subst e
            have HV26 : Hid (AS w A1 c1 A2 c2 bd l1 l2 v26 (some e1) (some (.slice a2 l1.length b2)) (some (.slice a26 l2.length b26)) none (some q25)) := Lib.hid (HV25.out.set2 ⟨_, _, rfl, hq⟩ hb)
            clear hq hb HV25
            refine hK.out _ _ (fun _ => HV26.out.held) ?_
            have hhV26 := HV26.out.held
            clear hK K
            try simp only [Act.put, List.setIfInBounds_toArray, List.set_cons_zero, List.set_cons_succ, Nat.zero_add]
            refine wpAnyY_one (i := 6) rfl (by kernel_rfl) (fun K hK => ?_)
            go_simp
            obtain ⟨q27, hq⟩ : ∃ q, v26.heap.size = q := ⟨_, rfl⟩
            obtain ⟨v27, hn⟩ : ∃ x : World, v26.alloc (.cells #[.slice none 0 0] 24) = x := ⟨_, rfl⟩
            have HV27 : Hid (AS w A1 c1 A2 c2 bd l1 l2 v27 (some e1) (some (.slice a2 l1.length b2)) (some (.slice a26 l2.length b26)) (some q27) (some q25)) := Lib.hid (by rw [← hn, ← hq]; exact HV26.out.all1)
            rw [hn]
            try rw [hq]
            clear hn hq HV26
            refine hK.out _ _ (fun _ => HV27.out.held) ?_
            have hhV27 := HV27.out.held
            clear hK K
            try simp only [Act.put, List.setIfInBounds_toArray, List.set_cons_zero, List.set_cons_succ, Nat.zero_add]
            refine wpAnyY_one (i := 8) rfl (by kernel_rfl) (fun K hK => ?_)
            go_simp
            refine hK.out _ _ (fun _ => HV27.out.held) ?_
            have D0 := Lib.hid HV27.out.ad
            clear HV27
            clear hK K
            try simp only [Act.put, List.setIfInBounds_toArray, List.set_cons_zero, List.set_cons_succ, Nat.zero_add]
            refine wpAnyY_one (i := 9) rfl (by kernel_rfl) (fun K hK => ?_)
            have d := D0.out.q1.cell 0; have f := D0.out.q1.frozen 0; have g := D0.out.q1.lt
            simp at d
            go_simp
            clear d f g
            obtain ⟨v29, hn⟩ : ∃ x : World, v27.setCell ⟨q27, 0, none⟩ (.slice a2 l1.length b2) = x := ⟨_, rfl⟩
            have D1 := Lib.hid (D0.out.st1 (.slice a2 l1.length b2))
            rw [hn] at D1 ⊢
            clear hn D0
            refine hK.out _ _ (fun _ => D1.out.held) ?_
            have hh1 := D1.out.held
            clear hK K
            try simp only [Act.put, List.setIfInBounds_toArray, List.set_cons_zero, List.set_cons_succ, Nat.zero_add]
            refine wpAnyY_one0 (i := 10) rfl (by kernel_rfl) (by kernel_rfl) (fun K hK => ?_)
            have d := D1.out.q2.cell 0; have f := D1.out.q2.frozen 0; have g := D1.out.q2.lt
            simp at d
            go_simp
            clear d f g
            obtain ⟨v30, hn⟩ : ∃ x : World, v29.setCell ⟨q25, 0, none⟩ (.slice a26 l2.length b26) = x := ⟨_, rfl⟩
            have D2 := Lib.hid (D1.out.st2 (.slice a26 l2.length b26))
            rw [hn] at D2 ⊢
            clear hn D1
            refine hK.out _ _ ?_
            clear hK K
            try simp only [Act.put, List.setIfInBounds_toArray, List.set_cons_zero, List.set_cons_succ, Nat.zero_add]
            refine wpAnyY_done (by kernel_rfl) ?_ _
            go_wp2_with fail
            go_meet
            case rel => exact ⟨_, _, _, _, rfl, rfl, D2.out.b, D2.out.x, D2.out.y, D2.out.q1, D2.out.q2, D2.out.c, D2.out.t1, D2.out.t2⟩
          · go_simp
            obtain ⟨q31, hq⟩ : ∃ q, v25.heap.size = q := ⟨_, rfl⟩
            obtain ⟨v31, hn⟩ : ∃ x : World, v25.alloc (.cells #[.slice none 0 0] 24) = x := ⟨_, rfl⟩
            have HV31 : Hid (AS w A1 c1 A2 c2 bd l1 l2 v31 (some e1) (some (.slice a2 l1.length b2)) none (some q31) (some q25)) := Lib.hid (by rw [← hn, ← hq]; exact HV25.out.all1)
            rw [hn]
            try rw [hq]
            clear hn hq HV25
            refine hK.out _ _ (fun _ => HV31.out.held) ?_
            have hhV31 := HV31.out.held
            clear hK K
            try simp only [Act.put, List.setIfInBounds_toArray, List.set_cons_zero, List.set_cons_succ, Nat.zero_add]
            refine wpAnyY_one (i := 5) rfl (by kernel_rfl) (fun K hK => ?_)
            go_simp
            refine (HCPY2.out _ HV31.out.b).mono ?_
            rintro _ v32 ⟨e32, rfl, hr, hb⟩
            obtain ⟨a32, b32, e, hq⟩ := hr
            subst e
            have HV32 : Hid (AS w A1 c1 A2 c2 bd l1 l2 v32 (some e1) (some (.slice a2 l1.length b2)) (some (.slice a32 l2.length b32)) (some q31) (some q25)) := Lib.hid (HV31.out.set2 ⟨_, _, rfl, hq⟩ hb)
            clear hq hb HV31
            refine hK.out _ _ (fun _ => HV32.out.held) ?_
            have hhV32 := HV32.out.held
            clear hK K
            try simp only [Act.put, List.setIfInBounds_toArray, List.set_cons_zero, List.set_cons_succ, Nat.zero_add]
            refine wpAnyY_one (i := 8) rfl (by kernel_rfl) (fun K hK => ?_)
            go_simp
            refine hK.out _ _ (fun _ => HV32.out.held) ?_
            have D0 := Lib.hid HV32.out.ad
            clear HV32
            clear hK K
            try simp only [Act.put, List.setIfInBounds_toArray, List.set_cons_zero, List.set_cons_succ, Nat.zero_add]
            refine wpAnyY_one (i := 9) rfl (by kernel_rfl) (fun K hK => ?_)
            have d := D0.out.q1.cell 0; have f := D0.out.q1.frozen 0; have g := D0.out.q1.lt
            simp at d
            go_simp
            clear d f g
            obtain ⟨v34, hn⟩ : ∃ x : World, v32.setCell ⟨q31, 0, none⟩ (.slice a2 l1.length b2) = x := ⟨_, rfl⟩
            have D1 := Lib.hid (D0.out.st1 (.slice a2 l1.length b2))
            rw [hn] at D1 ⊢
            clear hn D0
            refine hK.out _ _ (fun _ => D1.out.held) ?_
            have hh1 := D1.out.held
            clear hK K
            try simp only [Act.put, List.setIfInBounds_toArray, List.set_cons_zero, List.set_cons_succ, Nat.zero_add]
            refine wpAnyY_one0 (i := 10) rfl (by kernel_rfl) (by kernel_rfl) (fun K hK => ?_)
            have d := D1.out.q2.cell 0; have f := D1.out.q2.frozen 0; have g := D1.out.q2.lt
            simp at d
            go_simp
            clear d f g
            obtain ⟨v35, hn⟩ : ∃ x : World, v34.setCell ⟨q25, 0, none⟩ (.slice a32 l2.length b32) = x := ⟨_, rfl⟩
            have D2 := Lib.hid (D1.out.st2 (.slice a32 l2.length b32))
            rw [hn] at D2 ⊢
            clear hn D1
            refine hK.out _ _ ?_
            clear hK K
            try simp only [Act.put, List.setIfInBounds_toArray, List.set_cons_zero, List.set_cons_succ, Nat.zero_add]
            refine wpAnyY_done (by kernel_rfl) ?_ _
            go_wp2_with fail
            go_meet
            case rel => exact ⟨_, _, _, _, rfl, rfl, D2.out.b, D2.out.x, D2.out.y, D2.out.q1, D2.out.q2, D2.out.c, D2.out.t1, D2.out.t2⟩
      · go_simp
        obtain ⟨q36, hq⟩ : ∃ q, v1.heap.size = q := ⟨_, rfl⟩
        obtain ⟨v36, hn⟩ : ∃ x : World, v1.alloc (.cells #[.slice none 0 0] 24) = x := ⟨_, rfl⟩
        have HV36 : Hid (AS w A1 c1 A2 c2 bd l1 l2 v36 (some e1) none none (some q36) none) := Lib.hid (by rw [← hn, ← hq]; exact HV1.out.all1)
        rw [hn]
        try rw [hq]
        clear hn hq HV1
        refine hK.out _ _ (fun _ => HV36.out.held) ?_
        have hhV36 := HV36.out.held
        clear hK K
        try simp only [Act.put, List.setIfInBounds_toArray, List.set_cons_zero, List.set_cons_succ, Nat.zero_add]
        refine wpAnyY_two (i := 3) (j := 7) rfl rfl (by kernel_rfl) (fun K hK => ?_) (fun K hK => ?_)
        · go_simp
          refine (HCPY1.out _ HV36.out.b).mono ?_
          rintro _ v37 ⟨e37, rfl, hr, hb⟩
          obtain ⟨a37, b37, e, hq⟩ := hr
          subst e
          have HV37 : Hid (AS w A1 c1 A2 c2 bd l1 l2 v37 (some e1) (some (.slice a37 l1.length b37)) none (some q36) none) := Lib.hid (HV36.out.set1 ⟨_, _, rfl, hq⟩ hb)
          clear hq hb HV36
          refine hK.out _ _ (fun _ => HV37.out.held) ?_
          have hhV37 := HV37.out.held
          clear hK K
          try simp only [Act.put, List.setIfInBounds_toArray, List.set_cons_zero, List.set_cons_succ, Nat.zero_add]
          refine wpAnyY_two (i := 5) (j := 7) rfl rfl (by kernel_rfl) (fun K hK => ?_) (fun K hK => ?_)
          · go_simp
            refine (HCPY2.out _ HV37.out.b).mono ?_
            rintro _ v38 ⟨e38, rfl, hr, hb⟩
            obtain ⟨a38, b38, e, hq⟩ := hr
            subst e
            have HV38 : Hid (AS w A1 c1 A2 c2 bd l1 l2 v38 (some e1) (some (.slice a37 l1.length b37)) (some (.slice a38 l2.length b38)) (some q36) none) := Lib.hid (HV37.out.set2 ⟨_, _, rfl, hq⟩ hb)
            clear hq hb HV37
            refine hK.out _ _ (fun _ => HV38.out.held) ?_
            have hhV38 := HV38.out.held
            clear hK K
            try simp only [Act.put, List.setIfInBounds_toArray, List.set_cons_zero, List.set_cons_succ, Nat.zero_add]
            refine wpAnyY_one (i := 7) rfl (by kernel_rfl) (fun K hK => ?_)
            go_simp
            obtain ⟨q39, hq⟩ : ∃ q, v38.heap.size = q := ⟨_, rfl⟩
            obtain ⟨v39, hn⟩ : ∃ x : World, v38.alloc (.cells #[.slice none 0 0] 24) = x := ⟨_, rfl⟩
            have HV39 : Hid (AS w A1 c1 A2 c2 bd l1 l2 v39 (some e1) (some (.slice a37 l1.length b37)) (some (.slice a38 l2.length b38)) (some q36) (some q39)) := Lib.hid (by rw [← hn, ← hq]; exact HV38.out.all2)
            rw [hn]
            try rw [hq]
            clear hn hq HV38
            refine hK.out _ _ (fun _ => HV39.out.held) ?_
            have hhV39 := HV39.out.held
            clear hK K
            try simp only [Act.put, List.setIfInBounds_toArray, List.set_cons_zero, List.set_cons_succ, Nat.zero_add]
            refine wpAnyY_one (i := 8) rfl (by kernel_rfl) (fun K hK => ?_)
            go_simp
            refine hK.out _ _ (fun _ => HV39.out.held) ?_
            have D0 := Lib.hid HV39.out.ad
            clear HV39
            clear hK K
            try simp only [Act.put, List.setIfInBounds_toArray, List.set_cons_zero, List.set_cons_succ, Nat.zero_add]
            refine wpAnyY_one (i := 9) rfl (by kernel_rfl) (fun K hK => ?_)
            have d := D0.out.q1.cell 0; have f := D0.out.q1.frozen 0; have g := D0.out.q1.lt
            simp at d
            go_simp
            clear d f g
            obtain ⟨v41, hn⟩ : ∃ x : World, v39.setCell ⟨q36, 0, none⟩ (.slice a37 l1.length b37) = x := ⟨_, rfl⟩
            have D1 := Lib.hid (D0.out.st1 (.slice a37 l1.length b37))
            rw [hn] at D1 ⊢
            clear hn D0
            refine hK.out _ _ (fun _ => D1.out.held) ?_
            have hh1 := D1.out.held
            clear hK K
            try simp only [Act.put, List.setIfInBounds_toArray, List.set_cons_zero, List.set_cons_succ, Nat.zero_add]
            refine wpAnyY_one0 (i := 10) rfl (by kernel_rfl) (by kernel_rfl) (fun K hK => ?_)
            have d := D1.out.q2.cell 0; have f := D1.out.q2.frozen 0; have g := D1.out.q2.lt
            simp at d
            go_simp
            clear d f g
            obtain ⟨v42, hn⟩ : ∃ x : World, v41.setCell ⟨q39, 0, none⟩ (.slice a38 l2.length b38) = x := ⟨_, rfl⟩
            have D2 := Lib.hid (D1.out.st2 (.slice a38 l2.length b38))
            rw [hn] at D2 ⊢
            clear hn D1
            refine hK.out _ _ ?_
            clear hK K
            try simp only [Act.put, List.setIfInBounds_toArray, List.set_cons_zero, List.set_cons_succ, Nat.zero_add]
            refine wpAnyY_done (by kernel_rfl) ?_ _
            go_wp2_with fail
            go_meet
            case rel => exact ⟨_, _, _, _, rfl, rfl, D2.out.b, D2.out.x, D2.out.y, D2.out.q1, D2.out.q2, D2.out.c, D2.out.t1, D2.out.t2⟩
          · go_simp
            obtain ⟨q43, hq⟩ : ∃ q, v37.heap.size = q := ⟨_, rfl⟩
            obtain ⟨v43, hn⟩ : ∃ x : World, v37.alloc (.cells #[.slice none 0 0] 24) = x := ⟨_, rfl⟩
            have HV43 : Hid (AS w A1 c1 A2 c2 bd l1 l2 v43 (some e1) (some (.slice a37 l1.length b37)) none (some q36) (some q43)) := Lib.hid (by rw [← hn, ← hq]; exact HV37.out.all2)
            rw [hn]
            try rw [hq]
            clear hn hq HV37
            refine hK.out _ _ (fun _ => HV43.out.held) ?_
            have hhV43 := HV43.out.held
            clear hK K
            try simp only [Act.put, List.setIfInBounds_toArray, List.set_cons_zero, List.set_cons_succ, Nat.zero_add]
            refine wpAnyY_one (i := 5) rfl (by kernel_rfl) (fun K hK => ?_)
            go_simp
            refine (HCPY2.out _ HV43.out.b).mono ?_
            rintro _ v44 ⟨e44, rfl, hr, hb⟩
            obtain ⟨a44, b44, e, hq⟩ := hr
            subst e
            have HV44 : Hid (AS w A1 c1 A2 c2 bd l1 l2 v44 (some e1) (some (.slice a37 l1.length b37)) (some (.slice a44 l2.length b44)) (some q36) (some q43)) := Lib.hid (HV43.out.set2 ⟨_, _, rfl, hq⟩ hb)
            clear hq hb HV43
            refine hK.out _ _ (fun _ => HV44.out.held) ?_
            have hhV44 := HV44.out.held
            clear hK K
            try simp only [Act.put, List.setIfInBounds_toArray, List.set_cons_zero, List.set_cons_succ, Nat.zero_add]
            refine wpAnyY_one (i := 8) rfl (by kernel_rfl) (fun K hK => ?_)
            go_simp
            refine hK.out _ _ (fun _ => HV44.out.held) ?_
            have D0 := Lib.hid HV44.out.ad
            clear HV44
            clear hK K
            try simp only [Act.put, List.setIfInBounds_toArray, List.set_cons_zero, List.set_cons_succ, Nat.zero_add]
            refine wpAnyY_one (i := 9) rfl (by kernel_rfl) (fun K hK => ?_)
            have d := D0.out.q1.cell 0; have f := D0.out.q1.frozen 0; have g := D0.out.q1.lt
            simp at d
            go_simp
            clear d f g
            obtain ⟨v46, hn⟩ : ∃ x : World, v44.setCell ⟨q36, 0, none⟩ (.slice a37 l1.length b37) = x := ⟨_, rfl⟩
            have D1 := Lib.hid (D0.out.st1 (.slice a37 l1.length b37))
            rw [hn] at D1 ⊢
            clear hn D0
            refine hK.out _ _ (fun _ => D1.out.held) ?_
            have hh1 := D1.out.held
            clear hK K
            try simp only [Act.put, List.setIfInBounds_toArray, List.set_cons_zero, List.set_cons_succ, Nat.zero_add]
            refine wpAnyY_one0 (i := 10) rfl (by kernel_rfl) (by kernel_rfl) (fun K hK => ?_)
            have d := D1.out.q2.cell 0; have f := D1.out.q2.frozen 0; have g := D1.out.q2.lt
            simp at d
            go_simp
            clear d f g
            obtain ⟨v47, hn⟩ : ∃ x : World, v46.setCell ⟨q43, 0, none⟩ (.slice a44 l2.length b44) = x := ⟨_, rfl⟩
            have D2 := Lib.hid (D1.out.st2 (.slice a44 l2.length b44))
            rw [hn] at D2 ⊢
            clear hn D1
            refine hK.out _ _ ?_
            clear hK K
            try simp only [Act.put, List.setIfInBounds_toArray, List.set_cons_zero, List.set_cons_succ, Nat.zero_add]
            refine wpAnyY_done (by kernel_rfl) ?_ _
            go_wp2_with fail
            go_meet
            case rel => exact ⟨_, _, _, _, rfl, rfl, D2.out.b, D2.out.x, D2.out.y, D2.out.q1, D2.out.q2, D2.out.c, D2.out.t1, D2.out.t2⟩
        · go_simp
          obtain ⟨q48, hq⟩ : ∃ q, v36.heap.size = q := ⟨_, rfl⟩
          obtain ⟨v48, hn⟩ : ∃ x : World, v36.alloc (.cells #[.slice none 0 0] 24) = x := ⟨_, rfl⟩
          have HV48 : Hid (AS w A1 c1 A2 c2 bd l1 l2 v48 (some e1) none none (some q36) (some q48)) := Lib.hid (by rw [← hn, ← hq]; exact HV36.out.all2)
          rw [hn]
          try rw [hq]
          clear hn hq HV36
          refine hK.out _ _ (fun _ => HV48.out.held) ?_
          have hhV48 := HV48.out.held
          clear hK K
          try simp only [Act.put, List.setIfInBounds_toArray, List.set_cons_zero, List.set_cons_succ, Nat.zero_add]
          refine wpAnyY_one (i := 3) rfl (by kernel_rfl) (fun K hK => ?_)
          go_simp
          refine (HCPY1.out _ HV48.out.b).mono ?_
          rintro _ v49 ⟨e49, rfl, hr, hb⟩
          obtain ⟨a49, b49, e, hq⟩ := hr
          subst e
          have HV49 : Hid (AS w A1 c1 A2 c2 bd l1 l2 v49 (some e1) (some (.slice a49 l1.length b49)) none (some q36) (some q48)) := Lib.hid (HV48.out.set1 ⟨_, _, rfl, hq⟩ hb)
          clear hq hb HV48
          refine hK.out _ _ (fun _ => HV49.out.held) ?_
          have hhV49 := HV49.out.held
          clear hK K
          try simp only [Act.put, List.setIfInBounds_toArray, List.set_cons_zero, List.set_cons_succ, Nat.zero_add]
          refine wpAnyY_one (i := 5) rfl (by kernel_rfl) (fun K hK => ?_)
          go_simp
          refine (HCPY2.out _ HV49.out.b).mono ?_
          rintro _ v50 ⟨e50, rfl, hr, hb⟩
          obtain ⟨a50, b50, e, hq⟩ := hr
          subst e
          have HV50 : Hid (AS w A1 c1 A2 c2 bd l1 l2 v50 (some e1) (some (.slice a49 l1.length b49)) (some (.slice a50 l2.length b50)) (some q36) (some q48)) := Lib.hid (HV49.out.set2 ⟨_, _, rfl, hq⟩ hb)
          clear hq hb HV49
          refine hK.out _ _ (fun _ => HV50.out.held) ?_
          have hhV50 := HV50.out.held
          clear hK K
          try simp only [Act.put, List.setIfInBounds_toArray, List.set_cons_zero, List.set_cons_succ, Nat.zero_add]
          refine wpAnyY_one (i := 8) rfl (by kernel_rfl) (fun K hK => ?_)
          go_simp
          refine hK.out _ _ (fun _ => HV50.out.held) ?_
          have D0 := Lib.hid HV50.out.ad
          clear HV50
          clear hK K
          try simp only [Act.put, List.setIfInBounds_toArray, List.set_cons_zero, List.set_cons_succ, Nat.zero_add]
          refine wpAnyY_one (i := 9) rfl (by kernel_rfl) (fun K hK => ?_)
          have d := D0.out.q1.cell 0; have f := D0.out.q1.frozen 0; have g := D0.out.q1.lt
          simp at d
          go_simp
          clear d f g
          obtain ⟨v52, hn⟩ : ∃ x : World, v50.setCell ⟨q36, 0, none⟩ (.slice a49 l1.length b49) = x := ⟨_, rfl⟩
          have D1 := Lib.hid (D0.out.st1 (.slice a49 l1.length b49))
          rw [hn] at D1 ⊢
          clear hn D0
          refine hK.out _ _ (fun _ => D1.out.held) ?_
          have hh1 := D1.out.held
          clear hK K
          try simp only [Act.put, List.setIfInBounds_toArray, List.set_cons_zero, List.set_cons_succ, Nat.zero_add]
          refine wpAnyY_one0 (i := 10) rfl (by kernel_rfl) (by kernel_rfl) (fun K hK => ?_)
          have d := D1.out.q2.cell 0; have f := D1.out.q2.frozen 0; have g := D1.out.q2.lt
          simp at d
          go_simp
          clear d f g
          obtain ⟨v53, hn⟩ : ∃ x : World, v52.setCell ⟨q48, 0, none⟩ (.slice a50 l2.length b50) = x := ⟨_, rfl⟩
          have D2 := Lib.hid (D1.out.st2 (.slice a50 l2.length b50))
          rw [hn] at D2 ⊢
          clear hn D1
          refine hK.out _ _ ?_
          clear hK K
          try simp only [Act.put, List.setIfInBounds_toArray, List.set_cons_zero, List.set_cons_succ, Nat.zero_add]
          refine wpAnyY_done (by kernel_rfl) ?_ _
          go_wp2_with fail
          go_meet
          case rel => exact ⟨_, _, _, _, rfl, rfl, D2.out.b, D2.out.x, D2.out.y, D2.out.q1, D2.out.q2, D2.out.c, D2.out.t1, D2.out.t2⟩
      · go_simp
        obtain ⟨q54, hq⟩ : ∃ q, v1.heap.size = q := ⟨_, rfl⟩
        obtain ⟨v54, hn⟩ : ∃ x : World, v1.alloc (.cells #[.slice none 0 0] 24) = x := ⟨_, rfl⟩
        have HV54 : Hid (AS w A1 c1 A2 c2 bd l1 l2 v54 (some e1) none none none (some q54)) := Lib.hid (by rw [← hn, ← hq]; exact HV1.out.all2)
        rw [hn]
        try rw [hq]
        clear hn hq HV1
        refine hK.out _ _ (fun _ => HV54.out.held) ?_
        have hhV54 := HV54.out.held
        clear hK K
        try simp only [Act.put, List.setIfInBounds_toArray, List.set_cons_zero, List.set_cons_succ, Nat.zero_add]
        refine wpAnyY_two (i := 3) (j := 6) rfl rfl (by kernel_rfl) (fun K hK => ?_) (fun K hK => ?_)
        · go_simp
          refine (HCPY1.out _ HV54.out.b).mono ?_
          rintro _ v55 ⟨e55, rfl, hr, hb⟩
          obtain ⟨a55, b55, e, hq⟩ := hr
          subst e
          have HV55 : Hid (AS w A1 c1 A2 c2 bd l1 l2 v55 (some e1) (some (.slice a55 l1.length b55)) none none (some q54)) := Lib.hid (HV54.out.set1 ⟨_, _, rfl, hq⟩ hb)
          clear hq hb HV54
          refine hK.out _ _ (fun _ => HV55.out.held) ?_
          have hhV55 := HV55.out.held
          clear hK K
          try simp only [Act.put, List.setIfInBounds_toArray, List.set_cons_zero, List.set_cons_succ, Nat.zero_add]
          refine wpAnyY_two (i := 5) (j := 6) rfl rfl (by kernel_rfl) (fun K hK => ?_) (fun K hK => ?_)
          · go_simp
            refine (HCPY2.out _ HV55.out.b).mono ?_
            rintro _ v56 ⟨e56, rfl, hr, hb⟩
            obtain ⟨a56, b56, e, hq⟩ := hr
            subst e
            have HV56 : Hid (AS w A1 c1 A2 c2 bd l1 l2 v56 (some e1) (some (.slice a55 l1.length b55)) (some (.slice a56 l2.length b56)) none (some q54)) := Lib.hid (HV55.out.set2 ⟨_, _, rfl, hq⟩ hb)
            clear hq hb HV55
            refine hK.out _ _ (fun _ => HV56.out.held) ?_
            have hhV56 := HV56.out.held
            clear hK K
            try simp only [Act.put, List.setIfInBounds_toArray, List.set_cons_zero, List.set_cons_succ, Nat.zero_add]
            refine wpAnyY_one (i := 6) rfl (by kernel_rfl) (fun K hK => ?_)
            go_simp
            obtain ⟨q57, hq⟩ : ∃ q, v56.heap.size = q := ⟨_, rfl⟩
            obtain ⟨v57, hn⟩ : ∃ x : World, v56.alloc (.cells #[.slice none 0 0] 24) = x := ⟨_, rfl⟩
            have HV57 : Hid (AS w A1 c1 A2 c2 bd l1 l2 v57 (some e1) (some (.slice a55 l1.length b55)) (some (.slice a56 l2.length b56)) (some q57) (some q54)) := Lib.hid (by rw [← hn, ← hq]; exact HV56.out.all1)
            rw [hn]
            try rw [hq]
            clear hn hq HV56
            refine hK.out _ _ (fun _ => HV57.out.held) ?_
            have hhV57 := HV57.out.held
            clear hK K
            try simp only [Act.put, List.setIfInBounds_toArray, List.set_cons_zero, List.set_cons_succ, Nat.zero_add]
            refine wpAnyY_one (i := 8) rfl (by kernel_rfl) (fun K hK => ?_)
            go_simp
            refine hK.out _ _ (fun _ => HV57.out.held) ?_
            have D0 := Lib.hid HV57.out.ad
            clear HV57
            clear hK K
            try simp only [Act.put, List.setIfInBounds_toArray, List.set_cons_zero, List.set_cons_succ, Nat.zero_add]
            refine wpAnyY_one (i := 9) rfl (by kernel_rfl) (fun K hK => ?_)
            have d := D0.out.q1.cell 0; have f := D0.out.q1.frozen 0; have g := D0.out.q1.lt
            simp at d
            go_simp
            clear d f g
            obtain ⟨v59, hn⟩ : ∃ x : World, v57.setCell ⟨q57, 0, none⟩ (.slice a55 l1.length b55) = x := ⟨_, rfl⟩
            have D1 := Lib.hid (D0.out.st1 (.slice a55 l1.length b55))
            rw [hn] at D1 ⊢
            clear hn D0
            refine hK.out _ _ (fun _ => D1.out.held) ?_
            have hh1 := D1.out.held
            clear hK K
            try simp only [Act.put, List.setIfInBounds_toArray, List.set_cons_zero, List.set_cons_succ, Nat.zero_add]
            refine wpAnyY_one0 (i := 10) rfl (by kernel_rfl) (by kernel_rfl) (fun K hK => ?_)
            have d := D1.out.q2.cell 0; have f := D1.out.q2.frozen 0; have g := D1.out.q2.lt
            simp at d
            go_simp
            clear d f g
            obtain ⟨v60, hn⟩ : ∃ x : World, v59.setCell ⟨q54, 0, none⟩ (.slice a56 l2.length b56) = x := ⟨_, rfl⟩
            have D2 := Lib.hid (D1.out.st2 (.slice a56 l2.length b56))
            rw [hn] at D2 ⊢
            clear hn D1
            refine hK.out _ _ ?_
            clear hK K
            try simp only [Act.put, List.setIfInBounds_toArray, List.set_cons_zero, List.set_cons_succ, Nat.zero_add]
            refine wpAnyY_done (by kernel_rfl) ?_ _
            go_wp2_with fail
            go_meet
            case rel => exact ⟨_, _, _, _, rfl, rfl, D2.out.b, D2.out.x, D2.out.y, D2.out.q1, D2.out.q2, D2.out.c, D2.out.t1, D2.out.t2⟩
          · go_simp
            obtain ⟨q61, hq⟩ : ∃ q, v55.heap.size = q := ⟨_, rfl⟩
            obtain ⟨v61, hn⟩ : ∃ x : World, v55.alloc (.cells #[.slice none 0 0] 24) = x := ⟨_, rfl⟩
            have HV61 : Hid (AS w A1 c1 A2 c2 bd l1 l2 v61 (some e1) (some (.slice a55 l1.length b55)) none (some q61) (some q54)) := Lib.hid (by rw [← hn, ← hq]; exact HV55.out.all1)
            rw [hn]
            try rw [hq]
            clear hn hq HV55
            refine hK.out _ _ (fun _ => HV61.out.held) ?_
            have hhV61 := HV61.out.held
            clear hK K
            try simp only [Act.put, List.setIfInBounds_toArray, List.set_cons_zero, List.set_cons_succ, Nat.zero_add]
            refine wpAnyY_one (i := 5) rfl (by kernel_rfl) (fun K hK => ?_)
            go_simp
            refine (HCPY2.out _ HV61.out.b).mono ?_
            rintro _ v62 ⟨e62, rfl, hr, hb⟩
            obtain ⟨a62, b62, e, hq⟩ := hr
            subst e
            have HV62 : Hid (AS w A1 c1 A2 c2 bd l1 l2 v62 (some e1) (some (.slice a55 l1.length b55)) (some (.slice a62 l2.length b62)) (some q61) (some q54)) := Lib.hid (HV61.out.set2 ⟨_, _, rfl, hq⟩ hb)
            clear hq hb HV61
            refine hK.out _ _ (fun _ => HV62.out.held) ?_
            have hhV62 := HV62.out.held
            clear hK K
            try simp only [Act.put, List.setIfInBounds_toArray, List.set_cons_zero, List.set_cons_succ, Nat.zero_add]
            refine wpAnyY_one (i := 8) rfl (by kernel_rfl) (fun K hK => ?_)
            go_simp
            refine hK.out _ _ (fun _ => HV62.out.held) ?_
            have D0 := Lib.hid HV62.out.ad
            clear HV62
            clear hK K
            try simp only [Act.put, List.setIfInBounds_toArray, List.set_cons_zero, List.set_cons_succ, Nat.zero_add]
            refine wpAnyY_one (i := 9) rfl (by kernel_rfl) (fun K hK => ?_)
            have d := D0.out.q1.cell 0; have f := D0.out.q1.frozen 0; have g := D0.out.q1.lt
            simp at d
            go_simp
            clear d f g
            obtain ⟨v64, hn⟩ : ∃ x : World, v62.setCell ⟨q61, 0, none⟩ (.slice a55 l1.length b55) = x := ⟨_, rfl⟩
            have D1 := Lib.hid (D0.out.st1 (.slice a55 l1.length b55))
            rw [hn] at D1 ⊢
            clear hn D0
            refine hK.out _ _ (fun _ => D1.out.held) ?_
            have hh1 := D1.out.held
            clear hK K
            try simp only [Act.put, List.setIfInBounds_toArray, List.set_cons_zero, List.set_cons_succ, Nat.zero_add]
            refine wpAnyY_one0 (i := 10) rfl (by kernel_rfl) (by kernel_rfl) (fun K hK => ?_)
            have d := D1.out.q2.cell 0; have f := D1.out.q2.frozen 0; have g := D1.out.q2.lt
            simp at d
            go_simp
            clear d f g
            obtain ⟨v65, hn⟩ : ∃ x : World, v64.setCell ⟨q54, 0, none⟩ (.slice a62 l2.length b62) = x := ⟨_, rfl⟩
            have D2 := Lib.hid (D1.out.st2 (.slice a62 l2.length b62))
            rw [hn] at D2 ⊢
            clear hn D1
            refine hK.out _ _ ?_
            clear hK K
            try simp only [Act.put, List.setIfInBounds_toArray, List.set_cons_zero, List.set_cons_succ, Nat.zero_add]
            refine wpAnyY_done (by kernel_rfl) ?_ _
            go_wp2_with fail
            go_meet
            case rel => exact ⟨_, _, _, _, rfl, rfl, D2.out.b, D2.out.x, D2.out.y, D2.out.q1, D2.out.q2, D2.out.c, D2.out.t1, D2.out.t2⟩
        · go_simp
          obtain ⟨q66, hq⟩ : ∃ q, v54.heap.size = q := ⟨_, rfl⟩
          obtain ⟨v66, hn⟩ : ∃ x : World, v54.alloc (.cells #[.slice none 0 0] 24) = x := ⟨_, rfl⟩
          have HV66 : Hid (AS w A1 c1 A2 c2 bd l1 l2 v66 (some e1) none none (some q66) (some q54)) := Lib.hid (by rw [← hn, ← hq]; exact HV54.out.all1)
          rw [hn]
          try rw [hq]
          clear hn hq HV54
          refine hK.out _ _ (fun _ => HV66.out.held) ?_
          have hhV66 := HV66.out.held
          clear hK K
          try simp only [Act.put, List.setIfInBounds_toArray, List.set_cons_zero, List.set_cons_succ, Nat.zero_add]
          refine wpAnyY_one (i := 3) rfl (by kernel_rfl) (fun K hK => ?_)
          go_simp
          refine (HCPY1.out _ HV66.out.b).mono ?_
          rintro _ v67 ⟨e67, rfl, hr, hb⟩
          obtain ⟨a67, b67, e, hq⟩ := hr
          subst e
          have HV67 : Hid (AS w A1 c1 A2 c2 bd l1 l2 v67 (some e1) (some (.slice a67 l1.length b67)) none (some q66) (some q54)) := Lib.hid (HV66.out.set1 ⟨_, _, rfl, hq⟩ hb)
          clear hq hb HV66
          refine hK.out _ _ (fun _ => HV67.out.held) ?_
          have hhV67 := HV67.out.held
          clear hK K
          try simp only [Act.put, List.setIfInBounds_toArray, List.set_cons_zero, List.set_cons_succ, Nat.zero_add]
          refine wpAnyY_one (i := 5) rfl (by kernel_rfl) (fun K hK => ?_)
          go_simp
          refine (HCPY2.out _ HV67.out.b).mono ?_
          rintro _ v68 ⟨e68, rfl, hr, hb⟩
          obtain ⟨a68, b68, e, hq⟩ := hr
          subst e
          have HV68 : Hid (AS w A1 c1 A2 c2 bd l1 l2 v68 (some e1) (some (.slice a67 l1.length b67)) (some (.slice a68 l2.length b68)) (some q66) (some q54)) := Lib.hid (HV67.out.set2 ⟨_, _, rfl, hq⟩ hb)
          clear hq hb HV67
          refine hK.out _ _ (fun _ => HV68.out.held) ?_
          have hhV68 := HV68.out.held
          clear hK K
          try simp only [Act.put, List.setIfInBounds_toArray, List.set_cons_zero, List.set_cons_succ, Nat.zero_add]
          refine wpAnyY_one (i := 8) rfl (by kernel_rfl) (fun K hK => ?_)
          go_simp
          refine hK.out _ _ (fun _ => HV68.out.held) ?_
          have D0 := Lib.hid HV68.out.ad
          clear HV68
          clear hK K
          try simp only [Act.put, List.setIfInBounds_toArray, List.set_cons_zero, List.set_cons_succ, Nat.zero_add]
          refine wpAnyY_one (i := 9) rfl (by kernel_rfl) (fun K hK => ?_)
          have d := D0.out.q1.cell 0; have f := D0.out.q1.frozen 0; have g := D0.out.q1.lt
          simp at d
          go_simp
          clear d f g
          obtain ⟨v70, hn⟩ : ∃ x : World, v68.setCell ⟨q66, 0, none⟩ (.slice a67 l1.length b67) = x := ⟨_, rfl⟩
          have D1 := Lib.hid (D0.out.st1 (.slice a67 l1.length b67))
          rw [hn] at D1 ⊢
          clear hn D0
          refine hK.out _ _ (fun _ => D1.out.held) ?_
          have hh1 := D1.out.held
          clear hK K
          try simp only [Act.put, List.setIfInBounds_toArray, List.set_cons_zero, List.set_cons_succ, Nat.zero_add]
          refine wpAnyY_one0 (i := 10) rfl (by kernel_rfl) (by kernel_rfl) (fun K hK => ?_)
          have d := D1.out.q2.cell 0; have f := D1.out.q2.frozen 0; have g := D1.out.q2.lt
          simp at d
          go_simp
          clear d f g
          obtain ⟨v71, hn⟩ : ∃ x : World, v70.setCell ⟨q54, 0, none⟩ (.slice a68 l2.length b68) = x := ⟨_, rfl⟩
          have D2 := Lib.hid (D1.out.st2 (.slice a68 l2.length b68))
          rw [hn] at D2 ⊢
          clear hn D1
          refine hK.out _ _ ?_
          clear hK K
          try simp only [Act.put, List.setIfInBounds_toArray, List.set_cons_zero, List.set_cons_succ, Nat.zero_add]
          refine wpAnyY_done (by kernel_rfl) ?_ _
          go_wp2_with fail
          go_meet
          case rel => exact ⟨_, _, _, _, rfl, rfl, D2.out.b, D2.out.x, D2.out.y, D2.out.q1, D2.out.q2, D2.out.c, D2.out.t1, D2.out.t2⟩
    · go_simp
      obtain ⟨q72, hq⟩ : ∃ q, u.heap.size = q := ⟨_, rfl⟩
      obtain ⟨v72, hn⟩ : ∃ x : World, u.alloc (.cells #[.slice none 0 0] 24) = x := ⟨_, rfl⟩
      have HV72 : Hid (AS w A1 c1 A2 c2 bd l1 l2 v72 none none none (some q72) none) := Lib.hid (by rw [← hn, ← hq]; exact HU.out.all1)
      rw [hn]
      try rw [hq]
      clear hn hq HU
      refine hK.out _ _ (fun _ => HV72.out.held) ?_
      have hhV72 := HV72.out.held
      clear hK K
      try simp only [Act.put, List.setIfInBounds_toArray, List.set_cons_zero, List.set_cons_succ, Nat.zero_add]
      refine wpAnyY_two (i := 1) (j := 7) rfl rfl (by kernel_rfl) (fun K hK => ?_) (fun K hK => ?_)
      · go_simp
        refine (HOWN.out _ HV72.out.b).mono ?_
        rintro _ v73 ⟨e73, rfl, hr, hb⟩
        have HV73 : Hid (AS w A1 c1 A2 c2 bd l1 l2 v73 (some e73) none none (some q72) none) := Lib.hid (HV72.out.setc hr hb)
        clear hr hb HV72
        refine hK.out _ _ (fun _ => HV73.out.held) ?_
        have hhV73 := HV73.out.held
        clear hK K
        try simp only [Act.put, List.setIfInBounds_toArray, List.set_cons_zero, List.set_cons_succ, Nat.zero_add]
        refine wpAnyY_two (i := 3) (j := 7) rfl rfl (by kernel_rfl) (fun K hK => ?_) (fun K hK => ?_)
        · go_simp
          refine (HCPY1.out _ HV73.out.b).mono ?_
          rintro _ v74 ⟨e74, rfl, hr, hb⟩
          obtain ⟨a74, b74, e, hq⟩ := hr
          subst e
          have HV74 : Hid (AS w A1 c1 A2 c2 bd l1 l2 v74 (some e73) (some (.slice a74 l1.length b74)) none (some q72) none) := Lib.hid (HV73.out.set1 ⟨_, _, rfl, hq⟩ hb)
          clear hq hb HV73
          refine hK.out _ _ (fun _ => HV74.out.held) ?_
          have hhV74 := HV74.out.held
          clear hK K
          try simp only [Act.put, List.setIfInBounds_toArray, List.set_cons_zero, List.set_cons_succ, Nat.zero_add]
          refine wpAnyY_two (i := 5) (j := 7) rfl rfl (by kernel_rfl) (fun K hK => ?_) (fun K hK => ?_)
          · go_simp
            refine (HCPY2.out _ HV74.out.b).mono ?_
            rintro _ v75 ⟨e75, rfl, hr, hb⟩
            obtain ⟨a75, b75, e, hq⟩ := hr
            subst e
            have HV75 : Hid (AS w A1 c1 A2 c2 bd l1 l2 v75 (some e73) (some (.slice a74 l1.length b74)) (some (.slice a75 l2.length b75)) (some q72) none) := Lib.hid (HV74.out.set2 ⟨_, _, rfl, hq⟩ hb)
            clear hq hb HV74
            refine hK.out _ _ (fun _ => HV75.out.held) ?_
            have hhV75 := HV75.out.held
            clear hK K
            try simp only [Act.put, List.setIfInBounds_toArray, List.set_cons_zero, List.set_cons_succ, Nat.zero_add]
            refine wpAnyY_one (i := 7) rfl (by kernel_rfl) (fun K hK => ?_)
            go_simp
            obtain ⟨q76, hq⟩ : ∃ q, v75.heap.size = q := ⟨_, rfl⟩
            obtain ⟨v76, hn⟩ : ∃ x : World, v75.alloc (.cells #[.slice none 0 0] 24) = x := ⟨_, rfl⟩
            have HV76 : Hid (AS w A1 c1 A2 c2 bd l1 l2 v76 (some e73) (some (.slice a74 l1.length b74)) (some (.slice a75 l2.length b75)) (some q72) (some q76)) := Lib.hid (by rw [← hn, ← hq]; exact HV75.out.all2)
            rw [hn]
            try rw [hq]
            clear hn hq HV75
            refine hK.out _ _ (fun _ => HV76.out.held) ?_
            have hhV76 := HV76.out.held
            clear hK K
            try simp only [Act.put, List.setIfInBounds_toArray, List.set_cons_zero, List.set_cons_succ, Nat.zero_add]
            refine wpAnyY_one (i := 8) rfl (by kernel_rfl) (fun K hK => ?_)
            go_simp
            refine hK.out _ _ (fun _ => HV76.out.held) ?_
            have D0 := Lib.hid HV76.out.ad
            clear HV76
            clear hK K
            try simp only [Act.put, List.setIfInBounds_toArray, List.set_cons_zero, List.set_cons_succ, Nat.zero_add]
            refine wpAnyY_one (i := 9) rfl (by kernel_rfl) (fun K hK => ?_)
            have d := D0.out.q1.cell 0; have f := D0.out.q1.frozen 0; have g := D0.out.q1.lt
            simp at d
            go_simp
            clear d f g
            obtain ⟨v78, hn⟩ : ∃ x : World, v76.setCell ⟨q72, 0, none⟩ (.slice a74 l1.length b74) = x := ⟨_, rfl⟩
            have D1 := Lib.hid (D0.out.st1 (.slice a74 l1.length b74))
            rw [hn] at D1 ⊢
            clear hn D0
            refine hK.out _ _ (fun _ => D1.out.held) ?_
            have hh1 := D1.out.held
            clear hK K
            try simp only [Act.put, List.setIfInBounds_toArray, List.set_cons_zero, List.set_cons_succ, Nat.zero_add]
            refine wpAnyY_one0 (i := 10) rfl (by kernel_rfl) (by kernel_rfl) (fun K hK => ?_)
            have d := D1.out.q2.cell 0; have f := D1.out.q2.frozen 0; have g := D1.out.q2.lt
            simp at d
            go_simp
            clear d f g
            obtain ⟨v79, hn⟩ : ∃ x : World, v78.setCell ⟨q76, 0, none⟩ (.slice a75 l2.length b75) = x := ⟨_, rfl⟩
            have D2 := Lib.hid (D1.out.st2 (.slice a75 l2.length b75))
            rw [hn] at D2 ⊢
            clear hn D1
            refine hK.out _ _ ?_
            clear hK K
            try simp only [Act.put, List.setIfInBounds_toArray, List.set_cons_zero, List.set_cons_succ, Nat.zero_add]
            refine wpAnyY_done (by kernel_rfl) ?_ _
            go_wp2_with fail
            go_meet
            case rel => exact ⟨_, _, _, _, rfl, rfl, D2.out.b, D2.out.x, D2.out.y, D2.out.q1, D2.out.q2, D2.out.c, D2.out.t1, D2.out.t2⟩
          · go_simp
            obtain ⟨q80, hq⟩ : ∃ q, v74.heap.size = q := ⟨_, rfl⟩
            obtain ⟨v80, hn⟩ : ∃ x : World, v74.alloc (.cells #[.slice none 0 0] 24) = x := ⟨_, rfl⟩
            have HV80 : Hid (AS w A1 c1 A2 c2 bd l1 l2 v80 (some e73) (some (.slice a74 l1.length b74)) none (some q72) (some q80)) := Lib.hid (by rw [← hn, ← hq]; exact HV74.out.all2)
            rw [hn]
            try rw [hq]
            clear hn hq HV74
            refine hK.out _ _ (fun _ => HV80.out.held) ?_
            have hhV80 := HV80.out.held
            clear hK K
            try simp only [Act.put, List.setIfInBounds_toArray, List.set_cons_zero, List.set_cons_succ, Nat.zero_add]
            refine wpAnyY_one (i := 5) rfl (by kernel_rfl) (fun K hK => ?_)
            go_simp
            refine (HCPY2.out _ HV80.out.b).mono ?_
            rintro _ v81 ⟨e81, rfl, hr, hb⟩
            obtain ⟨a81, b81, e, hq⟩ := hr
            subst e
            have HV81 : Hid (AS w A1 c1 A2 c2 bd l1 l2 v81 (some e73) (some (.slice a74 l1.length b74)) (some (.slice a81 l2.length b81)) (some q72) (some q80)) := Lib.hid (HV80.out.set2 ⟨_, _, rfl, hq⟩ hb)
            clear hq hb HV80
            refine hK.out _ _ (fun _ => HV81.out.held) ?_
            have hhV81 := HV81.out.held
            clear hK K
            try simp only [Act.put, List.setIfInBounds_toArray, List.set_cons_zero, List.set_cons_succ, Nat.zero_add]
            refine wpAnyY_one (i := 8) rfl (by kernel_rfl) (fun K hK => ?_)
            go_simp
            refine hK.out _ _ (fun _ => HV81.out.held) ?_
            have D0 := Lib.hid HV81.out.ad
            clear HV81
            clear hK K
            try simp only [Act.put, List.setIfInBounds_toArray, List.set_cons_zero, List.set_cons_succ, Nat.zero_add]
            refine wpAnyY_one (i := 9) rfl (by kernel_rfl) (fun K hK => ?_)
            have d := D0.out.q1.cell 0; have f := D0.out.q1.frozen 0; have g := D0.out.q1.lt
            simp at d
            go_simp
            clear d f g
            obtain ⟨v83, hn⟩ : ∃ x : World, v81.setCell ⟨q72, 0, none⟩ (.slice a74 l1.length b74) = x := ⟨_, rfl⟩
            have D1 := Lib.hid (D0.out.st1 (.slice a74 l1.length b74))
            rw [hn] at D1 ⊢
            clear hn D0
            refine hK.out _ _ (fun _ => D1.out.held) ?_
            have hh1 := D1.out.held
            clear hK K
            try simp only [Act.put, List.setIfInBounds_toArray, List.set_cons_zero, List.set_cons_succ, Nat.zero_add]
            refine wpAnyY_one0 (i := 10) rfl (by kernel_rfl) (by kernel_rfl) (fun K hK => ?_)
            have d := D1.out.q2.cell 0; have f := D1.out.q2.frozen 0; have g := D1.out.q2.lt
            simp at d
            go_simp
            clear d f g
            obtain ⟨v84, hn⟩ : ∃ x : World, v83.setCell ⟨q80, 0, none⟩ (.slice a81 l2.length b81) = x := ⟨_, rfl⟩
            have D2 := Lib.hid (D1.out.st2 (.slice a81 l2.length b81))
            rw [hn] at D2 ⊢
            clear hn D1
            refine hK.out _ _ ?_
            clear hK K
            try simp only [Act.put, List.setIfInBounds_toArray, List.set_cons_zero, List.set_cons_succ, Nat.zero_add]
            refine wpAnyY_done (by kernel_rfl) ?_ _
            go_wp2_with fail
            go_meet
            case rel => exact ⟨_, _, _, _, rfl, rfl, D2.out.b, D2.out.x, D2.out.y, D2.out.q1, D2.out.q2, D2.out.c, D2.out.t1, D2.out.t2⟩
        · go_simp
          obtain ⟨q85, hq⟩ : ∃ q, v73.heap.size = q := ⟨_, rfl⟩
          obtain ⟨v85, hn⟩ : ∃ x : World, v73.alloc (.cells #[.slice none 0 0] 24) = x := ⟨_, rfl⟩
          have HV85 : Hid (AS w A1 c1 A2 c2 bd l1 l2 v85 (some e73) none none (some q72) (some q85)) := Lib.hid (by rw [← hn, ← hq]; exact HV73.out.all2)
          rw [hn]
          try rw [hq]
          clear hn hq HV73
          refine hK.out _ _ (fun _ => HV85.out.held) ?_
          have hhV85 := HV85.out.held
          clear hK K
          try simp only [Act.put, List.setIfInBounds_toArray, List.set_cons_zero, List.set_cons_succ, Nat.zero_add]
          refine wpAnyY_one (i := 3) rfl (by kernel_rfl) (fun K hK => ?_)
          go_simp
          refine (HCPY1.out _ HV85.out.b).mono ?_
          rintro _ v86 ⟨e86, rfl, hr, hb⟩
          obtain ⟨a86, b86, e, hq⟩ := hr
          subst e
          have HV86 : Hid (AS w A1 c1 A2 c2 bd l1 l2 v86 (some e73) (some (.slice a86 l1.length b86)) none (some q72) (some q85)) := Lib.hid (HV85.out.set1 ⟨_, _, rfl, hq⟩ hb)
          clear hq hb HV85
          refine hK.out _ _ (fun _ => HV86.out.held) ?_
          have hhV86 := HV86.out.held
          clear hK K
          try simp only [Act.put, List.setIfInBounds_toArray, List.set_cons_zero, List.set_cons_succ, Nat.zero_add]
          refine wpAnyY_one (i := 5) rfl (by kernel_rfl) (fun K hK => ?_)
          go_simp
          refine (HCPY2.out _ HV86.out.b).mono ?_
          rintro _ v87 ⟨e87, rfl, hr, hb⟩
          obtain ⟨a87, b87, e, hq⟩ := hr
          subst e
          have HV87 : Hid (AS w A1 c1 A2 c2 bd l1 l2 v87 (some e73) (some (.slice a86 l1.length b86)) (some (.slice a87 l2.length b87)) (some q72) (some q85)) := Lib.hid (HV86.out.set2 ⟨_, _, rfl, hq⟩ hb)
          clear hq hb HV86
          refine hK.out _ _ (fun _ => HV87.out.held) ?_
          have hhV87 := HV87.out.held
          clear hK K
          try simp only [Act.put, List.setIfInBounds_toArray, List.set_cons_zero, List.set_cons_succ, Nat.zero_add]
          refine wpAnyY_one (i := 8) rfl (by kernel_rfl) (fun K hK => ?_)
          go_simp
          refine hK.out _ _ (fun _ => HV87.out.held) ?_
          have D0 := Lib.hid HV87.out.ad
          clear HV87
          clear hK K
          try simp only [Act.put, List.setIfInBounds_toArray, List.set_cons_zero, List.set_cons_succ, Nat.zero_add]
          refine wpAnyY_one (i := 9) rfl (by kernel_rfl) (fun K hK => ?_)
          have d := D0.out.q1.cell 0; have f := D0.out.q1.frozen 0; have g := D0.out.q1.lt
          simp at d
          go_simp
          clear d f g
          obtain ⟨v89, hn⟩ : ∃ x : World, v87.setCell ⟨q72, 0, none⟩ (.slice a86 l1.length b86) = x := ⟨_, rfl⟩
          have D1 := Lib.hid (D0.out.st1 (.slice a86 l1.length b86))
          rw [hn] at D1 ⊢
          clear hn D0
          refine hK.out _ _ (fun _ => D1.out.held) ?_
          have hh1 := D1.out.held
          clear hK K
          try simp only [Act.put, List.setIfInBounds_toArray, List.set_cons_zero, List.set_cons_succ, Nat.zero_add]
          refine wpAnyY_one0 (i := 10) rfl (by kernel_rfl) (by kernel_rfl) (fun K hK => ?_)
          have d := D1.out.q2.cell 0; have f := D1.out.q2.frozen 0; have g := D1.out.q2.lt
          simp at d
          go_simp
          clear d f g
          obtain ⟨v90, hn⟩ : ∃ x : World, v89.setCell ⟨q85, 0, none⟩ (.slice a87 l2.length b87) = x := ⟨_, rfl⟩
          have D2 := Lib.hid (D1.out.st2 (.slice a87 l2.length b87))
          rw [hn] at D2 ⊢
          clear hn D1
          refine hK.out _ _ ?_
          clear hK K
          try simp only [Act.put, List.setIfInBounds_toArray, List.set_cons_zero, List.set_cons_succ, Nat.zero_add]
          refine wpAnyY_done (by kernel_rfl) ?_ _
          go_wp2_with fail
          go_meet
          case rel => exact ⟨_, _, _, _, rfl, rfl, D2.out.b, D2.out.x, D2.out.y, D2.out.q1, D2.out.q2, D2.out.c, D2.out.t1, D2.out.t2⟩
      · go_simp
        obtain ⟨q91, hq⟩ : ∃ q, v72.heap.size = q := ⟨_, rfl⟩
        obtain ⟨v91, hn⟩ : ∃ x : World, v72.alloc (.cells #[.slice none 0 0] 24) = x := ⟨_, rfl⟩
        have HV91 : Hid (AS w A1 c1 A2 c2 bd l1 l2 v91 none none none (some q72) (some q91)) := Lib.hid (by rw [← hn, ← hq]; exact HV72.out.all2)
        rw [hn]
        try rw [hq]
        clear hn hq HV72
        refine hK.out _ _ (fun _ => HV91.out.held) ?_
        have hhV91 := HV91.out.held
        clear hK K
        try simp only [Act.put, List.setIfInBounds_toArray, List.set_cons_zero, List.set_cons_succ, Nat.zero_add]
        refine wpAnyY_one (i := 1) rfl (by kernel_rfl) (fun K hK => ?_)
        go_simp
        refine (HOWN.out _ HV91.out.b).mono ?_
        rintro _ v92 ⟨e92, rfl, hr, hb⟩
        have HV92 : Hid (AS w A1 c1 A2 c2 bd l1 l2 v92 (some e92) none none (some q72) (some q91)) := Lib.hid (HV91.out.setc hr hb)
        clear hr hb HV91
        refine hK.out _ _ (fun _ => HV92.out.held) ?_
        have hhV92 := HV92.out.held
        clear hK K
        try simp only [Act.put, List.setIfInBounds_toArray, List.set_cons_zero, List.set_cons_succ, Nat.zero_add]
        refine wpAnyY_one (i := 3) rfl (by kernel_rfl) (fun K hK => ?_)
        go_simp
        refine (HCPY1.out _ HV92.out.b).mono ?_
        rintro _ v93 ⟨e93, rfl, hr, hb⟩
        obtain ⟨a93, b93, e, hq⟩ := hr
        subst e
        have HV93 : Hid (AS w A1 c1 A2 c2 bd l1 l2 v93 (some e92) (some (.slice a93 l1.length b93)) none (some q72) (some q91)) := Lib.hid (HV92.out.set1 ⟨_, _, rfl, hq⟩ hb)
        clear hq hb HV92
        refine hK.out _ _ (fun _ => HV93.out.held) ?_
        have hhV93 := HV93.out.held
        clear hK K
        try simp only [Act.put, List.setIfInBounds_toArray, List.set_cons_zero, List.set_cons_succ, Nat.zero_add]
        refine wpAnyY_one (i := 5) rfl (by kernel_rfl) (fun K hK => ?_)
        go_simp
        refine (HCPY2.out _ HV93.out.b).mono ?_
        rintro _ v94 ⟨e94, rfl, hr, hb⟩
        obtain ⟨a94, b94, e, hq⟩ := hr
        subst e
        have HV94 : Hid (AS w A1 c1 A2 c2 bd l1 l2 v94 (some e92) (some (.slice a93 l1.length b93)) (some (.slice a94 l2.length b94)) (some q72) (some q91)) := Lib.hid (HV93.out.set2 ⟨_, _, rfl, hq⟩ hb)
        clear hq hb HV93
        refine hK.out _ _ (fun _ => HV94.out.held) ?_
        have hhV94 := HV94.out.held
        clear hK K
        try simp only [Act.put, List.setIfInBounds_toArray, List.set_cons_zero, List.set_cons_succ, Nat.zero_add]
        refine wpAnyY_one (i := 8) rfl (by kernel_rfl) (fun K hK => ?_)
        go_simp
        refine hK.out _ _ (fun _ => HV94.out.held) ?_
        have D0 := Lib.hid HV94.out.ad
        clear HV94
        clear hK K
        try simp only [Act.put, List.setIfInBounds_toArray, List.set_cons_zero, List.set_cons_succ, Nat.zero_add]
        refine wpAnyY_one (i := 9) rfl (by kernel_rfl) (fun K hK => ?_)
        have d := D0.out.q1.cell 0; have f := D0.out.q1.frozen 0; have g := D0.out.q1.lt
        simp at d
        go_simp
        clear d f g
        obtain ⟨v96, hn⟩ : ∃ x : World, v94.setCell ⟨q72, 0, none⟩ (.slice a93 l1.length b93) = x := ⟨_, rfl⟩
        have D1 := Lib.hid (D0.out.st1 (.slice a93 l1.length b93))
        rw [hn] at D1 ⊢
        clear hn D0
        refine hK.out _ _ (fun _ => D1.out.held) ?_
        have hh1 := D1.out.held
        clear hK K
        try simp only [Act.put, List.setIfInBounds_toArray, List.set_cons_zero, List.set_cons_succ, Nat.zero_add]
        refine wpAnyY_one0 (i := 10) rfl (by kernel_rfl) (by kernel_rfl) (fun K hK => ?_)
        have d := D1.out.q2.cell 0; have f := D1.out.q2.frozen 0; have g := D1.out.q2.lt
        simp at d
        go_simp
        clear d f g
        obtain ⟨v97, hn⟩ : ∃ x : World, v96.setCell ⟨q91, 0, none⟩ (.slice a94 l2.length b94) = x := ⟨_, rfl⟩
        have D2 := Lib.hid (D1.out.st2 (.slice a94 l2.length b94))
        rw [hn] at D2 ⊢
        clear hn D1
        refine hK.out _ _ ?_
        clear hK K
        try simp only [Act.put, List.setIfInBounds_toArray, List.set_cons_zero, List.set_cons_succ, Nat.zero_add]
        refine wpAnyY_done (by kernel_rfl) ?_ _
        go_wp2_with fail
        go_meet
        case rel => exact ⟨_, _, _, _, rfl, rfl, D2.out.b, D2.out.x, D2.out.y, D2.out.q1, D2.out.q2, D2.out.c, D2.out.t1, D2.out.t2⟩
    · go_simp
      obtain ⟨q98, hq⟩ : ∃ q, u.heap.size = q := ⟨_, rfl⟩
      obtain ⟨v98, hn⟩ : ∃ x : World, u.alloc (.cells #[.slice none 0 0] 24) = x := ⟨_, rfl⟩
      have HV98 : Hid (AS w A1 c1 A2 c2 bd l1 l2 v98 none none none none (some q98)) := Lib.hid (by rw [← hn, ← hq]; exact HU.out.all2)
      rw [hn]
      try rw [hq]
      clear hn hq HU
      refine hK.out _ _ (fun _ => HV98.out.held) ?_
      have hhV98 := HV98.out.held
      clear hK K
      try simp only [Act.put, List.setIfInBounds_toArray, List.set_cons_zero, List.set_cons_succ, Nat.zero_add]
      refine wpAnyY_two (i := 1) (j := 6) rfl rfl (by kernel_rfl) (fun K hK => ?_) (fun K hK => ?_)
      · go_simp
        refine (HOWN.out _ HV98.out.b).mono ?_
        rintro _ v99 ⟨e99, rfl, hr, hb⟩
        have HV99 : Hid (AS w A1 c1 A2 c2 bd l1 l2 v99 (some e99) none none none (some q98)) := Lib.hid (HV98.out.setc hr hb)
        clear hr hb HV98
        refine hK.out _ _ (fun _ => HV99.out.held) ?_
        have hhV99 := HV99.out.held
        clear hK K
        try simp only [Act.put, List.setIfInBounds_toArray, List.set_cons_zero, List.set_cons_succ, Nat.zero_add]
        refine wpAnyY_two (i := 3) (j := 6) rfl rfl (by kernel_rfl) (fun K hK => ?_) (fun K hK => ?_)
        · go_simp
          refine (HCPY1.out _ HV99.out.b).mono ?_
          rintro _ v100 ⟨e100, rfl, hr, hb⟩
          obtain ⟨a100, b100, e, hq⟩ := hr
          subst e
          have HV100 : Hid (AS w A1 c1 A2 c2 bd l1 l2 v100 (some e99) (some (.slice a100 l1.length b100)) none none (some q98)) := Lib.hid (HV99.out.set1 ⟨_, _, rfl, hq⟩ hb)
          clear hq hb HV99
          refine hK.out _ _ (fun _ => HV100.out.held) ?_
          have hhV100 := HV100.out.held
          clear hK K
          try simp only [Act.put, List.setIfInBounds_toArray, List.set_cons_zero, List.set_cons_succ, Nat.zero_add]
          refine wpAnyY_two (i := 5) (j := 6) rfl rfl (by kernel_rfl) (fun K hK => ?_) (fun K hK => ?_)
          · go_simp
            refine (HCPY2.out _ HV100.out.b).mono ?_
            rintro _ v101 ⟨e101, rfl, hr, hb⟩
            obtain ⟨a101, b101, e, hq⟩ := hr
            subst e
            have HV101 : Hid (AS w A1 c1 A2 c2 bd l1 l2 v101 (some e99) (some (.slice a100 l1.length b100)) (some (.slice a101 l2.length b101)) none (some q98)) := Lib.hid (HV100.out.set2 ⟨_, _, rfl, hq⟩ hb)
            clear hq hb HV100
            refine hK.out _ _ (fun _ => HV101.out.held) ?_
            have hhV101 := HV101.out.held
            clear hK K
            try simp only [Act.put, List.setIfInBounds_toArray, List.set_cons_zero, List.set_cons_succ, Nat.zero_add]
            refine wpAnyY_one (i := 6) rfl (by kernel_rfl) (fun K hK => ?_)
            go_simp
            obtain ⟨q102, hq⟩ : ∃ q, v101.heap.size = q := ⟨_, rfl⟩
            obtain ⟨v102, hn⟩ : ∃ x : World, v101.alloc (.cells #[.slice none 0 0] 24) = x := ⟨_, rfl⟩
            have HV102 : Hid (AS w A1 c1 A2 c2 bd l1 l2 v102 (some e99) (some (.slice a100 l1.length b100)) (some (.slice a101 l2.length b101)) (some q102) (some q98)) := Lib.hid (by rw [← hn, ← hq]; exact HV101.out.all1)
            rw [hn]
            try rw [hq]
            clear hn hq HV101
            refine hK.out _ _ (fun _ => HV102.out.held) ?_
            have hhV102 := HV102.out.held
            clear hK K
            try simp only [Act.put, List.setIfInBounds_toArray, List.set_cons_zero, List.set_cons_succ, Nat.zero_add]
            refine wpAnyY_one (i := 8) rfl (by kernel_rfl) (fun K hK => ?_)
            go_simp
            refine hK.out _ _ (fun _ => HV102.out.held) ?_
            have D0 := Lib.hid HV102.out.ad
            clear HV102
            clear hK K
            try simp only [Act.put, List.setIfInBounds_toArray, List.set_cons_zero, List.set_cons_succ, Nat.zero_add]
            refine wpAnyY_one (i := 9) rfl (by kernel_rfl) (fun K hK => ?_)
            have d := D0.out.q1.cell 0; have f := D0.out.q1.frozen 0; have g := D0.out.q1.lt
            simp at d
            go_simp
            clear d f g
            obtain ⟨v104, hn⟩ : ∃ x : World, v102.setCell ⟨q102, 0, none⟩ (.slice a100 l1.length b100) = x := ⟨_, rfl⟩
            have D1 := Lib.hid (D0.out.st1 (.slice a100 l1.length b100))
            rw [hn] at D1 ⊢
            clear hn D0
            refine hK.out _ _ (fun _ => D1.out.held) ?_
            have hh1 := D1.out.held
            clear hK K
            try simp only [Act.put, List.setIfInBounds_toArray, List.set_cons_zero, List.set_cons_succ, Nat.zero_add]
            refine wpAnyY_one0 (i := 10) rfl (by kernel_rfl) (by kernel_rfl) (fun K hK => ?_)
            have d := D1.out.q2.cell 0; have f := D1.out.q2.frozen 0; have g := D1.out.q2.lt
            simp at d
            go_simp
            clear d f g
            obtain ⟨v105, hn⟩ : ∃ x : World, v104.setCell ⟨q98, 0, none⟩ (.slice a101 l2.length b101) = x := ⟨_, rfl⟩
            have D2 := Lib.hid (D1.out.st2 (.slice a101 l2.length b101))
            rw [hn] at D2 ⊢
            clear hn D1
            refine hK.out _ _ ?_
            clear hK K
            try simp only [Act.put, List.setIfInBounds_toArray, List.set_cons_zero, List.set_cons_succ, Nat.zero_add]
            refine wpAnyY_done (by kernel_rfl) ?_ _
            go_wp2_with fail
            go_meet
            case rel => exact ⟨_, _, _, _, rfl, rfl, D2.out.b, D2.out.x, D2.out.y, D2.out.q1, D2.out.q2, D2.out.c, D2.out.t1, D2.out.t2⟩
          · go_simp
            obtain ⟨q106, hq⟩ : ∃ q, v100.heap.size = q := ⟨_, rfl⟩
            obtain ⟨v106, hn⟩ : ∃ x : World, v100.alloc (.cells #[.slice none 0 0] 24) = x := ⟨_, rfl⟩
            have HV106 : Hid (AS w A1 c1 A2 c2 bd l1 l2 v106 (some e99) (some (.slice a100 l1.length b100)) none (some q106) (some q98)) := Lib.hid (by rw [← hn, ← hq]; exact HV100.out.all1)
            rw [hn]
            try rw [hq]
            clear hn hq HV100
            refine hK.out _ _ (fun _ => HV106.out.held) ?_
            have hhV106 := HV106.out.held
            clear hK K
            try simp only [Act.put, List.setIfInBounds_toArray, List.set_cons_zero, List.set_cons_succ, Nat.zero_add]
            refine wpAnyY_one (i := 5) rfl (by kernel_rfl) (fun K hK => ?_)
            go_simp
            refine (HCPY2.out _ HV106.out.b).mono ?_
            rintro _ v107 ⟨e107, rfl, hr, hb⟩
            obtain ⟨a107, b107, e, hq⟩ := hr
            subst e
            have HV107 : Hid (AS w A1 c1 A2 c2 bd l1 l2 v107 (some e99) (some (.slice a100 l1.length b100)) (some (.slice a107 l2.length b107)) (some q106) (some q98)) := Lib.hid (HV106.out.set2 ⟨_, _, rfl, hq⟩ hb)
            clear hq hb HV106
            refine hK.out _ _ (fun _ => HV107.out.held) ?_
            have hhV107 := HV107.out.held
            clear hK K
            try simp only [Act.put, List.setIfInBounds_toArray, List.set_cons_zero, List.set_cons_succ, Nat.zero_add]
            refine wpAnyY_one (i := 8) rfl (by kernel_rfl) (fun K hK => ?_)
            go_simp
            refine hK.out _ _ (fun _ => HV107.out.held) ?_
            have D0 := Lib.hid HV107.out.ad
            clear HV107
            clear hK K
            try simp only [Act.put, List.setIfInBounds_toArray, List.set_cons_zero, List.set_cons_succ, Nat.zero_add]
            refine wpAnyY_one (i := 9) rfl (by kernel_rfl) (fun K hK => ?_)
            have d := D0.out.q1.cell 0; have f := D0.out.q1.frozen 0; have g := D0.out.q1.lt
            simp at d
            go_simp
            clear d f g
            obtain ⟨v109, hn⟩ : ∃ x : World, v107.setCell ⟨q106, 0, none⟩ (.slice a100 l1.length b100) = x := ⟨_, rfl⟩
            have D1 := Lib.hid (D0.out.st1 (.slice a100 l1.length b100))
            rw [hn] at D1 ⊢
            clear hn D0
            refine hK.out _ _ (fun _ => D1.out.held) ?_
            have hh1 := D1.out.held
            clear hK K
            try simp only [Act.put, List.setIfInBounds_toArray, List.set_cons_zero, List.set_cons_succ, Nat.zero_add]
            refine wpAnyY_one0 (i := 10) rfl (by kernel_rfl) (by kernel_rfl) (fun K hK => ?_)
            have d := D1.out.q2.cell 0; have f := D1.out.q2.frozen 0; have g := D1.out.q2.lt
            simp at d
            go_simp
            clear d f g
            obtain ⟨v110, hn⟩ : ∃ x : World, v109.setCell ⟨q98, 0, none⟩ (.slice a107 l2.length b107) = x := ⟨_, rfl⟩
            have D2 := Lib.hid (D1.out.st2 (.slice a107 l2.length b107))
            rw [hn] at D2 ⊢
            clear hn D1
            refine hK.out _ _ ?_
            clear hK K
            try simp only [Act.put, List.setIfInBounds_toArray, List.set_cons_zero, List.set_cons_succ, Nat.zero_add]
            refine wpAnyY_done (by kernel_rfl) ?_ _
            go_wp2_with fail
            go_meet
            case rel => exact ⟨_, _, _, _, rfl, rfl, D2.out.b, D2.out.x, D2.out.y, D2.out.q1, D2.out.q2, D2.out.c, D2.out.t1, D2.out.t2⟩
        · go_simp
          obtain ⟨q111, hq⟩ : ∃ q, v99.heap.size = q := ⟨_, rfl⟩
          obtain ⟨v111, hn⟩ : ∃ x : World, v99.alloc (.cells #[.slice none 0 0] 24) = x := ⟨_, rfl⟩
          have HV111 : Hid (AS w A1 c1 A2 c2 bd l1 l2 v111 (some e99) none none (some q111) (some q98)) := Lib.hid (by rw [← hn, ← hq]; exact HV99.out.all1)
          rw [hn]
          try rw [hq]
          clear hn hq HV99
          refine hK.out _ _ (fun _ => HV111.out.held) ?_
          have hhV111 := HV111.out.held
          clear hK K
          try simp only [Act.put, List.setIfInBounds_toArray, List.set_cons_zero, List.set_cons_succ, Nat.zero_add]
          refine wpAnyY_one (i := 3) rfl (by kernel_rfl) (fun K hK => ?_)
          go_simp
          refine (HCPY1.out _ HV111.out.b).mono ?_
          rintro _ v112 ⟨e112, rfl, hr, hb⟩
          obtain ⟨a112, b112, e, hq⟩ := hr
          subst e
          have HV112 : Hid (AS w A1 c1 A2 c2 bd l1 l2 v112 (some e99) (some (.slice a112 l1.length b112)) none (some q111) (some q98)) := Lib.hid (HV111.out.set1 ⟨_, _, rfl, hq⟩ hb)
          clear hq hb HV111
          refine hK.out _ _ (fun _ => HV112.out.held) ?_
          have hhV112 := HV112.out.held
          clear hK K
          try simp only [Act.put, List.setIfInBounds_toArray, List.set_cons_zero, List.set_cons_succ, Nat.zero_add]
          refine wpAnyY_one (i := 5) rfl (by kernel_rfl) (fun K hK => ?_)
          go_simp
          refine (HCPY2.out _ HV112.out.b).mono ?_
          rintro _ v113 ⟨e113, rfl, hr, hb⟩
          obtain ⟨a113, b113, e, hq⟩ := hr
          subst e
          have HV113 : Hid (AS w A1 c1 A2 c2 bd l1 l2 v113 (some e99) (some (.slice a112 l1.length b112)) (some (.slice a113 l2.length b113)) (some q111) (some q98)) := Lib.hid (HV112.out.set2 ⟨_, _, rfl, hq⟩ hb)
          clear hq hb HV112
          refine hK.out _ _ (fun _ => HV113.out.held) ?_
          have hhV113 := HV113.out.held
          clear hK K
          try simp only [Act.put, List.setIfInBounds_toArray, List.set_cons_zero, List.set_cons_succ, Nat.zero_add]
          refine wpAnyY_one (i := 8) rfl (by kernel_rfl) (fun K hK => ?_)
          go_simp
          refine hK.out _ _ (fun _ => HV113.out.held) ?_
          have D0 := Lib.hid HV113.out.ad
          clear HV113
          clear hK K
          try simp only [Act.put, List.setIfInBounds_toArray, List.set_cons_zero, List.set_cons_succ, Nat.zero_add]
          refine wpAnyY_one (i := 9) rfl (by kernel_rfl) (fun K hK => ?_)
          have d := D0.out.q1.cell 0; have f := D0.out.q1.frozen 0; have g := D0.out.q1.lt
          simp at d
          go_simp
          clear d f g
          obtain ⟨v115, hn⟩ : ∃ x : World, v113.setCell ⟨q111, 0, none⟩ (.slice a112 l1.length b112) = x := ⟨_, rfl⟩
          have D1 := Lib.hid (D0.out.st1 (.slice a112 l1.length b112))
          rw [hn] at D1 ⊢
          clear hn D0
          refine hK.out _ _ (fun _ => D1.out.held) ?_
          have hh1 := D1.out.held
          clear hK K
          try simp only [Act.put, List.setIfInBounds_toArray, List.set_cons_zero, List.set_cons_succ, Nat.zero_add]
          refine wpAnyY_one0 (i := 10) rfl (by kernel_rfl) (by kernel_rfl) (fun K hK => ?_)
          have d := D1.out.q2.cell 0; have f := D1.out.q2.frozen 0; have g := D1.out.q2.lt
          simp at d
          go_simp
          clear d f g
          obtain ⟨v116, hn⟩ : ∃ x : World, v115.setCell ⟨q98, 0, none⟩ (.slice a113 l2.length b113) = x := ⟨_, rfl⟩
          have D2 := Lib.hid (D1.out.st2 (.slice a113 l2.length b113))
          rw [hn] at D2 ⊢
          clear hn D1
          refine hK.out _ _ ?_
          clear hK K
          try simp only [Act.put, List.setIfInBounds_toArray, List.set_cons_zero, List.set_cons_succ, Nat.zero_add]
          refine wpAnyY_done (by kernel_rfl) ?_ _
          go_wp2_with fail
          go_meet
          case rel => exact ⟨_, _, _, _, rfl, rfl, D2.out.b, D2.out.x, D2.out.y, D2.out.q1, D2.out.q2, D2.out.c, D2.out.t1, D2.out.t2⟩
      · go_simp
        obtain ⟨q117, hq⟩ : ∃ q, v98.heap.size = q := ⟨_, rfl⟩
        obtain ⟨v117, hn⟩ : ∃ x : World, v98.alloc (.cells #[.slice none 0 0] 24) = x := ⟨_, rfl⟩
        have HV117 : Hid (AS w A1 c1 A2 c2 bd l1 l2 v117 none none none (some q117) (some q98)) := Lib.hid (by rw [← hn, ← hq]; exact HV98.out.all1)
        rw [hn]
        try rw [hq]
        clear hn hq HV98
        refine hK.out _ _ (fun _ => HV117.out.held) ?_
        have hhV117 := HV117.out.held
        clear hK K
        try simp only [Act.put, List.setIfInBounds_toArray, List.set_cons_zero, List.set_cons_succ, Nat.zero_add]
        refine wpAnyY_one (i := 1) rfl (by kernel_rfl) (fun K hK => ?_)
        go_simp
        refine (HOWN.out _ HV117.out.b).mono ?_
        rintro _ v118 ⟨e118, rfl, hr, hb⟩
        have HV118 : Hid (AS w A1 c1 A2 c2 bd l1 l2 v118 (some e118) none none (some q117) (some q98)) := Lib.hid (HV117.out.setc hr hb)
        clear hr hb HV117
        refine hK.out _ _ (fun _ => HV118.out.held) ?_
        have hhV118 := HV118.out.held
        clear hK K
        try simp only [Act.put, List.setIfInBounds_toArray, List.set_cons_zero, List.set_cons_succ, Nat.zero_add]
        refine wpAnyY_one (i := 3) rfl (by kernel_rfl) (fun K hK => ?_)
        go_simp
        refine (HCPY1.out _ HV118.out.b).mono ?_
        rintro _ v119 ⟨e119, rfl, hr, hb⟩
        obtain ⟨a119, b119, e, hq⟩ := hr
        subst e
        have HV119 : Hid (AS w A1 c1 A2 c2 bd l1 l2 v119 (some e118) (some (.slice a119 l1.length b119)) none (some q117) (some q98)) := Lib.hid (HV118.out.set1 ⟨_, _, rfl, hq⟩ hb)
        clear hq hb HV118
        refine hK.out _ _ (fun _ => HV119.out.held) ?_
        have hhV119 := HV119.out.held
        clear hK K
        try simp only [Act.put, List.setIfInBounds_toArray, List.set_cons_zero, List.set_cons_succ, Nat.zero_add]
        refine wpAnyY_one (i := 5) rfl (by kernel_rfl) (fun K hK => ?_)
        go_simp
        refine (HCPY2.out _ HV119.out.b).mono ?_
        rintro _ v120 ⟨e120, rfl, hr, hb⟩
        obtain ⟨a120, b120, e, hq⟩ := hr
        subst e
        have HV120 : Hid (AS w A1 c1 A2 c2 bd l1 l2 v120 (some e118) (some (.slice a119 l1.length b119)) (some (.slice a120 l2.length b120)) (some q117) (some q98)) := Lib.hid (HV119.out.set2 ⟨_, _, rfl, hq⟩ hb)
        clear hq hb HV119
        refine hK.out _ _ (fun _ => HV120.out.held) ?_
        have hhV120 := HV120.out.held
        clear hK K
        try simp only [Act.put, List.setIfInBounds_toArray, List.set_cons_zero, List.set_cons_succ, Nat.zero_add]
        refine wpAnyY_one (i := 8) rfl (by kernel_rfl) (fun K hK => ?_)
        go_simp
        refine hK.out _ _ (fun _ => HV120.out.held) ?_
        have D0 := Lib.hid HV120.out.ad
        clear HV120
        clear hK K
        try simp only [Act.put, List.setIfInBounds_toArray, List.set_cons_zero, List.set_cons_succ, Nat.zero_add]
        refine wpAnyY_one (i := 9) rfl (by kernel_rfl) (fun K hK => ?_)
        have d := D0.out.q1.cell 0; have f := D0.out.q1.frozen 0; have g := D0.out.q1.lt
        simp at d
        go_simp
        clear d f g
        obtain ⟨v122, hn⟩ : ∃ x : World, v120.setCell ⟨q117, 0, none⟩ (.slice a119 l1.length b119) = x := ⟨_, rfl⟩
        have D1 := Lib.hid (D0.out.st1 (.slice a119 l1.length b119))
        rw [hn] at D1 ⊢
        clear hn D0
        refine hK.out _ _ (fun _ => D1.out.held) ?_
        have hh1 := D1.out.held
        clear hK K
        try simp only [Act.put, List.setIfInBounds_toArray, List.set_cons_zero, List.set_cons_succ, Nat.zero_add]
        refine wpAnyY_one0 (i := 10) rfl (by kernel_rfl) (by kernel_rfl) (fun K hK => ?_)
        have d := D1.out.q2.cell 0; have f := D1.out.q2.frozen 0; have g := D1.out.q2.lt
        simp at d
        go_simp
        clear d f g
        obtain ⟨v123, hn⟩ : ∃ x : World, v122.setCell ⟨q98, 0, none⟩ (.slice a120 l2.length b120) = x := ⟨_, rfl⟩
        have D2 := Lib.hid (D1.out.st2 (.slice a120 l2.length b120))
        rw [hn] at D2 ⊢
        clear hn D1
        refine hK.out _ _ ?_
        clear hK K
        try simp only [Act.put, List.setIfInBounds_toArray, List.set_cons_zero, List.set_cons_succ, Nat.zero_add]
        refine wpAnyY_done (by kernel_rfl) ?_ _
        go_wp2_with fail
        go_meet
        case rel => exact ⟨_, _, _, _, rfl, rfl, D2.out.b, D2.out.x, D2.out.y, D2.out.q1, D2.out.q2, D2.out.c, D2.out.t1, D2.out.t2⟩
  case rest =>
    obtain ⟨q1, q2, z1, z2, rfl, rfl, hb, hx, hy, hq1, hq2, hc, hz1, hz2⟩ := hcut
    have HB := Lib.hid hb; have HX := Lib.hid hx; have HY := Lib.hid hy; have HQ1 := Lib.hid hq1; have HQ2 := Lib.hid hq2
    obtain ⟨A3, c3, rfl, k1, k2, k3⟩ := hc
    obtain ⟨A4, c4, rfl, k4, k5, k6⟩ := hz1
    obtain ⟨A5, c5, rfl, k7, k8, k9⟩ := hz2
    have HK3 := Lib.hid k3; have HK6 := Lib.hid k6; have HK9 := Lib.hid k9
    have HK := Lib.hid (And.intro (And.intro k1 k2) (And.intro (And.intro k4 k5) (And.intro k7 k8)))
    have x0 := hq1.cell 0; have y0 := hq2.cell 0
    have hxl := hq1.lt; have hyl := hq2.lt
    simp at x0 y0
    have HAP := Lib.hid (uadd_any A3 c3 bd A4 c4 l1 A5 c5 l2 _ _ (fun b h => h) k3 k6 k9 k1 k2 k4 k5 k7 k8 (by omega) (fun t ht => (HZ1.out.1 t ht).1) (fun t ht => (HZ2.out.1 t ht).1) (fun x hx t ht => ⟨((HZ.out x hx).1 t ht).1, ((HZ.out x hx).1 t ht).2.1⟩))
    clear hb hx hy hq1 hq2 k1 k2 k3 k4 k5 k6 k7 k8 k9
    go_wp2_with fail
    refine HAP.out.mono ?_
    rintro _ w5 ⟨err, out, vd, hsay, rfl, hd, hb5⟩
    have HSAY := Lib.hid hsay
    have HB5 := Lib.hid (HB.out.trans (hb5.mono HB.out.size))
    have HX5 := Lib.hid (HX.out.below hb5 HX.out.lt); have HY5 := Lib.hid (HY.out.below hb5 HY.out.lt); have HQ15 := Lib.hid (HQ1.out.below hb5 HQ1.out.lt); have HQ25 := Lib.hid (HQ2.out.below hb5 HQ2.out.lt)
    have HLIFT := Lib.hid (fun (A : Option Addr) (ts : List TN) (x y : World) (h : RowOf 3 ETN x (fun b => b < x.heap.size) A ts) (hb : Below x.heap.size x y) => (h.keep ETN.stays (Keep.below hb (fun b h => h)) (fun b h => Nat.lt_of_lt_of_le h hb.size) : RowOf 3 ETN y (fun b => b < y.heap.size) A ts))
    have HLIFB := Lib.hid (fun (A : Option Addr) (ts : List ABind) (x y : World) (h : RowOf 2 EBind x (fun b => b < x.heap.size) A ts) (hb : Below x.heap.size x y) => (h.keep EBind.stays (Keep.below hb (fun b h => h)) (fun b h => Nat.lt_of_lt_of_le h hb.size) : RowOf 2 EBind y (fun b => b < y.heap.size) A ts))
    have HK35 := Lib.hid (HLIFB.out _ _ _ _ HK3.out hb5); have HK65 := Lib.hid (HLIFT.out _ _ _ _ HK6.out hb5); have HK95 := Lib.hid (HLIFT.out _ _ _ _ HK9.out hb5)
    obtain ⟨Ad, cd, rfl, y1, y2, y3⟩ := hd
    have HDR : Hid (RowOf 2 EBind w5 (fun b => b < w5.heap.size) Ad out) := Lib.hid (y3.keep EBind.stays (Keep.refl _ _) (fun b h => h.2)); have HDC := Lib.hid (And.intro y1 y2)
    clear hb5 x0 y0 hxl hyl y1 y2 y3 HAP HB HX HY HQ1 HQ2 HK3 HK6 HK9 hsay
    have x0 := HX5.out.cell 0; have y0 := HY5.out.cell 0
    have hxl := HX5.out.lt; have hyl := HY5.out.lt
    simp at x0 y0
    have HRA := Lib.hid (radd_any A0 c0 bd A1 c1 l1 A2 c2 l2 w5 (fun b => b < w.heap.size) (fun b h => Nat.lt_of_lt_of_le h HB5.out.size) (HRB.out.keep EBind.stays (Keep.below HB5.out (fun b h => h)) (fun _ h => h)) (HR1.out.keep ETN.stays (Keep.below HB5.out (fun b h => h)) (fun _ h => h)) (HR2.out.keep ETN.stays (Keep.below HB5.out (fun b h => h)) (fun _ h => h)) HLE.out.1 HCM.out.1 HLE.out.2.1 HCM.out.2.1 HLE.out.2.2 HCM.out.2.2 (by omega) (fun t ht => (HZ1.out.1 t ht).1) (fun t ht => (HZ2.out.1 t ht).1) (fun x hx t ht => ⟨((HZ.out x hx).1 t ht).1, ((HZ.out x hx).1 t ht).2.1⟩))
    go_wp2_with fail
    refine HRA.out.mono ?_
    rintro _ w7 ⟨err', out', vg, hsay, rfl, hg, hb7⟩
    obtain ⟨he, ho⟩ := hsay.same HSAY.out
    subst he; subst ho
    have HB7 := Lib.hid (HB5.out.trans (hb7.mono HB5.out.size))
    have HX7 := Lib.hid (HX5.out.below hb7 HX5.out.lt); have HY7 := Lib.hid (HY5.out.below hb7 HY5.out.lt); have HQ17 := Lib.hid (HQ15.out.below hb7 HQ15.out.lt); have HQ27 := Lib.hid (HQ25.out.below hb7 HQ25.out.lt)
    have HK37 := Lib.hid (HLIFB.out _ _ _ _ HK35.out hb7); have HK67 := Lib.hid (HLIFT.out _ _ _ _ HK65.out hb7); have HK97 := Lib.hid (HLIFT.out _ _ _ _ HK95.out hb7)
    have HDR7 := Lib.hid (HLIFB.out _ _ _ _ HDR.out hb7)
    obtain ⟨Ag, cg, rfl, z1, z2, z3⟩ := hg
    have HGR : Hid (RowOf 2 EBind w7 (fun b => b < w7.heap.size) Ag out') := Lib.hid (z3.keep EBind.stays (Keep.refl _ _) (fun b h => h.2))
    have HSM := Lib.hid (sameB_any Ad Ag cd cg out' w7 HDR7.out HGR.out HDC.out.1 HDC.out.2)
    clear hb7 x0 y0 hxl hyl z1 z2 z3 HRA HB5 HX5 HY5 HQ15 HQ25 HK35 HK65 HK95 HDR hsay HSAY
    have g1 : (err' == err') = true := by simp
    go_wp2_with fail
    refine HSM.out.mono ?_
    rintro _ w8 ⟨rfl, hb8⟩
    have HB8 := Lib.hid (HB7.out.trans (hb8.mono HB7.out.size))
    have HX8 := Lib.hid (HX7.out.below hb8 HX7.out.lt); have HY8 := Lib.hid (HY7.out.below hb8 HY7.out.lt); have HQ18 := Lib.hid (HQ17.out.below hb8 HQ17.out.lt); have HQ28 := Lib.hid (HQ27.out.below hb8 HQ27.out.lt)
    have HK38 := Lib.hid (HLIFB.out _ _ _ _ HK37.out hb8); have HK68 := Lib.hid (HLIFT.out _ _ _ _ HK67.out hb8); have HK98 := Lib.hid (HLIFT.out _ _ _ _ HK97.out hb8)
    have HSM2 := Lib.hid (sameB_any A3 A0 c3 c0 bd w8 HK38.out (HRB.out.keep EBind.stays (Keep.below HB8.out (fun b h => h)) (fun b h => Nat.lt_of_lt_of_le h HB8.out.size)) HK.out.1.1 HK.out.1.2)
    clear hb8 HSM HB7 HX7 HY7 HQ17 HQ27 HK37 HK67 HK97 HDR7 HGR
    go_wp2_with fail
    refine HSM2.out.mono ?_
    rintro _ w9 ⟨rfl, hb9⟩
    have HB9 := Lib.hid (HB8.out.trans (hb9.mono HB8.out.size))
    have HX9 := Lib.hid (HX8.out.below hb9 HX8.out.lt); have HY9 := Lib.hid (HY8.out.below hb9 HY8.out.lt); have HQ19 := Lib.hid (HQ18.out.below hb9 HQ18.out.lt); have HQ29 := Lib.hid (HQ28.out.below hb9 HQ28.out.lt)
    have HK69 := Lib.hid (HLIFT.out _ _ _ _ HK68.out hb9); have HK99 := Lib.hid (HLIFT.out _ _ _ _ HK98.out hb9)
    have q0 := HQ19.out.cell 0; have x0 := HX9.out.cell 0
    have hql := HQ19.out.lt; have hxl := HX9.out.lt
    simp at q0 x0
    have HAL := Lib.hid (alike_any (.slice A4 l1.length c4) (.slice A1 l1.length c1) l1 w9 ⟨A4, c4, rfl, HK.out.2.1.1, HK.out.2.1.2, HK69.out⟩ ⟨A1, c1, rfl, HLE.out.2.1, HCM.out.2.1, HR1.out.keep ETN.stays (Keep.below HB9.out (fun b h => h)) (fun b h => Nat.lt_of_lt_of_le h HB9.out.size)⟩)
    clear hb9 HSM2 HB8 HX8 HY8 HQ18 HQ28 HK38 HK68 HK98
    go_wp2_with fail
    refine HAL.out.mono ?_
    rintro _ w10 ⟨rfl, hb10⟩
    have HB10 := Lib.hid (HB9.out.trans (hb10.mono HB9.out.size))
    have HY10 := Lib.hid (HY9.out.below hb10 HY9.out.lt); have HQ210 := Lib.hid (HQ29.out.below hb10 HQ29.out.lt)
    have HK910 := Lib.hid (HLIFT.out _ _ _ _ HK99.out hb10)
    clear hb10 q0 x0 hql hxl HAL HB9 HX9 HY9 HQ19 HQ29 HK69 HK99
    have q0 := HQ210.out.cell 0; have x0 := HY10.out.cell 0
    have hql := HQ210.out.lt; have hxl := HY10.out.lt
    simp at q0 x0
    have HAL2 := Lib.hid (alike_any (.slice A5 l2.length c5) (.slice A2 l2.length c2) l2 w10 ⟨A5, c5, rfl, HK.out.2.2.1, HK.out.2.2.2, HK910.out⟩ ⟨A2, c2, rfl, HLE.out.2.2, HCM.out.2.2, HR2.out.keep ETN.stays (Keep.below HB10.out (fun b h => h)) (fun b h => Nat.lt_of_lt_of_le h HB10.out.size)⟩)
    go_wp2_with fail
    refine HAL2.out.mono ?_
    rintro _ w11 ⟨rfl, hb11⟩
    have HB11 := Lib.hid (HB10.out.trans (hb11.mono HB10.out.size))
    clear hb11 q0 x0 hql hxl g1
    go_wp2
    go_ret
    exact ⟨rfl, HB11.out⟩
end Go.Proofs.Ytgcbnndbeoekgaa
