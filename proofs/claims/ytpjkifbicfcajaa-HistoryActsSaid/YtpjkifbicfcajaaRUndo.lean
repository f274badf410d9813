import Derived.Test.YtpjkifbicfcajaaRCopy
set_option linter.unusedSimpArgs false
set_option linter.unusedVariables false
/- the document's undo and redo -/
namespace Go.Proofs.Ytpjkifbicfcajaa
open Go Go.RowKit

/-- what undo and redo of the document's leave -/
def RPost (w w' : World) (F : Nat → Prop) (p : Nat) (E : Int × APast) (e : Ending) : Prop :=
  e = .returned (.int .i64 E.1) ∧ KeepO (· = p) w w' ∧ IsRPast w' (fun b => F b ∨ (w.heap.size ≤ b ∧ b < w'.heap.size)) p E.2
theorem KeepO.setp {w w' : World} {p : Nat} (h : KeepO (· = p) w w') (i : Nat) (u : Value) : KeepO (· = p) w (w'.setCell ⟨p, i, none⟩ u) := h.set_ (O := fun b => b = p) rfl i u

set_option maxRecDepth 100000 in
set_option maxHeartbeats 4000000 in
theorem rundo_none (p : Nat) (P : APast) (h0 : P.ahead = []) (w : World) (F : Nat → Prop) (hF : ∀ b, F b → b < w.heap.size) (hpF : ¬ F p) (h : IsRPast w F p P) (hfit : P.Fits) :
    Calls Try.prog 19 #[.pointer (some ⟨p, 0, none⟩)] w fun e w' => RPost w w' F p (270, P) e := by
  have HH : Hid (IsRPast w F p P) := Lib.hid h
  have hfit' : P.ahead.length + 1 + P.behind.length ≤ 65 := by rw [← P.list_len]; exact hfit
  obtain ⟨A, c, X, cx, B, d, hb, hc, hcx, hd, ra, rx, rb⟩ := h.opened
  have hplt := hb.lt
  rw [h0] at hb
  have p0 := hb.cell 0
  simp at p0
  clear h hb hc hcx hd ra rx rb hfit hfit' h0
  go_enter Try.func19, Try.ntmps19
  go_wp2
  go_ret
  exact ⟨rfl, KeepO.refl _ _, HH.out.keep (Keep.refl _ _) (fun _ h => .inl h) rfl⟩

set_option maxRecDepth 100000 in
set_option maxHeartbeats 4000000 in
theorem rredo_none (p : Nat) (P : APast) (h0 : P.behind = []) (w : World) (F : Nat → Prop) (hF : ∀ b, F b → b < w.heap.size) (hpF : ¬ F p) (h : IsRPast w F p P) (hfit : P.Fits) :
    Calls Try.prog 22 #[.pointer (some ⟨p, 0, none⟩)] w fun e w' => RPost w w' F p (270, P) e := by
  have HH : Hid (IsRPast w F p P) := Lib.hid h
  have hfit' : P.ahead.length + 1 + P.behind.length ≤ 65 := by rw [← P.list_len]; exact hfit
  obtain ⟨A, c, X, cx, B, d, hb, hc, hcx, hd, ra, rx, rb⟩ := h.opened
  have hplt := hb.lt
  rw [h0] at hb
  have p3 := hb.cell 3
  simp at p3
  clear h hb hc hcx hd ra rx rb hfit hfit' h0
  go_enter Try.func22, Try.ntmps22
  go_wp2
  go_ret
  exact ⟨rfl, KeepO.refl _ _, HH.out.keep (Keep.refl _ _) (fun _ h => .inl h) rfl⟩

set_option maxRecDepth 100000 in
set_option maxHeartbeats 4000000 in
theorem rundo_some (p : Nat) (ys : List AModel) (m here : AModel) (behind : List AModel) (P : APast) (hP : P = ⟨ys ++ [m], here, behind⟩) (w : World) (F : Nat → Prop) (hF : ∀ b, F b → b < w.heap.size) (hpF : ¬ F p) (h : IsRPast w F p P) (hfit : P.Fits) :
    Calls Try.prog 19 #[.pointer (some ⟨p, 0, none⟩)] w fun e w' => RPost w w' F p (0, ⟨ys, m, here :: behind⟩) e := by
  have hfit' : P.ahead.length + 1 + P.behind.length ≤ 65 := by rw [← P.list_len]; exact hfit
  obtain ⟨A, c, X, cx, B, d, hb, hc, hcx, hd, ra, rx, rb⟩ := h.opened
  have hplt := hb.lt
  subst hP
  simp only at hb hc hcx hd ra rx rb hfit'
  obtain ⟨k, hk⟩ : ∃ k, ys.length = k := ⟨_, rfl⟩
  have hlen : (ys ++ [m]).length = k + 1 := by simp [hk]
  rw [hlen] at hb hc hfit'
  obtain ⟨bA, offA, SA, cA, rfl, hbF, d0, d1, hs1, hs2, rowm⟩ := model_at ra (i := k) (by omega)
  have hget : (ys ++ [m])[k]'(by omega) = m := by subst hk; simp
  rw [hget] at d0 d1 hs1 rowm
  have HRA := Lib.hid ra; have HRX := Lib.hid rx; have HRB := Lib.hid rb; have HRM := Lib.hid rowm
  have HC := Lib.hid (And.intro hc hd); have HCX := Lib.hid hcx; have HCM := Lib.hid (And.intro hs1 hs2)
  have HPB := Lib.hid hb
  have HK := Lib.hid hk
  have hbw := hF bA hbF
  have hbp : bA ≠ p := fun e => hpF (e ▸ hbF)
  have HD : Hid (∀ w', Below w.heap.size w w' → w'.cell? ⟨bA, offA + k * 2, none⟩ = some (.int .i64 m.next) ∧ w'.cell? ⟨bA, offA + k * 2 + 1, none⟩ = some (.slice SA m.nodes.length cA)) := Lib.hid (fun w' hb' => ⟨(hb'.cell (p := ⟨bA, _, none⟩) hbw).trans d0, (hb'.cell (p := ⟨bA, _, none⟩) hbw).trans d1⟩)
  have hk1 : (k : Int) + 1 ≤ c := by omega
  clear h hfit hb hc hcx hd ra rx rb hs1 hs2 rowm d0 d1 hk hlen hget
  have HSS : Hid (∀ w', Blk w' p 49 #[.slice (some ⟨bA, offA, none⟩) (k + 1) c, .int .i64 here.next, .slice X here.nodes.length cx, .slice B behind.length d] → (fun w' : World => w'.cell? ⟨p, 0, none⟩ = some (.slice (some ⟨bA, offA, none⟩) (k + 1) c) ∧ w'.cell? ⟨p, 1, none⟩ = some (.int .i64 here.next) ∧ w'.cell? ⟨p, 2, none⟩ = some (.slice X here.nodes.length cx) ∧ w'.cell? ⟨p, 3, none⟩ = some (.slice B behind.length d)) w') := Lib.hid (fun w' h1 => by
    have m0 := h1.cell 0; have m1 := h1.cell 1; have m2 := h1.cell 2; have m3 := h1.cell 3
    simp at m0 m1 m2 m3
    exact ⟨m0, m1, m2, m3⟩)
  have p0 := HPB.out.cell 0
  simp at p0
  have q1 : IntKind.i64.wrap ((k : Int) + 1 - 1) = k := by rw [IntWalk.i64_in _ ⟨by omega, by omega⟩]; omega
  go_enter Try.func19, Try.ntmps19
  go_wp2_with fail
  obtain ⟨u, hu⟩ : ∃ u : World, w.drew = u := ⟨_, rfl⟩
  have HBU : Hid (Below w.heap.size w u) := Lib.hid (by rw [← hu]; exact (Below.refl _ _).drew)
  have HMU := Lib.hid (HPB.out.below HBU.out hplt)
  clear p0
  refine wp_region_Y (S := (fun w' : World => w'.cell? ⟨p, 0, none⟩ = some (.slice (some ⟨bA, offA, none⟩) (k + 1) c) ∧ w'.cell? ⟨p, 1, none⟩ = some (.int .i64 here.next) ∧ w'.cell? ⟨p, 2, none⟩ = some (.slice X here.nodes.length cx) ∧ w'.cell? ⟨p, 3, none⟩ = some (.slice B behind.length d))) 13 (by kernel_rfl) (by rw [hu]; exact HSS.out _ HMU.out) (fun hHeld => ?_)
  rw [hu] at hHeld ⊢
  clear hu
  refine wpAnyY_take (i := 0) (v := ?_) rfl (by kernel_rfl) (by kernel_rfl) (by kernel_rfl) (by kernel_rfl) (fun _ _ _ h => h) (Or.inl ⟨by rfl, ?_⟩) (by assumption) ?_
  rotate_left 1
  · (intro w' hSw; obtain ⟨s0, s1, s2, s3⟩ := hSw; go_simp); try with_reducible rfl
  try simp only [Act.put, List.setIfInBounds_toArray, List.set_cons_zero, List.set_cons_succ, Nat.zero_add]
  refine wpAnyY_take (i := 1) (v := ?_) rfl (by kernel_rfl) (by kernel_rfl) (by kernel_rfl) (by kernel_rfl) (fun _ _ _ h => h) (Or.inl ⟨by rfl, ?_⟩) (by assumption) ?_
  rotate_left 1
  · (intro w' hSw; obtain ⟨s0, s1, s2, s3⟩ := hSw; go_simp); try with_reducible rfl
  try simp only [Act.put, List.setIfInBounds_toArray, List.set_cons_zero, List.set_cons_succ, Nat.zero_add]
  refine wpAnyY_take (i := 2) (v := ?_) rfl (by kernel_rfl) (by kernel_rfl) (by kernel_rfl) (by kernel_rfl) (fun _ _ _ h => h) (Or.inl ⟨by rfl, ?_⟩) (by assumption) ?_
  rotate_left 1
  · (intro w' hSw; obtain ⟨s0, s1, s2, s3⟩ := hSw; go_simp); try with_reducible rfl
  try simp only [Act.put, List.setIfInBounds_toArray, List.set_cons_zero, List.set_cons_succ, Nat.zero_add]
  refine wpAnyY_take (i := 3) (v := ?_) rfl (by kernel_rfl) (by kernel_rfl) (by kernel_rfl) (by kernel_rfl) (fun _ _ _ h => h) (Or.inl ⟨by rfl, ?_⟩) (by assumption) ?_
  rotate_left 1
  · (intro w' hSw; obtain ⟨s0, s1, s2, s3⟩ := hSw; go_simp); try with_reducible rfl
  try simp only [Act.put, List.setIfInBounds_toArray, List.set_cons_zero, List.set_cons_succ, Nat.zero_add]
  refine wpAnyY_take (i := 4) (v := ?_) rfl (by kernel_rfl) (by kernel_rfl) (by kernel_rfl) (by kernel_rfl) (fun _ _ _ h => h) (Or.inl ⟨by rfl, ?_⟩) (by assumption) ?_
  rotate_left 1
  · (intro w' hSw; obtain ⟨s0, s1, s2, s3⟩ := hSw; go_simp); try with_reducible rfl
  try simp only [Act.put, List.setIfInBounds_toArray, List.set_cons_zero, List.set_cons_succ, Nat.zero_add]
  refine wpAnyY_take (i := 6) (v := ?_) rfl (by kernel_rfl) (by kernel_rfl) (by kernel_rfl) (by kernel_rfl) (fun _ _ _ h => h) (Or.inl ⟨by rfl, ?_⟩) (by assumption) ?_
  rotate_left 1
  · (intro w' hSw; obtain ⟨s0, s1, s2, s3⟩ := hSw; go_simp); try with_reducible rfl
  try simp only [Act.put, List.setIfInBounds_toArray, List.set_cons_zero, List.set_cons_succ, Nat.zero_add]
  refine wpAnyY_take (i := 7) (v := ?_) rfl (by kernel_rfl) (by kernel_rfl) (by kernel_rfl) (by kernel_rfl) (fun _ _ _ h => h) (Or.inl ⟨by rfl, ?_⟩) (by assumption) ?_
  rotate_left 1
  · (intro w' hSw; obtain ⟨s0, s1, s2, s3⟩ := hSw; go_simp); try with_reducible rfl
  try simp only [Act.put, List.setIfInBounds_toArray, List.set_cons_zero, List.set_cons_succ, Nat.zero_add]
  refine wpAnyY_take (i := 8) (v := ?_) rfl (by kernel_rfl) (by kernel_rfl) (by kernel_rfl) (by kernel_rfl) (fun _ _ _ h => h) (Or.inl ⟨by rfl, ?_⟩) (by assumption) ?_
  rotate_left 1
  · (intro w' hSw; obtain ⟨s0, s1, s2, s3⟩ := hSw; go_simp); try with_reducible rfl
  try simp only [Act.put, List.setIfInBounds_toArray, List.set_cons_zero, List.set_cons_succ, Nat.zero_add]
  refine wpAnyY_take (i := 9) (v := ?_) rfl (by kernel_rfl) (by kernel_rfl) (by kernel_rfl) (by kernel_rfl) (fun _ _ _ h => h) (Or.inl ⟨by rfl, ?_⟩) (by assumption) ?_
  rotate_left 1
  · (intro w' hSw; obtain ⟨s0, s1, s2, s3⟩ := hSw; go_simp); try with_reducible rfl
  try simp only [Act.put, List.setIfInBounds_toArray, List.set_cons_zero, List.set_cons_succ, Nat.zero_add]
  refine wpAnyY_one (i := 5) rfl (by kernel_rfl) (fun K hK => ?_)
  go_simp
  obtain ⟨s5, hs5⟩ : ∃ q, u.heap.size = q := ⟨_, rfl⟩
  obtain ⟨w5, hnw⟩ : ∃ x : World, u.alloc (.cells #[.int .i64 here.next, .slice X here.nodes.length cx] 27) = x := ⟨_, rfl⟩
  have hb3 : Below u.heap.size u w5 := by rw [← hnw]; exact (Below.refl _ _).alloc (Nat.le_refl _) _
  have hw3 := HBU.out.size
  have HQ5N5 : Hid (Blk w5 s5 27 #[.int .i64 here.next, .slice X here.nodes.length cx]) := Lib.hid (by rw [← hnw]; exact Blk.new' hs5.symm)
  have HS5 : Hid (w.heap.size ≤ s5) := Lib.hid (by omega)
  (try rw [hnw])
  (try rw [hs5])
  clear hnw hs5 hw3
  have HBN5 := Lib.hid (HBU.out.trans (hb3.mono HBU.out.size))
  have HMN5 := Lib.hid (HMU.out.below hb3 HMU.out.lt)
  clear HBU HMU
  have HE5N5 : Hid (OwnRow 2 27 EModel F w5 w.heap.size (.slice (some ⟨s5, 0, none⟩) 1 1) [here]) := Lib.hid (OwnRow.one (cs := [.int .i64 here.next, .slice X here.nodes.length cx]) HQ5N5.out HS5.out rfl ⟨_, rfl, X, cx, rfl, HCX.out.1, HCX.out.2, HRX.out.keep ENode.stays (Keep.below HBN5.out hF) (oth_of hF HBN5.out.size (fun b e => by obtain rfl : s5 = b := (by injection e); exact HS5.out))⟩)
  clear hb3
  refine hK.out _ _ (fun _ => HSS.out _ HMN5.out) ?_
  have hHeldN5 := HSS.out _ HMN5.out
  clear hK K
  try simp only [Act.put, List.setIfInBounds_toArray, List.set_cons_zero, List.set_cons_succ, Nat.zero_add]
  refine wpAnyY_one (i := 10) rfl (by kernel_rfl) (fun K hK => ?_)
  have hrw10 := HRB.out.keep (F' := F) EModel.stays (Keep.below HBN5.out hF) (fun _ h => h)
  obtain ⟨css, k1, k2, k4, k5⟩ := hrw10.css
  have hvb : ∀ b, (.slice (some ⟨s5, 0, none⟩) 1 1 : Value).ownBlock = some b → w.heap.size ≤ b := by
    obtain ⟨xs, ho⟩ := HE5N5.out.owns
    exact fun b e => (ho.lt b e).1
  refine step_many (P := Try.prog) (E := EModel) (F := F) EModel.stays w5 (by rfl) (.tmp 16) (.tmp 20) 22 (by rfl) w.heap.size 27 Try.underlying22 model_info rfl (by omega) (.slice (some ⟨s5, 0, none⟩) 1 1) [here] (by rfl) HE5N5.out B d behind css (by rfl) k1 k2 (fun i hi hi' => EModel.stays _ _ _ _ _ _ (oth_of hF HBN5.out.size hvb) (Keep.refl _ _) (k4 i hi hi')) (fun e => by subst e; exact hrw10.none_nil) (fun ad e => k5 ad e) (fun cs hcs u hu => by
    obtain ⟨i, hi, rfl⟩ := List.getElem_of_mem hcs
    exact (k4 i (by omega) hi).one u hu) (by simp only [List.length_cons, List.length_nil]; unfold maxLen; omega) (by simp only [List.length_cons, List.length_nil]; omega) HBN5.out.size ?_
  intro A10 c10 w10 hown hg hat
  have hb3 : Below w.heap.size w w10 := HBN5.out.grown hg HBN5.out.size (fun k e => hvb k e)
  have HBN10 := Lib.hid hb3
  have HMN10 := Lib.hid (HMN5.out.grown hg (fun e => by have := hvb _ e.symm; omega))
  have HA10N10 := Lib.hid hown
  clear hb3 hown hg hat hvb k1 k2 k4 k5 hrw10 HBN5 HMN5
  have hl10 : ([here] ++ behind).length = 1 + behind.length := by simp; omega
  have hl11 : ([here] : List AModel).length = 1 := rfl
  rw [hl11]
  have HLL := Lib.hid hl10
  clear hl10 hl11
  refine hK.out _ _ (fun _ => HSS.out _ HMN10.out) ?_
  have hHeldN10 := HSS.out _ HMN10.out
  have z3 := HMN10.out.frozen 3
  clear hK K
  try simp only [Act.put, List.setIfInBounds_toArray, List.set_cons_zero, List.set_cons_succ, Nat.zero_add]
  refine wpAnyY_take0 (i := 11) (v := ?_) rfl (by kernel_rfl) (by kernel_rfl) (by kernel_rfl) (by kernel_rfl) (fun _ _ _ h => h) (Or.inl ⟨by rfl, ?_⟩) ?_
  rotate_left 1
  · (intro w' _; go_simp); try with_reducible rfl
  try simp only [Act.put, List.setIfInBounds_toArray, List.set_cons_zero, List.set_cons_succ, Nat.zero_add]
  refine wpAnyY_take (i := 12) (v := ?_) rfl (by kernel_rfl) (by kernel_rfl) (by kernel_rfl) (by kernel_rfl) (fun _ _ _ h => h) (Or.inl ⟨by rfl, ?_⟩) (by assumption) ?_
  rotate_left 1
  · (intro w' hSw; obtain ⟨s0, s1, s2, s3⟩ := hSw; go_simp); try with_reducible rfl
  try simp only [Act.put, List.setIfInBounds_toArray, List.set_cons_zero, List.set_cons_succ, Nat.zero_add]
  refine wpAnyY_one0 (i := 13) rfl (by kernel_rfl) (by kernel_rfl) (fun K hK => ?_)
  go_simp
  refine hK.out _ _ ?_
  clear z3
  clear hK K
  try simp only [Act.put, List.setIfInBounds_toArray, List.set_cons_zero, List.set_cons_succ, Nat.zero_add]
  refine wpAnyY_done (by kernel_rfl) ?_ _
  obtain ⟨w6, hw6⟩ : ∃ x, w10.setCell ⟨p, 3, none⟩ (.slice A10 (1 + behind.length) c10) = x := ⟨_, rfl⟩
  (try simp only [List.length_cons, List.length_nil, Nat.zero_add])
  have HM6 : Hid (Blk w6 p 49 #[.slice (some ⟨bA, offA, none⟩) (k + 1) c, .int .i64 here.next, .slice X here.nodes.length cx, .slice A10 (1 + behind.length) c10]) := Lib.hid (by rw [← hw6]; simpa using HMN10.out.set_ 3 (.slice A10 (1 + behind.length) c10))
  have HK6 : Hid (KeepO (· = p) w w6) := Lib.hid (by rw [← hw6]; exact KeepO.setp ((KeepO.refl _ _).below HBN10.out) _ _)
  have HD6 : Hid (w6.cell? ⟨bA, offA + k * 2, none⟩ = some (.int .i64 m.next) ∧ w6.cell? ⟨bA, offA + k * 2 + 1, none⟩ = some (.slice SA m.nodes.length cA)) := Lib.hid (by
    obtain ⟨d0, d1⟩ := HD.out _ HBN10.out
    rw [← hw6]
    exact ⟨(World.cell?_of_block (Below.heap_setCell _ _ _ _ hbp)).trans d0, (World.cell?_of_block (Below.heap_setCell _ _ _ _ hbp)).trans d1⟩)
  have HR6 : Hid (IsRow 2 EModel w10 (fun b => F b ∨ (w.heap.size ≤ b ∧ b < w10.heap.size)) (.slice A10 (1 + behind.length) c10) (here :: behind)) := Lib.hid (HA10N10.out.isRow EModel.stays (F' := fun b => F b ∨ (w.heap.size ≤ b ∧ b < w10.heap.size)) (fun b h1 _ => .inl h1) (fun b h1 h2 => .inr ⟨h1, h2⟩))
  have HSZ : Hid (w6.heap.size = w10.heap.size) := Lib.hid (by rw [← hw6]; simp)
  have HFR : Hid (∀ q, q ≠ p → w6.heap[q]? = w10.heap[q]?) := Lib.hid (fun q hq => by rw [← hw6]; exact Below.heap_setCell _ _ _ _ hq)
  (try rw [hw6])
  clear hw6 hHeld hHeldN5 hHeldN10 HMN10
  have p0 := HM6.out.cell 0; have p1 := HM6.out.cell 1; have p2 := HM6.out.cell 2; have p3 := HM6.out.cell 3
  have z0 := HM6.out.frozen 0; have z1 := HM6.out.frozen 1; have z2 := HM6.out.frozen 2
  have hp6 := HM6.out.lt
  obtain ⟨d0, d1⟩ := HD6.out
  simp at p0 p1 p2 p3
  have k0 : (0 : Int) ≤ k := by omega
  have k1 : (k : Int) < (k : Int) + 1 := by omega
  have k2 : (k : Int) ≤ c := by omega
  go_wp2
  go_ret
  have hf := ((HM6.out.set_ 1 (.int .i64 m.next)).set_ 2 (.slice SA m.nodes.length cA)).set_ 0 (.slice (some ⟨bA, offA, none⟩) k c)
  simp at hf
  have hfar : ∀ q, q ≠ p → (((w6.setCell ⟨p, 1, none⟩ (.int .i64 m.next)).setCell ⟨p, 2, none⟩ (.slice SA m.nodes.length cA)).setCell ⟨p, 0, none⟩ (.slice (some ⟨bA, offA, none⟩) k c)).heap[q]? = w10.heap[q]? := fun q hq => (Below.heap_setCell _ _ _ _ hq).trans ((Below.heap_setCell _ _ _ _ hq).trans ((Below.heap_setCell _ _ _ _ hq).trans (HFR.out q hq)))
  have hkf : Keep F w (((w6.setCell ⟨p, 1, none⟩ (.int .i64 m.next)).setCell ⟨p, 2, none⟩ (.slice SA m.nodes.length cA)).setCell ⟨p, 0, none⟩ (.slice (some ⟨bA, offA, none⟩) k c)) := fun q hq => (World.cell?_of_block (hfar q.block (fun e => hpF (e ▸ hq)))).trans (HBN10.out.cell (hF _ hq))
  refine ⟨rfl, KeepO.setp (KeepO.setp (KeepO.setp HK6.out _ _) _ _) _ _, ⟨_, _, _, _, _, _, _, hf, ⟨some ⟨bA, offA, none⟩, c, by rw [HK.out], by have := HC.out.1; rw [HK.out]; omega, HC.out.1.2, ?_⟩, ⟨SA, cA, rfl, HCM.out.1, HCM.out.2, HRM.out.keep ENode.stays hkf (fun _ h => .inl h)⟩, ?_⟩⟩
  · have := (HRA.out.take k).keep EModel.stays hkf (F' := fun b => F b ∨ (w.heap.size ≤ b ∧ b < (((w6.setCell ⟨p, 1, none⟩ (.int .i64 m.next)).setCell ⟨p, 2, none⟩ (.slice SA m.nodes.length cA)).setCell ⟨p, 0, none⟩ (.slice (some ⟨bA, offA, none⟩) k c)).heap.size)) (fun _ h => .inl h)
    rw [List.take_append_of_le_length (by rw [HK.out]; exact Nat.le_refl _), List.take_of_length_le (by rw [HK.out]; exact Nat.le_refl _)] at this
    exact this
  · refine HR6.out.keep EModel.stays (fun q hq => World.cell?_of_block (hfar _ ?_)) (fun b hb => hb.elim .inl fun h => .inr ⟨h.1, by have := HSZ.out; simp; omega⟩)
    rcases hq with hq | hq
    · exact fun e => hpF (e ▸ hq)
    · have := hq.1; omega

set_option maxRecDepth 100000 in
set_option maxHeartbeats 4000000 in
theorem rredo_some (p : Nat) (ahead : List AModel) (m here : AModel) (behind : List AModel) (P : APast) (hP : P = ⟨ahead, here, m :: behind⟩) (w : World) (F : Nat → Prop) (hF : ∀ b, F b → b < w.heap.size) (hpF : ¬ F p) (h : IsRPast w F p P) (hfit : P.Fits) :
    Calls Try.prog 22 #[.pointer (some ⟨p, 0, none⟩)] w fun e w' => RPost w w' F p (0, ⟨ahead ++ [here], m, behind⟩) e := by
  have hfit' : P.ahead.length + 1 + P.behind.length ≤ 65 := by rw [← P.list_len]; exact hfit
  obtain ⟨A, c, X, cx, B, d, hb, hc, hcx, hd, ra, rx, rb⟩ := h.opened
  have hplt := hb.lt
  subst hP
  simp only at hb hc hcx hd ra rx rb hfit'
  obtain ⟨k, hk⟩ : ∃ k, behind.length = k := ⟨_, rfl⟩
  have hlen : (m :: behind).length = k + 1 := by simp [hk]
  rw [hlen] at hb hd hfit'
  obtain ⟨bA, offA, SA, cA, rfl, hbF, d0, d1, hs1, hs2, rowm⟩ := model_at rb (i := 0) (by omega)
  have hget : (m :: behind)[0]'(by simp) = m := rfl
  rw [hget] at d0 d1 hs1 rowm
  simp only [Nat.zero_mul, Nat.add_zero] at d0 d1
  have HRA := Lib.hid ra; have HRX := Lib.hid rx; have HRB := Lib.hid rb; have HRM := Lib.hid rowm
  have HC := Lib.hid (And.intro hc hd); have HCX := Lib.hid hcx; have HCM := Lib.hid (And.intro hs1 hs2)
  have HPB := Lib.hid hb
  have HK := Lib.hid hk
  have hbw := hF bA hbF
  have hbp : bA ≠ p := fun e => hpF (e ▸ hbF)
  have HD : Hid (∀ w', Below w.heap.size w w' → w'.cell? ⟨bA, offA, none⟩ = some (.int .i64 m.next) ∧ w'.cell? ⟨bA, offA + 1, none⟩ = some (.slice SA m.nodes.length cA)) := Lib.hid (fun w' hb' => ⟨(hb'.cell (p := ⟨bA, _, none⟩) hbw).trans d0, (hb'.cell (p := ⟨bA, _, none⟩) hbw).trans d1⟩)
  have hk1 : (k : Int) + 1 ≤ d := by omega
  clear h hfit hb hc hcx hd ra rx rb hs1 hs2 rowm d0 d1 hk hlen hget
  have HSS : Hid (∀ w', Blk w' p 49 #[.slice A ahead.length c, .int .i64 here.next, .slice X here.nodes.length cx, .slice (some ⟨bA, offA, none⟩) (k + 1) d] → (fun w' : World => w'.cell? ⟨p, 0, none⟩ = some (.slice A ahead.length c) ∧ w'.cell? ⟨p, 1, none⟩ = some (.int .i64 here.next) ∧ w'.cell? ⟨p, 2, none⟩ = some (.slice X here.nodes.length cx) ∧ w'.cell? ⟨p, 3, none⟩ = some (.slice (some ⟨bA, offA, none⟩) (k + 1) d)) w') := Lib.hid (fun w' h1 => by
    have m0 := h1.cell 0; have m1 := h1.cell 1; have m2 := h1.cell 2; have m3 := h1.cell 3
    simp at m0 m1 m2 m3
    exact ⟨m0, m1, m2, m3⟩)
  have p3 := HPB.out.cell 3
  simp at p3
  have k0 : (0 : Int) ≤ k := by omega
  have k3 : ¬ (k : Int) + 1 = 0 := by omega
  have k4 : decide ((k : Int) + 1 = 0) = false := decide_eq_false k3
  go_enter Try.func22, Try.ntmps22
  go_wp2_with fail
  obtain ⟨u, hu⟩ : ∃ u : World, w.drew = u := ⟨_, rfl⟩
  have HBU : Hid (Below w.heap.size w u) := Lib.hid (by rw [← hu]; exact (Below.refl _ _).drew)
  have HMU := Lib.hid (HPB.out.below HBU.out hplt)
  clear p3
  refine wp_region_Y (S := (fun w' : World => w'.cell? ⟨p, 0, none⟩ = some (.slice A ahead.length c) ∧ w'.cell? ⟨p, 1, none⟩ = some (.int .i64 here.next) ∧ w'.cell? ⟨p, 2, none⟩ = some (.slice X here.nodes.length cx) ∧ w'.cell? ⟨p, 3, none⟩ = some (.slice (some ⟨bA, offA, none⟩) (k + 1) d))) 15 (by kernel_rfl) (by rw [hu]; exact HSS.out _ HMU.out) (fun hHeld => ?_)
  rw [hu] at hHeld ⊢
  clear hu
  refine wpAnyY_take (i := 0) (v := ?_) rfl (by kernel_rfl) (by kernel_rfl) (by kernel_rfl) (by kernel_rfl) (fun _ _ _ h => h) (Or.inl ⟨by rfl, ?_⟩) (by assumption) ?_
  rotate_left 1
  · (intro w' hSw; obtain ⟨s0, s1, s2, s3⟩ := hSw; go_simp); try with_reducible rfl
  try simp only [Act.put, List.setIfInBounds_toArray, List.set_cons_zero, List.set_cons_succ, Nat.zero_add]
  refine wpAnyY_take (i := 2) (v := ?_) rfl (by kernel_rfl) (by kernel_rfl) (by kernel_rfl) (by kernel_rfl) (fun _ _ _ h => h) (Or.inl ⟨by rfl, ?_⟩) (by assumption) ?_
  rotate_left 1
  · (intro w' hSw; obtain ⟨s0, s1, s2, s3⟩ := hSw; go_simp); try with_reducible rfl
  try simp only [Act.put, List.setIfInBounds_toArray, List.set_cons_zero, List.set_cons_succ, Nat.zero_add]
  refine wpAnyY_take (i := 3) (v := ?_) rfl (by kernel_rfl) (by kernel_rfl) (by kernel_rfl) (by kernel_rfl) (fun _ _ _ h => h) (Or.inl ⟨by rfl, ?_⟩) (by assumption) ?_
  rotate_left 1
  · (intro w' hSw; obtain ⟨s0, s1, s2, s3⟩ := hSw; go_simp); try with_reducible rfl
  try simp only [Act.put, List.setIfInBounds_toArray, List.set_cons_zero, List.set_cons_succ, Nat.zero_add]
  refine wpAnyY_take (i := 4) (v := ?_) rfl (by kernel_rfl) (by kernel_rfl) (by kernel_rfl) (by kernel_rfl) (fun _ _ _ h => h) (Or.inl ⟨by rfl, ?_⟩) (by assumption) ?_
  rotate_left 1
  · (intro w' hSw; obtain ⟨s0, s1, s2, s3⟩ := hSw; go_simp); try with_reducible rfl
  try simp only [Act.put, List.setIfInBounds_toArray, List.set_cons_zero, List.set_cons_succ, Nat.zero_add]
  refine wpAnyY_take (i := 5) (v := ?_) rfl (by kernel_rfl) (by kernel_rfl) (by kernel_rfl) (by kernel_rfl) (fun _ _ _ h => h) (Or.inl ⟨by rfl, ?_⟩) (by assumption) ?_
  rotate_left 1
  · (intro w' hSw; obtain ⟨s0, s1, s2, s3⟩ := hSw; go_simp); try with_reducible rfl
  try simp only [Act.put, List.setIfInBounds_toArray, List.set_cons_zero, List.set_cons_succ, Nat.zero_add]
  refine wpAnyY_take (i := 7) (v := ?_) rfl (by kernel_rfl) (by kernel_rfl) (by kernel_rfl) (by kernel_rfl) (fun _ _ _ h => h) (Or.inl ⟨by rfl, ?_⟩) (by assumption) ?_
  rotate_left 1
  · (intro w' hSw; obtain ⟨s0, s1, s2, s3⟩ := hSw; go_simp); try with_reducible rfl
  try simp only [Act.put, List.setIfInBounds_toArray, List.set_cons_zero, List.set_cons_succ, Nat.zero_add]
  refine wpAnyY_take (i := 8) (v := ?_) rfl (by kernel_rfl) (by kernel_rfl) (by kernel_rfl) (by kernel_rfl) (fun _ _ _ h => h) (Or.inl ⟨by rfl, ?_⟩) (by assumption) ?_
  rotate_left 1
  · (intro w' hSw; obtain ⟨s0, s1, s2, s3⟩ := hSw; go_simp); try with_reducible rfl
  try simp only [Act.put, List.setIfInBounds_toArray, List.set_cons_zero, List.set_cons_succ, Nat.zero_add]
  refine wpAnyY_take (i := 9) (v := ?_) rfl (by kernel_rfl) (by kernel_rfl) (by kernel_rfl) (by kernel_rfl) (fun _ _ _ h => h) (Or.inl ⟨by rfl, ?_⟩) (by assumption) ?_
  rotate_left 1
  · (intro w' hSw; obtain ⟨s0, s1, s2, s3⟩ := hSw; go_simp); try with_reducible rfl
  try simp only [Act.put, List.setIfInBounds_toArray, List.set_cons_zero, List.set_cons_succ, Nat.zero_add]
  refine wpAnyY_take (i := 10) (v := ?_) rfl (by kernel_rfl) (by kernel_rfl) (by kernel_rfl) (by kernel_rfl) (fun _ _ _ h => h) (Or.inl ⟨by rfl, ?_⟩) (by assumption) ?_
  rotate_left 1
  · (intro w' hSw; obtain ⟨s0, s1, s2, s3⟩ := hSw; go_simp); try with_reducible rfl
  try simp only [Act.put, List.setIfInBounds_toArray, List.set_cons_zero, List.set_cons_succ, Nat.zero_add]
  refine wpAnyY_two (i := 1) (j := 11) rfl rfl (by kernel_rfl) (fun K hK => ?_) (fun K hK => ?_)
  · go_simp
    obtain ⟨s1, hs1⟩ : ∃ q, u.heap.size = q := ⟨_, rfl⟩
    have HE1N1 : Hid (OwnRow 2 27 EModel F (u.alloc (.cells #[] 27)) w.heap.size (.slice (some ⟨s1, 0, none⟩) 0 0) ([] : List AModel)) := Lib.hid (by rw [← hs1]; exact OwnRow.made _ 2 u HBU.out.size)
    obtain ⟨w1, hnw⟩ : ∃ x : World, u.alloc (.cells #[] 27) = x := ⟨_, rfl⟩
    have hb3 : Below u.heap.size u w1 := by rw [← hnw]; exact (Below.refl _ _).alloc (Nat.le_refl _) _
    rw [hnw] at HE1N1
    (try rw [hnw])
    (try rw [hs1])
    clear hnw hs1
    have HBN1 := Lib.hid (HBU.out.trans (hb3.mono HBU.out.size))
    have HMN1 := Lib.hid (HMU.out.below hb3 HMU.out.lt)
    clear HBU HMU
    clear hb3
    refine hK.out _ _ (fun _ => HSS.out _ HMN1.out) ?_
    have hHeldN1 := HSS.out _ HMN1.out
    clear hK K
    try simp only [Act.put, List.setIfInBounds_toArray, List.set_cons_zero, List.set_cons_succ, Nat.zero_add]
    refine wpAnyY_two (i := 6) (j := 11) rfl rfl (by kernel_rfl) (fun K hK => ?_) (fun K hK => ?_)
    · refine step_dup (P := Try.prog) (E := EModel) (F := F) (l := ahead) EModel.stays w1 (by rfl) (.tmp 10) (.tmp 14) 22 (by rfl) 27 Try.underlying22 model_info rfl (by omega) w.heap.size s1 (by rfl) HE1N1.out A c (by rfl) (HRA.out.keep EModel.stays (Keep.below HBN1.out hF) (fun _ h => h)) (fun _ _ h => h.one) (fun b hb => Nat.lt_of_lt_of_le (hF b hb) HBN1.out.size) (by unfold maxLen; omega) (by omega) HBN1.out.size ?_
      intro A6 c6 w6 hown hb3
      have HA6N6 := Lib.hid hown
      have HBN6 := Lib.hid (HBN1.out.trans (hb3.mono HBN1.out.size))
      have HMN6 := Lib.hid (HMN1.out.below hb3 HMN1.out.lt)
      clear HBN1 HMN1
      clear hown hb3
      refine hK.out _ _ (fun _ => HSS.out _ HMN6.out) ?_
      have hHeldN6 := HSS.out _ HMN6.out
      clear hK K
      try simp only [Act.put, List.setIfInBounds_toArray, List.set_cons_zero, List.set_cons_succ, Nat.zero_add]
      refine wpAnyY_one (i := 11) rfl (by kernel_rfl) (fun K hK => ?_)
      go_simp
      obtain ⟨s11, hs11⟩ : ∃ q, w6.heap.size = q := ⟨_, rfl⟩
      obtain ⟨w11, hnw⟩ : ∃ x : World, w6.alloc (.cells #[.int .i64 here.next, .slice X here.nodes.length cx] 27) = x := ⟨_, rfl⟩
      have hb3 : Below w6.heap.size w6 w11 := by rw [← hnw]; exact (Below.refl _ _).alloc (Nat.le_refl _) _
      have hw3 := HBN6.out.size
      have HQ11N11 : Hid (Blk w11 s11 27 #[.int .i64 here.next, .slice X here.nodes.length cx]) := Lib.hid (by rw [← hnw]; exact Blk.new' hs11.symm)
      have HS11 : Hid (w.heap.size ≤ s11) := Lib.hid (by omega)
      (try rw [hnw])
      (try rw [hs11])
      clear hnw hs11 hw3
      have HBN11 := Lib.hid (HBN6.out.trans (hb3.mono HBN6.out.size))
      have HMN11 := Lib.hid (HMN6.out.below hb3 HMN6.out.lt)
      have HA6N11 := Lib.hid (HA6N6.out.below EModel.stays hb3)
      clear HBN6 HMN6 HA6N6
      have HX11N11 : Hid (OwnRow 2 27 EModel F w11 w.heap.size (.slice (some ⟨s11, 0, none⟩) 1 1) [here]) := Lib.hid (OwnRow.one (cs := [.int .i64 here.next, .slice X here.nodes.length cx]) HQ11N11.out HS11.out rfl ⟨_, rfl, X, cx, rfl, HCX.out.1, HCX.out.2, HRX.out.keep ENode.stays (Keep.below HBN11.out hF) (oth_of hF HBN11.out.size (fun b e => by obtain rfl : s11 = b := (by injection e); exact HS11.out))⟩)
      clear hb3 HX11N11
      refine hK.out _ _ (fun _ => HSS.out _ HMN11.out) ?_
      have hHeldN11 := HSS.out _ HMN11.out
      clear hK K
      try simp only [Act.put, List.setIfInBounds_toArray, List.set_cons_zero, List.set_cons_succ, Nat.zero_add]
      refine wpAnyY_one (i := 12) rfl (by kernel_rfl) (fun K hK => ?_)
      have hvb : ∀ b, (.slice A6 ahead.length c6 : Value).ownBlock = some b → w.heap.size ≤ b := by
        obtain ⟨xs, ho⟩ := HA6N11.out.owns
        exact fun b e => (ho.lt b e).1
      have hcell := news_cells HQ11N11.out
      refine step_many (P := Try.prog) (E := EModel) (F := F) EModel.stays w11 (by rfl) (.tmp 15) (.tmp 20) 22 (by rfl) w.heap.size 27 Try.underlying22 model_info rfl (by omega) (.slice A6 ahead.length c6) ahead (by rfl) HA6N11.out (some ⟨s11, 0, none⟩) 1 [here] [[.int .i64 here.next, .slice X here.nodes.length cx]] (by rfl) rfl (fun cs hcs => by simp at hcs; subst hcs; rfl) (fun i hi hi' => by
          have hi0 : i = 0 := by simp at hi; omega
          subst hi0
          exact ⟨_, rfl, X, cx, rfl, HCX.out.1, HCX.out.2, HRX.out.keep ENode.stays (Keep.below HBN11.out hF) (oth_of hF HBN11.out.size hvb)⟩) (fun e => by cases e) (fun ad e => by cases e; simpa using hcell) (fun cs hcs u hu => by
          simp at hcs; subst hcs
          simp at hu
          rcases hu with rfl | rfl <;> rfl) (by simp only [List.length_cons, List.length_nil]; unfold maxLen; omega) (by simp only [List.length_cons, List.length_nil]; omega) HBN11.out.size ?_
      intro A12 c12 w12 hown hg hat
      have hb3 : Below w.heap.size w w12 := HBN11.out.grown hg HBN11.out.size (fun k e => hvb k e)
      have HBN12 := Lib.hid hb3
      have HMN12 := Lib.hid (HMN11.out.grown hg (fun e => by have := hvb _ e.symm; omega))
      have HA12N12 := Lib.hid hown
      clear hb3 hown hg hat hvb hcell HBN11 HMN11
      rw [show ([here] : List AModel).length = 1 from rfl] at HA12N12 ⊢
      refine hK.out _ _ (fun _ => HSS.out _ HMN12.out) ?_
      have hHeldN12 := HSS.out _ HMN12.out
      have z0 := HMN12.out.frozen 0
      clear hK K
      try simp only [Act.put, List.setIfInBounds_toArray, List.set_cons_zero, List.set_cons_succ, Nat.zero_add]
      refine wpAnyY_take0 (i := 13) (v := ?_) rfl (by kernel_rfl) (by kernel_rfl) (by kernel_rfl) (by kernel_rfl) (fun _ _ _ h => h) (Or.inl ⟨by rfl, ?_⟩) ?_
      rotate_left 1
      · (intro w' _; go_simp); try with_reducible rfl
      try simp only [Act.put, List.setIfInBounds_toArray, List.set_cons_zero, List.set_cons_succ, Nat.zero_add]
      refine wpAnyY_take (i := 14) (v := ?_) rfl (by kernel_rfl) (by kernel_rfl) (by kernel_rfl) (by kernel_rfl) (fun _ _ _ h => h) (Or.inl ⟨by rfl, ?_⟩) (by assumption) ?_
      rotate_left 1
      · (intro w' hSw; obtain ⟨s0, s1, s2, s3⟩ := hSw; go_simp); try with_reducible rfl
      try simp only [Act.put, List.setIfInBounds_toArray, List.set_cons_zero, List.set_cons_succ, Nat.zero_add]
      refine wpAnyY_one0 (i := 15) rfl (by kernel_rfl) (by kernel_rfl) (fun K hK => ?_)
      go_simp
      refine hK.out _ _ ?_
      clear z0
      clear hK K
      try simp only [Act.put, List.setIfInBounds_toArray, List.set_cons_zero, List.set_cons_succ, Nat.zero_add]
      refine wpAnyY_done (by kernel_rfl) ?_ _
      obtain ⟨w6, hw6⟩ : ∃ x, w12.setCell ⟨p, 0, none⟩ (.slice A12 (ahead.length + 1) c12) = x := ⟨_, rfl⟩
      have HM6 : Hid (Blk w6 p 49 #[.slice A12 (ahead.length + 1) c12, .int .i64 here.next, .slice X here.nodes.length cx, .slice (some ⟨bA, offA, none⟩) (k + 1) d]) := Lib.hid (by rw [← hw6]; simpa using HMN12.out.set_ 0 (.slice A12 (ahead.length + 1) c12))
      have HK6 : Hid (KeepO (· = p) w w6) := Lib.hid (by rw [← hw6]; exact KeepO.setp ((KeepO.refl _ _).below HBN12.out) _ _)
      have HR6 : Hid (IsRow 2 EModel w12 (fun b => F b ∨ (w.heap.size ≤ b ∧ b < w12.heap.size)) (.slice A12 (ahead.length + 1) c12) (ahead ++ [here])) := Lib.hid (HA12N12.out.isRow EModel.stays (F' := fun b => F b ∨ (w.heap.size ≤ b ∧ b < w12.heap.size)) (fun b h1 _ => .inl h1) (fun b h1 h2 => .inr ⟨h1, h2⟩))
      have HSZ : Hid (w6.heap.size = w12.heap.size) := Lib.hid (by rw [← hw6]; simp)
      have HFR : Hid (∀ q, q ≠ p → w6.heap[q]? = w12.heap[q]?) := Lib.hid (fun q hq => by rw [← hw6]; exact Below.heap_setCell _ _ _ _ hq)
      (try rw [hw6])
      clear hw6 HMN12 HA12N12
      have HD6 : Hid (w6.cell? ⟨bA, offA, none⟩ = some (.int .i64 m.next) ∧ w6.cell? ⟨bA, offA + 1, none⟩ = some (.slice SA m.nodes.length cA)) := Lib.hid (by
        obtain ⟨d0, d1⟩ := HD.out _ HBN12.out
        exact ⟨(World.cell?_of_block (HFR.out _ hbp)).trans d0, (World.cell?_of_block (HFR.out _ hbp)).trans d1⟩)
      have p0 := HM6.out.cell 0; have p1 := HM6.out.cell 1; have p2 := HM6.out.cell 2; have p3 := HM6.out.cell 3
      have z1 := HM6.out.frozen 1; have z2 := HM6.out.frozen 2; have z3 := HM6.out.frozen 3
      have hp6 := HM6.out.lt
      obtain ⟨d0, d1⟩ := HD6.out
      simp at p0 p1 p2 p3
      have k1 : (0 : Int) < (k : Int) + 1 := by omega
      have k2 : (1 : Int) ≤ (k : Int) + 1 := by omega
      by_cases hd1 : d = 1
      · have hk0 : k = 0 := by omega
        have hbe : behind = [] := List.eq_nil_of_length_eq_zero (by rw [HK.out]; exact hk0)
        have HRT : Hid (RowOf 2 EModel w F (some ⟨bA, offA, none⟩) behind) := Lib.hid (by rw [hbe]; exact RowOf.nil _)
        clear hbe hk0
        go_wp2
        go_ret
        have hf := ((HM6.out.set_ 1 (.int .i64 m.next)).set_ 2 (.slice SA m.nodes.length cA)).set_ 3 (.slice (some ⟨bA, offA, none⟩) k 0)
        simp at hf
        have hfar : ∀ q, q ≠ p → (((w6.setCell ⟨p, 1, none⟩ (.int .i64 m.next)).setCell ⟨p, 2, none⟩ (.slice SA m.nodes.length cA)).setCell ⟨p, 3, none⟩ (.slice (some ⟨bA, offA, none⟩) k 0)).heap[q]? = w12.heap[q]? := fun q hq => (Below.heap_setCell _ _ _ _ hq).trans ((Below.heap_setCell _ _ _ _ hq).trans ((Below.heap_setCell _ _ _ _ hq).trans (HFR.out q hq)))
        have hkf : Keep F w (((w6.setCell ⟨p, 1, none⟩ (.int .i64 m.next)).setCell ⟨p, 2, none⟩ (.slice SA m.nodes.length cA)).setCell ⟨p, 3, none⟩ (.slice (some ⟨bA, offA, none⟩) k 0)) := fun q hq => (World.cell?_of_block (hfar q.block (fun e => hpF (e ▸ hq)))).trans (HBN12.out.cell (hF _ hq))
        refine ⟨rfl, KeepO.setp (KeepO.setp (KeepO.setp HK6.out _ _) _ _) _ _, ⟨_, _, _, _, _, _, _, hf, ?_, ⟨SA, cA, rfl, HCM.out.1, HCM.out.2, HRM.out.keep ENode.stays hkf (fun _ h => .inl h)⟩, ⟨some ⟨bA, offA, none⟩, 0, by rw [HK.out], by have := HC.out.2; rw [HK.out]; omega, by have := HC.out.2; omega, HRT.out.keep EModel.stays hkf (fun _ h => .inl h)⟩⟩⟩
        refine HR6.out.keep EModel.stays (fun q hq => World.cell?_of_block (hfar _ ?_)) (fun b hb => hb.elim .inl fun h => .inr ⟨h.1, by have := HSZ.out; simp; omega⟩)
        rcases hq with hq | hq
        · exact fun e => hpF (e ▸ hq)
        · have := hq.1; omega
      · have HRT : Hid (RowOf 2 EModel w F (some ⟨bA, offA + 2, none⟩) behind) := Lib.hid HRB.out.tl
        go_wp2
        go_ret
        have hf := ((HM6.out.set_ 1 (.int .i64 m.next)).set_ 2 (.slice SA m.nodes.length cA)).set_ 3 (.slice (some ⟨bA, (offA + 2), none⟩) k (d - 1))
        simp at hf
        have hfar : ∀ q, q ≠ p → (((w6.setCell ⟨p, 1, none⟩ (.int .i64 m.next)).setCell ⟨p, 2, none⟩ (.slice SA m.nodes.length cA)).setCell ⟨p, 3, none⟩ (.slice (some ⟨bA, (offA + 2), none⟩) k (d - 1))).heap[q]? = w12.heap[q]? := fun q hq => (Below.heap_setCell _ _ _ _ hq).trans ((Below.heap_setCell _ _ _ _ hq).trans ((Below.heap_setCell _ _ _ _ hq).trans (HFR.out q hq)))
        have hkf : Keep F w (((w6.setCell ⟨p, 1, none⟩ (.int .i64 m.next)).setCell ⟨p, 2, none⟩ (.slice SA m.nodes.length cA)).setCell ⟨p, 3, none⟩ (.slice (some ⟨bA, (offA + 2), none⟩) k (d - 1))) := fun q hq => (World.cell?_of_block (hfar q.block (fun e => hpF (e ▸ hq)))).trans (HBN12.out.cell (hF _ hq))
        refine ⟨rfl, KeepO.setp (KeepO.setp (KeepO.setp HK6.out _ _) _ _) _ _, ⟨_, _, _, _, _, _, _, hf, ?_, ⟨SA, cA, rfl, HCM.out.1, HCM.out.2, HRM.out.keep ENode.stays hkf (fun _ h => .inl h)⟩, ⟨some ⟨bA, (offA + 2), none⟩, (d - 1), by rw [HK.out], by have := HC.out.2; rw [HK.out]; omega, by have := HC.out.2; omega, HRT.out.keep EModel.stays hkf (fun _ h => .inl h)⟩⟩⟩
        refine HR6.out.keep EModel.stays (fun q hq => World.cell?_of_block (hfar _ ?_)) (fun b hb => hb.elim .inl fun h => .inr ⟨h.1, by have := HSZ.out; simp; omega⟩)
        rcases hq with hq | hq
        · exact fun e => hpF (e ▸ hq)
        · have := hq.1; omega
    · go_simp
      obtain ⟨s11, hs11⟩ : ∃ q, w1.heap.size = q := ⟨_, rfl⟩
      obtain ⟨w11, hnw⟩ : ∃ x : World, w1.alloc (.cells #[.int .i64 here.next, .slice X here.nodes.length cx] 27) = x := ⟨_, rfl⟩
      have hb3 : Below w1.heap.size w1 w11 := by rw [← hnw]; exact (Below.refl _ _).alloc (Nat.le_refl _) _
      have hw3 := HBN1.out.size
      have HQ11N11 : Hid (Blk w11 s11 27 #[.int .i64 here.next, .slice X here.nodes.length cx]) := Lib.hid (by rw [← hnw]; exact Blk.new' hs11.symm)
      have HS11 : Hid (w.heap.size ≤ s11) := Lib.hid (by omega)
      (try rw [hnw])
      (try rw [hs11])
      clear hnw hs11 hw3
      have HBN11 := Lib.hid (HBN1.out.trans (hb3.mono HBN1.out.size))
      have HMN11 := Lib.hid (HMN1.out.below hb3 HMN1.out.lt)
      have HE1N11 := Lib.hid (HE1N1.out.below EModel.stays hb3)
      clear HBN1 HMN1 HE1N1
      have HX11N11 : Hid (OwnRow 2 27 EModel F w11 w.heap.size (.slice (some ⟨s11, 0, none⟩) 1 1) [here]) := Lib.hid (OwnRow.one (cs := [.int .i64 here.next, .slice X here.nodes.length cx]) HQ11N11.out HS11.out rfl ⟨_, rfl, X, cx, rfl, HCX.out.1, HCX.out.2, HRX.out.keep ENode.stays (Keep.below HBN11.out hF) (oth_of hF HBN11.out.size (fun b e => by obtain rfl : s11 = b := (by injection e); exact HS11.out))⟩)
      clear hb3 HX11N11
      refine hK.out _ _ (fun _ => HSS.out _ HMN11.out) ?_
      have hHeldN11 := HSS.out _ HMN11.out
      clear hK K
      try simp only [Act.put, List.setIfInBounds_toArray, List.set_cons_zero, List.set_cons_succ, Nat.zero_add]
      refine wpAnyY_one (i := 6) rfl (by kernel_rfl) (fun K hK => ?_)
      refine step_dup (P := Try.prog) (E := EModel) (F := F) (l := ahead) EModel.stays w11 (by rfl) (.tmp 10) (.tmp 14) 22 (by rfl) 27 Try.underlying22 model_info rfl (by omega) w.heap.size s1 (by rfl) HE1N11.out A c (by rfl) (HRA.out.keep EModel.stays (Keep.below HBN11.out hF) (fun _ h => h)) (fun _ _ h => h.one) (fun b hb => Nat.lt_of_lt_of_le (hF b hb) HBN11.out.size) (by unfold maxLen; omega) (by omega) HBN11.out.size ?_
      intro A6 c6 w6 hown hb3
      have HA6N6 := Lib.hid hown
      have HBN6 := Lib.hid (HBN11.out.trans (hb3.mono HBN11.out.size))
      have HMN6 := Lib.hid (HMN11.out.below hb3 HMN11.out.lt)
      have HQ11N6 := Lib.hid (HQ11N11.out.below hb3 HQ11N11.out.lt)
      clear HBN11 HMN11 HQ11N11
      clear hown hb3
      refine hK.out _ _ (fun _ => HSS.out _ HMN6.out) ?_
      have hHeldN6 := HSS.out _ HMN6.out
      clear hK K
      try simp only [Act.put, List.setIfInBounds_toArray, List.set_cons_zero, List.set_cons_succ, Nat.zero_add]
      refine wpAnyY_one (i := 12) rfl (by kernel_rfl) (fun K hK => ?_)
      have hvb : ∀ b, (.slice A6 ahead.length c6 : Value).ownBlock = some b → w.heap.size ≤ b := by
        obtain ⟨xs, ho⟩ := HA6N6.out.owns
        exact fun b e => (ho.lt b e).1
      have hcell := news_cells HQ11N6.out
      refine step_many (P := Try.prog) (E := EModel) (F := F) EModel.stays w6 (by rfl) (.tmp 15) (.tmp 20) 22 (by rfl) w.heap.size 27 Try.underlying22 model_info rfl (by omega) (.slice A6 ahead.length c6) ahead (by rfl) HA6N6.out (some ⟨s11, 0, none⟩) 1 [here] [[.int .i64 here.next, .slice X here.nodes.length cx]] (by rfl) rfl (fun cs hcs => by simp at hcs; subst hcs; rfl) (fun i hi hi' => by
          have hi0 : i = 0 := by simp at hi; omega
          subst hi0
          exact ⟨_, rfl, X, cx, rfl, HCX.out.1, HCX.out.2, HRX.out.keep ENode.stays (Keep.below HBN6.out hF) (oth_of hF HBN6.out.size hvb)⟩) (fun e => by cases e) (fun ad e => by cases e; simpa using hcell) (fun cs hcs u hu => by
          simp at hcs; subst hcs
          simp at hu
          rcases hu with rfl | rfl <;> rfl) (by simp only [List.length_cons, List.length_nil]; unfold maxLen; omega) (by simp only [List.length_cons, List.length_nil]; omega) HBN6.out.size ?_
      intro A12 c12 w12 hown hg hat
      have hb3 : Below w.heap.size w w12 := HBN6.out.grown hg HBN6.out.size (fun k e => hvb k e)
      have HBN12 := Lib.hid hb3
      have HMN12 := Lib.hid (HMN6.out.grown hg (fun e => by have := hvb _ e.symm; omega))
      have HA12N12 := Lib.hid hown
      clear hb3 hown hg hat hvb hcell HBN6 HMN6
      rw [show ([here] : List AModel).length = 1 from rfl] at HA12N12 ⊢
      refine hK.out _ _ (fun _ => HSS.out _ HMN12.out) ?_
      have hHeldN12 := HSS.out _ HMN12.out
      have z0 := HMN12.out.frozen 0
      clear hK K
      try simp only [Act.put, List.setIfInBounds_toArray, List.set_cons_zero, List.set_cons_succ, Nat.zero_add]
      refine wpAnyY_take0 (i := 13) (v := ?_) rfl (by kernel_rfl) (by kernel_rfl) (by kernel_rfl) (by kernel_rfl) (fun _ _ _ h => h) (Or.inl ⟨by rfl, ?_⟩) ?_
      rotate_left 1
      · (intro w' _; go_simp); try with_reducible rfl
      try simp only [Act.put, List.setIfInBounds_toArray, List.set_cons_zero, List.set_cons_succ, Nat.zero_add]
      refine wpAnyY_take (i := 14) (v := ?_) rfl (by kernel_rfl) (by kernel_rfl) (by kernel_rfl) (by kernel_rfl) (fun _ _ _ h => h) (Or.inl ⟨by rfl, ?_⟩) (by assumption) ?_
      rotate_left 1
      · (intro w' hSw; obtain ⟨s0, s1, s2, s3⟩ := hSw; go_simp); try with_reducible rfl
      try simp only [Act.put, List.setIfInBounds_toArray, List.set_cons_zero, List.set_cons_succ, Nat.zero_add]
      refine wpAnyY_one0 (i := 15) rfl (by kernel_rfl) (by kernel_rfl) (fun K hK => ?_)
      go_simp
      refine hK.out _ _ ?_
      clear z0
      clear hK K
      try simp only [Act.put, List.setIfInBounds_toArray, List.set_cons_zero, List.set_cons_succ, Nat.zero_add]
      refine wpAnyY_done (by kernel_rfl) ?_ _
      obtain ⟨w6, hw6⟩ : ∃ x, w12.setCell ⟨p, 0, none⟩ (.slice A12 (ahead.length + 1) c12) = x := ⟨_, rfl⟩
      have HM6 : Hid (Blk w6 p 49 #[.slice A12 (ahead.length + 1) c12, .int .i64 here.next, .slice X here.nodes.length cx, .slice (some ⟨bA, offA, none⟩) (k + 1) d]) := Lib.hid (by rw [← hw6]; simpa using HMN12.out.set_ 0 (.slice A12 (ahead.length + 1) c12))
      have HK6 : Hid (KeepO (· = p) w w6) := Lib.hid (by rw [← hw6]; exact KeepO.setp ((KeepO.refl _ _).below HBN12.out) _ _)
      have HR6 : Hid (IsRow 2 EModel w12 (fun b => F b ∨ (w.heap.size ≤ b ∧ b < w12.heap.size)) (.slice A12 (ahead.length + 1) c12) (ahead ++ [here])) := Lib.hid (HA12N12.out.isRow EModel.stays (F' := fun b => F b ∨ (w.heap.size ≤ b ∧ b < w12.heap.size)) (fun b h1 _ => .inl h1) (fun b h1 h2 => .inr ⟨h1, h2⟩))
      have HSZ : Hid (w6.heap.size = w12.heap.size) := Lib.hid (by rw [← hw6]; simp)
      have HFR : Hid (∀ q, q ≠ p → w6.heap[q]? = w12.heap[q]?) := Lib.hid (fun q hq => by rw [← hw6]; exact Below.heap_setCell _ _ _ _ hq)
      (try rw [hw6])
      clear hw6 HMN12 HA12N12
      have HD6 : Hid (w6.cell? ⟨bA, offA, none⟩ = some (.int .i64 m.next) ∧ w6.cell? ⟨bA, offA + 1, none⟩ = some (.slice SA m.nodes.length cA)) := Lib.hid (by
        obtain ⟨d0, d1⟩ := HD.out _ HBN12.out
        exact ⟨(World.cell?_of_block (HFR.out _ hbp)).trans d0, (World.cell?_of_block (HFR.out _ hbp)).trans d1⟩)
      have p0 := HM6.out.cell 0; have p1 := HM6.out.cell 1; have p2 := HM6.out.cell 2; have p3 := HM6.out.cell 3
      have z1 := HM6.out.frozen 1; have z2 := HM6.out.frozen 2; have z3 := HM6.out.frozen 3
      have hp6 := HM6.out.lt
      obtain ⟨d0, d1⟩ := HD6.out
      simp at p0 p1 p2 p3
      have k1 : (0 : Int) < (k : Int) + 1 := by omega
      have k2 : (1 : Int) ≤ (k : Int) + 1 := by omega
      by_cases hd1 : d = 1
      · have hk0 : k = 0 := by omega
        have hbe : behind = [] := List.eq_nil_of_length_eq_zero (by rw [HK.out]; exact hk0)
        have HRT : Hid (RowOf 2 EModel w F (some ⟨bA, offA, none⟩) behind) := Lib.hid (by rw [hbe]; exact RowOf.nil _)
        clear hbe hk0
        go_wp2
        go_ret
        have hf := ((HM6.out.set_ 1 (.int .i64 m.next)).set_ 2 (.slice SA m.nodes.length cA)).set_ 3 (.slice (some ⟨bA, offA, none⟩) k 0)
        simp at hf
        have hfar : ∀ q, q ≠ p → (((w6.setCell ⟨p, 1, none⟩ (.int .i64 m.next)).setCell ⟨p, 2, none⟩ (.slice SA m.nodes.length cA)).setCell ⟨p, 3, none⟩ (.slice (some ⟨bA, offA, none⟩) k 0)).heap[q]? = w12.heap[q]? := fun q hq => (Below.heap_setCell _ _ _ _ hq).trans ((Below.heap_setCell _ _ _ _ hq).trans ((Below.heap_setCell _ _ _ _ hq).trans (HFR.out q hq)))
        have hkf : Keep F w (((w6.setCell ⟨p, 1, none⟩ (.int .i64 m.next)).setCell ⟨p, 2, none⟩ (.slice SA m.nodes.length cA)).setCell ⟨p, 3, none⟩ (.slice (some ⟨bA, offA, none⟩) k 0)) := fun q hq => (World.cell?_of_block (hfar q.block (fun e => hpF (e ▸ hq)))).trans (HBN12.out.cell (hF _ hq))
        refine ⟨rfl, KeepO.setp (KeepO.setp (KeepO.setp HK6.out _ _) _ _) _ _, ⟨_, _, _, _, _, _, _, hf, ?_, ⟨SA, cA, rfl, HCM.out.1, HCM.out.2, HRM.out.keep ENode.stays hkf (fun _ h => .inl h)⟩, ⟨some ⟨bA, offA, none⟩, 0, by rw [HK.out], by have := HC.out.2; rw [HK.out]; omega, by have := HC.out.2; omega, HRT.out.keep EModel.stays hkf (fun _ h => .inl h)⟩⟩⟩
        refine HR6.out.keep EModel.stays (fun q hq => World.cell?_of_block (hfar _ ?_)) (fun b hb => hb.elim .inl fun h => .inr ⟨h.1, by have := HSZ.out; simp; omega⟩)
        rcases hq with hq | hq
        · exact fun e => hpF (e ▸ hq)
        · have := hq.1; omega
      · have HRT : Hid (RowOf 2 EModel w F (some ⟨bA, offA + 2, none⟩) behind) := Lib.hid HRB.out.tl
        go_wp2
        go_ret
        have hf := ((HM6.out.set_ 1 (.int .i64 m.next)).set_ 2 (.slice SA m.nodes.length cA)).set_ 3 (.slice (some ⟨bA, (offA + 2), none⟩) k (d - 1))
        simp at hf
        have hfar : ∀ q, q ≠ p → (((w6.setCell ⟨p, 1, none⟩ (.int .i64 m.next)).setCell ⟨p, 2, none⟩ (.slice SA m.nodes.length cA)).setCell ⟨p, 3, none⟩ (.slice (some ⟨bA, (offA + 2), none⟩) k (d - 1))).heap[q]? = w12.heap[q]? := fun q hq => (Below.heap_setCell _ _ _ _ hq).trans ((Below.heap_setCell _ _ _ _ hq).trans ((Below.heap_setCell _ _ _ _ hq).trans (HFR.out q hq)))
        have hkf : Keep F w (((w6.setCell ⟨p, 1, none⟩ (.int .i64 m.next)).setCell ⟨p, 2, none⟩ (.slice SA m.nodes.length cA)).setCell ⟨p, 3, none⟩ (.slice (some ⟨bA, (offA + 2), none⟩) k (d - 1))) := fun q hq => (World.cell?_of_block (hfar q.block (fun e => hpF (e ▸ hq)))).trans (HBN12.out.cell (hF _ hq))
        refine ⟨rfl, KeepO.setp (KeepO.setp (KeepO.setp HK6.out _ _) _ _) _ _, ⟨_, _, _, _, _, _, _, hf, ?_, ⟨SA, cA, rfl, HCM.out.1, HCM.out.2, HRM.out.keep ENode.stays hkf (fun _ h => .inl h)⟩, ⟨some ⟨bA, (offA + 2), none⟩, (d - 1), by rw [HK.out], by have := HC.out.2; rw [HK.out]; omega, by have := HC.out.2; omega, HRT.out.keep EModel.stays hkf (fun _ h => .inl h)⟩⟩⟩
        refine HR6.out.keep EModel.stays (fun q hq => World.cell?_of_block (hfar _ ?_)) (fun b hb => hb.elim .inl fun h => .inr ⟨h.1, by have := HSZ.out; simp; omega⟩)
        rcases hq with hq | hq
        · exact fun e => hpF (e ▸ hq)
        · have := hq.1; omega
  · go_simp
    obtain ⟨s11, hs11⟩ : ∃ q, u.heap.size = q := ⟨_, rfl⟩
    obtain ⟨w11, hnw⟩ : ∃ x : World, u.alloc (.cells #[.int .i64 here.next, .slice X here.nodes.length cx] 27) = x := ⟨_, rfl⟩
    have hb3 : Below u.heap.size u w11 := by rw [← hnw]; exact (Below.refl _ _).alloc (Nat.le_refl _) _
    have hw3 := HBU.out.size
    have HQ11N11 : Hid (Blk w11 s11 27 #[.int .i64 here.next, .slice X here.nodes.length cx]) := Lib.hid (by rw [← hnw]; exact Blk.new' hs11.symm)
    have HS11 : Hid (w.heap.size ≤ s11) := Lib.hid (by omega)
    (try rw [hnw])
    (try rw [hs11])
    clear hnw hs11 hw3
    have HBN11 := Lib.hid (HBU.out.trans (hb3.mono HBU.out.size))
    have HMN11 := Lib.hid (HMU.out.below hb3 HMU.out.lt)
    clear HBU HMU
    have HX11N11 : Hid (OwnRow 2 27 EModel F w11 w.heap.size (.slice (some ⟨s11, 0, none⟩) 1 1) [here]) := Lib.hid (OwnRow.one (cs := [.int .i64 here.next, .slice X here.nodes.length cx]) HQ11N11.out HS11.out rfl ⟨_, rfl, X, cx, rfl, HCX.out.1, HCX.out.2, HRX.out.keep ENode.stays (Keep.below HBN11.out hF) (oth_of hF HBN11.out.size (fun b e => by obtain rfl : s11 = b := (by injection e); exact HS11.out))⟩)
    clear hb3 HX11N11
    refine hK.out _ _ (fun _ => HSS.out _ HMN11.out) ?_
    have hHeldN11 := HSS.out _ HMN11.out
    clear hK K
    try simp only [Act.put, List.setIfInBounds_toArray, List.set_cons_zero, List.set_cons_succ, Nat.zero_add]
    refine wpAnyY_one (i := 1) rfl (by kernel_rfl) (fun K hK => ?_)
    go_simp
    obtain ⟨s1, hs1⟩ : ∃ q, w11.heap.size = q := ⟨_, rfl⟩
    have HE1N1 : Hid (OwnRow 2 27 EModel F (w11.alloc (.cells #[] 27)) w.heap.size (.slice (some ⟨s1, 0, none⟩) 0 0) ([] : List AModel)) := Lib.hid (by rw [← hs1]; exact OwnRow.made _ 2 w11 HBN11.out.size)
    obtain ⟨w1, hnw⟩ : ∃ x : World, w11.alloc (.cells #[] 27) = x := ⟨_, rfl⟩
    have hb3 : Below w11.heap.size w11 w1 := by rw [← hnw]; exact (Below.refl _ _).alloc (Nat.le_refl _) _
    rw [hnw] at HE1N1
    (try rw [hnw])
    (try rw [hs1])
    clear hnw hs1
    have HBN1 := Lib.hid (HBN11.out.trans (hb3.mono HBN11.out.size))
    have HMN1 := Lib.hid (HMN11.out.below hb3 HMN11.out.lt)
    have HQ11N1 := Lib.hid (HQ11N11.out.below hb3 HQ11N11.out.lt)
    clear HBN11 HMN11 HQ11N11
    clear hb3
    refine hK.out _ _ (fun _ => HSS.out _ HMN1.out) ?_
    have hHeldN1 := HSS.out _ HMN1.out
    clear hK K
    try simp only [Act.put, List.setIfInBounds_toArray, List.set_cons_zero, List.set_cons_succ, Nat.zero_add]
    refine wpAnyY_one (i := 6) rfl (by kernel_rfl) (fun K hK => ?_)
    refine step_dup (P := Try.prog) (E := EModel) (F := F) (l := ahead) EModel.stays w1 (by rfl) (.tmp 10) (.tmp 14) 22 (by rfl) 27 Try.underlying22 model_info rfl (by omega) w.heap.size s1 (by rfl) HE1N1.out A c (by rfl) (HRA.out.keep EModel.stays (Keep.below HBN1.out hF) (fun _ h => h)) (fun _ _ h => h.one) (fun b hb => Nat.lt_of_lt_of_le (hF b hb) HBN1.out.size) (by unfold maxLen; omega) (by omega) HBN1.out.size ?_
    intro A6 c6 w6 hown hb3
    have HA6N6 := Lib.hid hown
    have HBN6 := Lib.hid (HBN1.out.trans (hb3.mono HBN1.out.size))
    have HMN6 := Lib.hid (HMN1.out.below hb3 HMN1.out.lt)
    have HQ11N6 := Lib.hid (HQ11N1.out.below hb3 HQ11N1.out.lt)
    clear HBN1 HMN1 HQ11N1
    clear hown hb3
    refine hK.out _ _ (fun _ => HSS.out _ HMN6.out) ?_
    have hHeldN6 := HSS.out _ HMN6.out
    clear hK K
    try simp only [Act.put, List.setIfInBounds_toArray, List.set_cons_zero, List.set_cons_succ, Nat.zero_add]
    refine wpAnyY_one (i := 12) rfl (by kernel_rfl) (fun K hK => ?_)
    have hvb : ∀ b, (.slice A6 ahead.length c6 : Value).ownBlock = some b → w.heap.size ≤ b := by
      obtain ⟨xs, ho⟩ := HA6N6.out.owns
      exact fun b e => (ho.lt b e).1
    have hcell := news_cells HQ11N6.out
    refine step_many (P := Try.prog) (E := EModel) (F := F) EModel.stays w6 (by rfl) (.tmp 15) (.tmp 20) 22 (by rfl) w.heap.size 27 Try.underlying22 model_info rfl (by omega) (.slice A6 ahead.length c6) ahead (by rfl) HA6N6.out (some ⟨s11, 0, none⟩) 1 [here] [[.int .i64 here.next, .slice X here.nodes.length cx]] (by rfl) rfl (fun cs hcs => by simp at hcs; subst hcs; rfl) (fun i hi hi' => by
        have hi0 : i = 0 := by simp at hi; omega
        subst hi0
        exact ⟨_, rfl, X, cx, rfl, HCX.out.1, HCX.out.2, HRX.out.keep ENode.stays (Keep.below HBN6.out hF) (oth_of hF HBN6.out.size hvb)⟩) (fun e => by cases e) (fun ad e => by cases e; simpa using hcell) (fun cs hcs u hu => by
        simp at hcs; subst hcs
        simp at hu
        rcases hu with rfl | rfl <;> rfl) (by simp only [List.length_cons, List.length_nil]; unfold maxLen; omega) (by simp only [List.length_cons, List.length_nil]; omega) HBN6.out.size ?_
    intro A12 c12 w12 hown hg hat
    have hb3 : Below w.heap.size w w12 := HBN6.out.grown hg HBN6.out.size (fun k e => hvb k e)
    have HBN12 := Lib.hid hb3
    have HMN12 := Lib.hid (HMN6.out.grown hg (fun e => by have := hvb _ e.symm; omega))
    have HA12N12 := Lib.hid hown
    clear hb3 hown hg hat hvb hcell HBN6 HMN6
    rw [show ([here] : List AModel).length = 1 from rfl] at HA12N12 ⊢
    refine hK.out _ _ (fun _ => HSS.out _ HMN12.out) ?_
    have hHeldN12 := HSS.out _ HMN12.out
    have z0 := HMN12.out.frozen 0
    clear hK K
    try simp only [Act.put, List.setIfInBounds_toArray, List.set_cons_zero, List.set_cons_succ, Nat.zero_add]
    refine wpAnyY_take0 (i := 13) (v := ?_) rfl (by kernel_rfl) (by kernel_rfl) (by kernel_rfl) (by kernel_rfl) (fun _ _ _ h => h) (Or.inl ⟨by rfl, ?_⟩) ?_
    rotate_left 1
    · (intro w' _; go_simp); try with_reducible rfl
    try simp only [Act.put, List.setIfInBounds_toArray, List.set_cons_zero, List.set_cons_succ, Nat.zero_add]
    refine wpAnyY_take (i := 14) (v := ?_) rfl (by kernel_rfl) (by kernel_rfl) (by kernel_rfl) (by kernel_rfl) (fun _ _ _ h => h) (Or.inl ⟨by rfl, ?_⟩) (by assumption) ?_
    rotate_left 1
    · (intro w' hSw; obtain ⟨s0, s1, s2, s3⟩ := hSw; go_simp); try with_reducible rfl
    try simp only [Act.put, List.setIfInBounds_toArray, List.set_cons_zero, List.set_cons_succ, Nat.zero_add]
    refine wpAnyY_one0 (i := 15) rfl (by kernel_rfl) (by kernel_rfl) (fun K hK => ?_)
    go_simp
    refine hK.out _ _ ?_
    clear z0
    clear hK K
    try simp only [Act.put, List.setIfInBounds_toArray, List.set_cons_zero, List.set_cons_succ, Nat.zero_add]
    refine wpAnyY_done (by kernel_rfl) ?_ _
    obtain ⟨w6, hw6⟩ : ∃ x, w12.setCell ⟨p, 0, none⟩ (.slice A12 (ahead.length + 1) c12) = x := ⟨_, rfl⟩
    have HM6 : Hid (Blk w6 p 49 #[.slice A12 (ahead.length + 1) c12, .int .i64 here.next, .slice X here.nodes.length cx, .slice (some ⟨bA, offA, none⟩) (k + 1) d]) := Lib.hid (by rw [← hw6]; simpa using HMN12.out.set_ 0 (.slice A12 (ahead.length + 1) c12))
    have HK6 : Hid (KeepO (· = p) w w6) := Lib.hid (by rw [← hw6]; exact KeepO.setp ((KeepO.refl _ _).below HBN12.out) _ _)
    have HR6 : Hid (IsRow 2 EModel w12 (fun b => F b ∨ (w.heap.size ≤ b ∧ b < w12.heap.size)) (.slice A12 (ahead.length + 1) c12) (ahead ++ [here])) := Lib.hid (HA12N12.out.isRow EModel.stays (F' := fun b => F b ∨ (w.heap.size ≤ b ∧ b < w12.heap.size)) (fun b h1 _ => .inl h1) (fun b h1 h2 => .inr ⟨h1, h2⟩))
    have HSZ : Hid (w6.heap.size = w12.heap.size) := Lib.hid (by rw [← hw6]; simp)
    have HFR : Hid (∀ q, q ≠ p → w6.heap[q]? = w12.heap[q]?) := Lib.hid (fun q hq => by rw [← hw6]; exact Below.heap_setCell _ _ _ _ hq)
    (try rw [hw6])
    clear hw6 HMN12 HA12N12
    have HD6 : Hid (w6.cell? ⟨bA, offA, none⟩ = some (.int .i64 m.next) ∧ w6.cell? ⟨bA, offA + 1, none⟩ = some (.slice SA m.nodes.length cA)) := Lib.hid (by
      obtain ⟨d0, d1⟩ := HD.out _ HBN12.out
      exact ⟨(World.cell?_of_block (HFR.out _ hbp)).trans d0, (World.cell?_of_block (HFR.out _ hbp)).trans d1⟩)
    have p0 := HM6.out.cell 0; have p1 := HM6.out.cell 1; have p2 := HM6.out.cell 2; have p3 := HM6.out.cell 3
    have z1 := HM6.out.frozen 1; have z2 := HM6.out.frozen 2; have z3 := HM6.out.frozen 3
    have hp6 := HM6.out.lt
    obtain ⟨d0, d1⟩ := HD6.out
    simp at p0 p1 p2 p3
    have k1 : (0 : Int) < (k : Int) + 1 := by omega
    have k2 : (1 : Int) ≤ (k : Int) + 1 := by omega
    by_cases hd1 : d = 1
    · have hk0 : k = 0 := by omega
      have hbe : behind = [] := List.eq_nil_of_length_eq_zero (by rw [HK.out]; exact hk0)
      have HRT : Hid (RowOf 2 EModel w F (some ⟨bA, offA, none⟩) behind) := Lib.hid (by rw [hbe]; exact RowOf.nil _)
      clear hbe hk0
      go_wp2
      go_ret
      have hf := ((HM6.out.set_ 1 (.int .i64 m.next)).set_ 2 (.slice SA m.nodes.length cA)).set_ 3 (.slice (some ⟨bA, offA, none⟩) k 0)
      simp at hf
      have hfar : ∀ q, q ≠ p → (((w6.setCell ⟨p, 1, none⟩ (.int .i64 m.next)).setCell ⟨p, 2, none⟩ (.slice SA m.nodes.length cA)).setCell ⟨p, 3, none⟩ (.slice (some ⟨bA, offA, none⟩) k 0)).heap[q]? = w12.heap[q]? := fun q hq => (Below.heap_setCell _ _ _ _ hq).trans ((Below.heap_setCell _ _ _ _ hq).trans ((Below.heap_setCell _ _ _ _ hq).trans (HFR.out q hq)))
      have hkf : Keep F w (((w6.setCell ⟨p, 1, none⟩ (.int .i64 m.next)).setCell ⟨p, 2, none⟩ (.slice SA m.nodes.length cA)).setCell ⟨p, 3, none⟩ (.slice (some ⟨bA, offA, none⟩) k 0)) := fun q hq => (World.cell?_of_block (hfar q.block (fun e => hpF (e ▸ hq)))).trans (HBN12.out.cell (hF _ hq))
      refine ⟨rfl, KeepO.setp (KeepO.setp (KeepO.setp HK6.out _ _) _ _) _ _, ⟨_, _, _, _, _, _, _, hf, ?_, ⟨SA, cA, rfl, HCM.out.1, HCM.out.2, HRM.out.keep ENode.stays hkf (fun _ h => .inl h)⟩, ⟨some ⟨bA, offA, none⟩, 0, by rw [HK.out], by have := HC.out.2; rw [HK.out]; omega, by have := HC.out.2; omega, HRT.out.keep EModel.stays hkf (fun _ h => .inl h)⟩⟩⟩
      refine HR6.out.keep EModel.stays (fun q hq => World.cell?_of_block (hfar _ ?_)) (fun b hb => hb.elim .inl fun h => .inr ⟨h.1, by have := HSZ.out; simp; omega⟩)
      rcases hq with hq | hq
      · exact fun e => hpF (e ▸ hq)
      · have := hq.1; omega
    · have HRT : Hid (RowOf 2 EModel w F (some ⟨bA, offA + 2, none⟩) behind) := Lib.hid HRB.out.tl
      go_wp2
      go_ret
      have hf := ((HM6.out.set_ 1 (.int .i64 m.next)).set_ 2 (.slice SA m.nodes.length cA)).set_ 3 (.slice (some ⟨bA, (offA + 2), none⟩) k (d - 1))
      simp at hf
      have hfar : ∀ q, q ≠ p → (((w6.setCell ⟨p, 1, none⟩ (.int .i64 m.next)).setCell ⟨p, 2, none⟩ (.slice SA m.nodes.length cA)).setCell ⟨p, 3, none⟩ (.slice (some ⟨bA, (offA + 2), none⟩) k (d - 1))).heap[q]? = w12.heap[q]? := fun q hq => (Below.heap_setCell _ _ _ _ hq).trans ((Below.heap_setCell _ _ _ _ hq).trans ((Below.heap_setCell _ _ _ _ hq).trans (HFR.out q hq)))
      have hkf : Keep F w (((w6.setCell ⟨p, 1, none⟩ (.int .i64 m.next)).setCell ⟨p, 2, none⟩ (.slice SA m.nodes.length cA)).setCell ⟨p, 3, none⟩ (.slice (some ⟨bA, (offA + 2), none⟩) k (d - 1))) := fun q hq => (World.cell?_of_block (hfar q.block (fun e => hpF (e ▸ hq)))).trans (HBN12.out.cell (hF _ hq))
      refine ⟨rfl, KeepO.setp (KeepO.setp (KeepO.setp HK6.out _ _) _ _) _ _, ⟨_, _, _, _, _, _, _, hf, ?_, ⟨SA, cA, rfl, HCM.out.1, HCM.out.2, HRM.out.keep ENode.stays hkf (fun _ h => .inl h)⟩, ⟨some ⟨bA, (offA + 2), none⟩, (d - 1), by rw [HK.out], by have := HC.out.2; rw [HK.out]; omega, by have := HC.out.2; omega, HRT.out.keep EModel.stays hkf (fun _ h => .inl h)⟩⟩⟩
      refine HR6.out.keep EModel.stays (fun q hq => World.cell?_of_block (hfar _ ?_)) (fun b hb => hb.elim .inl fun h => .inr ⟨h.1, by have := HSZ.out; simp; omega⟩)
      rcases hq with hq | hq
      · exact fun e => hpF (e ▸ hq)
      · have := hq.1; omega
end Go.Proofs.Ytpjkifbicfcajaa
