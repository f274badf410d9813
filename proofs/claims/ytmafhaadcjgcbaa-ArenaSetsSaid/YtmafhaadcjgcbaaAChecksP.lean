import Derived.Test.YtmafhaadcjgcbaaAKept
namespace Go.Proofs.Ytmafhaadcjgcbaa
open Go Go.RowKit

theorem great_any (v : Value) (m : AModel) (w : World) (F : Nat → Prop) (h : IsModel w F v m) :
    Calls Try.prog 12 #[v] w fun e w' => e = .returned (.bool (decide (300 < m.nodes.length))) ∧ Below w.heap.size w w' := by
  obtain ⟨_, rfl, A, c, rfl, _⟩ := h
  go_enter Try.func12, Try.ntmps12
  go_wp2
  go_ret
  exact ⟨by simp; omega, (Below.refl _ _).alloc (Nat.le_refl _) _⟩
theorem errI_right (m : AModel) : (if rightM m = true then 0 else 29) = checkI m := by
  unfold checkI errI rightM
  by_cases h : RightM m
  · simp [h, check_iff.2 h]
  · simp [h, mt check_iff.1 h]
theorem lcheck_any (A : Option Addr) (c : Nat) (m : AModel) (w : World) (F : Nat → Prop) (hF : ∀ b, F b → b < w.heap.size) (h : RowOf 7 ENode w F A m.nodes) (hz : ∀ x ∈ m.nodes, NodeOK x) (hl : m.nodes.length ≤ 9223372036854775807) :
    Calls Try.prog 14 #[.agg #[.int .i64 m.next, .slice A m.nodes.length c]] w fun e w' => e = .returned (.int .i64 (checkI m)) ∧ Below w.heap.size w w' := by
  have HR := Lib.hid (right_any A c m (w.alloc (.cells #[.int .i64 m.next, .slice A m.nodes.length c] 24)) F (fun b hb => by have := hF b hb; simp; omega) (h.keep ENode.stays (Keep.alloc _ _ hF) (fun _ h => h)) (fun x hx => (hz x hx).1) hl)
  go_enter Try.func14, Try.ntmps14
  have HE := Lib.hid (errI_right m)
  cases hr : rightM m
  · have HR2 := Lib.hid (res_is hr HR.out)
    have E := Lib.hid (show checkI m = 29 from by rw [← HE.out, hr]; rfl)
    clear hr HR HE
    go_wp2_with fail
    refine HR2.out.mono ?_
    rintro _ w2 ⟨rfl, hb2⟩
    have HB2 := Lib.hid (below_of_alloc hb2)
    clear hb2
    go_wp2
    go_ret
    exact ⟨by rw [E.out]; rfl, HB2.out⟩
  · have HR2 := Lib.hid (res_is hr HR.out)
    have E := Lib.hid (show checkI m = 0 from by rw [← HE.out, hr]; rfl)
    clear hr HR HE
    go_wp2_with fail
    refine HR2.out.mono ?_
    rintro _ w2 ⟨rfl, hb2⟩
    have HB2 := Lib.hid (below_of_alloc hb2)
    clear hb2
    go_wp2
    go_ret
    exact ⟨by rw [E.out]; rfl, HB2.out⟩
theorem new_any (w : World) : Calls Try.prog 21 #[] w fun e w' => e = .returned (.agg #[.int .i64 1, .slice none 0 0]) ∧ Below w.heap.size w w' := by
  go_enter Try.func21, Try.ntmps21
  go_wp2
  exact bodyPost_ret (v := .agg #[.int .i64 1, .slice none 0 0]) (by simp [results, Try.results21, go_sem]) rfl ⟨rfl, (Below.refl _ _).alloc (Nat.le_refl _) _⟩

theorem same_new (w : World) : Calls Try.prog 19 #[.agg #[.int .i64 1, .slice none 0 0], .agg #[.int .i64 1, .slice none 0 0]] w fun e w' => e = .returned (.bool true) ∧ Below w.heap.size w w' :=
  res_is (eqB_yes (rfl : (⟨1, []⟩ : AModel) = ⟨1, []⟩)) (same_any none none 0 0 ⟨1, []⟩ ⟨1, []⟩ w (fun _ => False) (fun _ => False) (fun _ h => h.elim) (fun _ h => h.elim) (RowOf.nil _) (RowOf.nil _) (by simp))

/-! ### Two models that are lent, in whatever order memory is laid -/
def zModel : Array Value := #[.int .i64 0, .slice none 0 0]
structure JS (W0 w : World) (x7 x8 : Option Nat) (vx vy : Option Value) (a b : AModel) : Prop where
  below : Below W0.heap.size W0 w
  b7 : ∀ p, x7 = some p → W0.heap.size ≤ p ∧ Blk w p 24 zModel
  b8 : ∀ p, x8 = some p → W0.heap.size ≤ p ∧ Blk w p 24 zModel
  ne : ∀ p q, x7 = some p → x8 = some q → p ≠ q
  mx : ∀ v, vx = some v → ∃ F : Nat → Prop, IsModelM w F v a ∧ ∀ c, F c → W0.heap.size ≤ c ∧ c < w.heap.size ∧ x7 ≠ some c ∧ x8 ≠ some c
  my : ∀ v, vy = some v → ∃ F : Nat → Prop, IsModelM w F v b ∧ ∀ c, F c → W0.heap.size ≤ c ∧ c < w.heap.size ∧ x7 ≠ some c ∧ x8 ≠ some c
section
variable {W0 w w' : World} {x7 x8 : Option Nat} {vx vy : Option Value} {a b : AModel}
theorem JS.start (W0 : World) (a b : AModel) : JS W0 W0 none none none none a b :=
  ⟨Below.refl _ _, fun _ h => (by cases h), fun _ h => (by cases h), fun _ _ h => (by cases h), fun _ h => (by cases h), fun _ h => (by cases h)⟩
theorem JS.alloc7 (h : JS W0 w none x8 vx vy a b) : JS W0 (w.alloc (.cells zModel 24)) (some w.heap.size) x8 vx vy a b := by
  have hs := h.below.size
  refine ⟨h.below.alloc hs _, fun p e => by cases e; exact ⟨hs, Blk.new _ _ _⟩, fun p e => ⟨(h.b8 p e).1, (h.b8 p e).2.alloc _⟩, fun p q e1 e2 => by cases e1; have := (h.b8 q e2).2.lt; omega, fun v e => ?_, fun v e => ?_⟩
  · obtain ⟨F, h1, h2⟩ := h.mx v e
    exact ⟨F, h1.keep (Keep.alloc _ _ (fun b hb => (h2 b hb).2.1)) (fun _ h => h), fun c hc => by have := h2 c hc; refine ⟨this.1, by simp; omega, fun e => by injection e; omega, this.2.2.2⟩⟩
  · obtain ⟨F, h1, h2⟩ := h.my v e
    exact ⟨F, h1.keep (Keep.alloc _ _ (fun b hb => (h2 b hb).2.1)) (fun _ h => h), fun c hc => by have := h2 c hc; refine ⟨this.1, by simp; omega, fun e => by injection e; omega, this.2.2.2⟩⟩
theorem JS.alloc8 (h : JS W0 w x7 none vx vy a b) : JS W0 (w.alloc (.cells zModel 24)) x7 (some w.heap.size) vx vy a b := by
  have hs := h.below.size
  refine ⟨h.below.alloc hs _, fun p e => ⟨(h.b7 p e).1, (h.b7 p e).2.alloc _⟩, fun p e => by cases e; exact ⟨hs, Blk.new _ _ _⟩, fun p q e1 e2 => by cases e2; have := (h.b7 p e1).2.lt; omega, fun v e => ?_, fun v e => ?_⟩
  · obtain ⟨F, h1, h2⟩ := h.mx v e
    exact ⟨F, h1.keep (Keep.alloc _ _ (fun b hb => (h2 b hb).2.1)) (fun _ h => h), fun c hc => by have := h2 c hc; refine ⟨this.1, by simp; omega, this.2.2.1, fun e => by injection e; omega⟩⟩
  · obtain ⟨F, h1, h2⟩ := h.my v e
    exact ⟨F, h1.keep (Keep.alloc _ _ (fun b hb => (h2 b hb).2.1)) (fun _ h => h), fun c hc => by have := h2 c hc; refine ⟨this.1, by simp; omega, this.2.2.1, fun e => by injection e; omega⟩⟩
theorem JS.behind (h : JS W0 w x7 x8 vx vy a b) (hb : Below w.heap.size w w') : JS W0 w' x7 x8 vx vy a b := by
  refine ⟨h.below.trans (hb.mono h.below.size), fun p e => ⟨(h.b7 p e).1, (h.b7 p e).2.below hb (h.b7 p e).2.lt⟩, fun p e => ⟨(h.b8 p e).1, (h.b8 p e).2.below hb (h.b8 p e).2.lt⟩, h.ne, fun v e => ?_, fun v e => ?_⟩
  · obtain ⟨F, h1, h2⟩ := h.mx v e
    exact ⟨F, h1.keep (Keep.below hb (fun b hb => (h2 b hb).2.1)) (fun _ h => h), fun c hc => ⟨(h2 c hc).1, Nat.lt_of_lt_of_le (h2 c hc).2.1 hb.size, (h2 c hc).2.2⟩⟩
  · obtain ⟨F, h1, h2⟩ := h.my v e
    exact ⟨F, h1.keep (Keep.below hb (fun b hb => (h2 b hb).2.1)) (fun _ h => h), fun c hc => ⟨(h2 c hc).1, Nat.lt_of_lt_of_le (h2 c hc).2.1 hb.size, (h2 c hc).2.2⟩⟩
theorem JS.callx (h : JS W0 w x7 x8 none vy a b) (hb : Below w.heap.size w w') {v : Value} (hm : IsModelM w' (fun b => w.heap.size ≤ b ∧ b < w'.heap.size) v a) : JS W0 w' x7 x8 (some v) vy a b := by
  have h' := h.behind hb
  refine ⟨h'.below, h'.b7, h'.b8, h'.ne, fun u e => ?_, h'.my⟩
  cases e
  refine ⟨_, hm, fun c hc => ⟨Nat.le_trans h.below.size hc.1, hc.2, fun e => by have := (h.b7 _ e).2.lt; have := hc.1; omega, fun e => by have := (h.b8 _ e).2.lt; have := hc.1; omega⟩⟩
theorem JS.cally (h : JS W0 w x7 x8 vx none a b) (hb : Below w.heap.size w w') {v : Value} (hm : IsModelM w' (fun b => w.heap.size ≤ b ∧ b < w'.heap.size) v b) : JS W0 w' x7 x8 vx (some v) a b := by
  have h' := h.behind hb
  refine ⟨h'.below, h'.b7, h'.b8, h'.ne, h'.mx, fun u e => ?_⟩
  cases e
  refine ⟨_, hm, fun c hc => ⟨Nat.le_trans h.below.size hc.1, hc.2, fun e => by have := (h.b7 _ e).2.lt; have := hc.1; omega, fun e => by have := (h.b8 _ e).2.lt; have := hc.1; omega⟩⟩
/-- behind the stores -/
theorem JS.done {p q : Nat} {nx ny : Int} {sx sy : Value} (h : JS W0 w (some p) (some q) (some (.agg #[.int .i64 nx, sx])) (some (.agg #[.int .i64 ny, sy])) a b) :
    Below W0.heap.size W0 ((((w.setCell ⟨p, 0, none⟩ (.int .i64 nx)).setCell ⟨p, 1, none⟩ sx).setCell ⟨q, 0, none⟩ (.int .i64 ny)).setCell ⟨q, 1, none⟩ sy) ∧
    Blk ((((w.setCell ⟨p, 0, none⟩ (.int .i64 nx)).setCell ⟨p, 1, none⟩ sx).setCell ⟨q, 0, none⟩ (.int .i64 ny)).setCell ⟨q, 1, none⟩ sy) p 24 #[.int .i64 nx, sx] ∧
    Blk ((((w.setCell ⟨p, 0, none⟩ (.int .i64 nx)).setCell ⟨p, 1, none⟩ sx).setCell ⟨q, 0, none⟩ (.int .i64 ny)).setCell ⟨q, 1, none⟩ sy) q 24 #[.int .i64 ny, sy] ∧
    (∃ F : Nat → Prop, IsModelM ((((w.setCell ⟨p, 0, none⟩ (.int .i64 nx)).setCell ⟨p, 1, none⟩ sx).setCell ⟨q, 0, none⟩ (.int .i64 ny)).setCell ⟨q, 1, none⟩ sy) F (.agg #[.int .i64 nx, sx]) a ∧ ∀ c, F c → c < w.heap.size) ∧
    (∃ F : Nat → Prop, IsModelM ((((w.setCell ⟨p, 0, none⟩ (.int .i64 nx)).setCell ⟨p, 1, none⟩ sx).setCell ⟨q, 0, none⟩ (.int .i64 ny)).setCell ⟨q, 1, none⟩ sy) F (.agg #[.int .i64 ny, sy]) b ∧ ∀ c, F c → c < w.heap.size) := by
  obtain ⟨hp, hbp⟩ := h.b7 p rfl
  obtain ⟨hq, hbq⟩ := h.b8 q rfl
  have hne := h.ne p q rfl rfl
  have hK : ∀ F : Nat → Prop, (∀ c, F c → c ≠ p ∧ c ≠ q) → Keep F w ((((w.setCell ⟨p, 0, none⟩ (.int .i64 nx)).setCell ⟨p, 1, none⟩ sx).setCell ⟨q, 0, none⟩ (.int .i64 ny)).setCell ⟨q, 1, none⟩ sy) := fun F hF r hr => World.cell?_of_block
    ((((Below.heap_setCell _ _ _ _ (by show r.block ≠ q; exact (hF _ hr).2)).trans (Below.heap_setCell _ _ _ _ (by show r.block ≠ q; exact (hF _ hr).2))).trans (Below.heap_setCell _ _ _ _ (by show r.block ≠ p; exact (hF _ hr).1))).trans (Below.heap_setCell _ _ _ _ (by show r.block ≠ p; exact (hF _ hr).1)))
  refine ⟨(((h.below.setCell (p := ⟨p, 0, none⟩) hp _).setCell (p := ⟨p, 1, none⟩) hp _).setCell (p := ⟨q, 0, none⟩) hq _).setCell (p := ⟨q, 1, none⟩) hq _, ?_, ?_, ?_, ?_⟩
  · have := (((hbp.set_ 0 (.int .i64 nx)).set_ 1 sx).far (p := ⟨q, 0, none⟩) hne (.int .i64 ny)).far (p := ⟨q, 1, none⟩) hne sy
    simpa [zModel] using this
  · have := (((hbq.far (p := ⟨p, 0, none⟩) (Ne.symm hne) (.int .i64 nx)).far (p := ⟨p, 1, none⟩) (Ne.symm hne) sx).set_ 0 (.int .i64 ny)).set_ 1 sy
    simpa [zModel] using this
  · obtain ⟨F, h1, h2⟩ := h.mx _ rfl
    exact ⟨F, h1.keep (hK F (fun c hc => ⟨fun e => (h2 c hc).2.2.1 (by rw [e]), fun e => (h2 c hc).2.2.2 (by rw [e])⟩)) (fun _ h => h), fun c hc => (h2 c hc).2.1⟩
  · obtain ⟨F, h1, h2⟩ := h.my _ rfl
    exact ⟨F, h1.keep (hK F (fun c hc => ⟨fun e => (h2 c hc).2.2.1 (by rw [e]), fun e => (h2 c hc).2.2.2 (by rw [e])⟩)) (fun _ h => h), fun c hc => (h2 c hc).2.1⟩
end
end Go.Proofs.Ytmafhaadcjgcbaa
