import Derived.Test.YtmafhaadcjgcbaaAKept
import Derived.Test.YtmafhaadcjgcbaaCopyA
import Derived.Test.YtmafhaadcjgcbaaCopyR
import Derived.Test.YtmafhaadcjgcbaaRemoveR
import Derived.Test.YtmafhaadcjgcbaaADataA
import Derived.Test.YtmafhaadcjgcbaaDataW
import Derived.Test.YtmafhaadcjgcbaaRows
import Derived.HandedShaped
import Derived.ChangeMaps5
set_option linter.unusedSimpArgs false
set_option linter.unusedVariables false
section
namespace Go.Proofs.Ytmafhaadcjgcbaa
open Go Go.RowKit

theorem great_any (v : Value) (m : AModel) (w : World) (F : Nat → Prop) (h : IsModel w F v m) :
    Calls Try.prog 12 #[v] w fun e w' => e = .returned (.bool (decide (300 < m.nodes.length))) ∧ Below w.heap.size w w' := by
  obtain ⟨_, rfl, A, c, rfl, _⟩ := h
  go_enter Try.func12, Try.ntmps12
  go_wp2
  go_ret
  exact ⟨by simp; omega, (Below.refl _ _).alloc (Nat.le_refl _) _⟩
/-! ### Two models that are lent, in whatever order memory is laid -/
def zModel : Array Value := #[.int .i64 0, .slice none 0 0]
structure JS (W0 w : World) (x7 x8 : Option Nat) (vx vy : Option Value) (a b : AModel) : Prop where
  below : Below W0.heap.size W0 w
  b7 : ∀ p, x7 = some p → W0.heap.size ≤ p ∧ Blk w p 24 zModel
  b8 : ∀ p, x8 = some p → W0.heap.size ≤ p ∧ Blk w p 24 zModel
  ne : ∀ p q, x7 = some p → x8 = some q → p ≠ q
  mx : ∀ v, vx = some v → ∃ F : Nat → Prop, IsModelM w F v a ∧ ∀ c, F c → W0.heap.size ≤ c ∧ c < w.heap.size ∧ x7 ≠ some c ∧ x8 ≠ some c
  my : ∀ v, vy = some v → ∃ F : Nat → Prop, IsModelM w F v b ∧ ∀ c, F c → W0.heap.size ≤ c ∧ c < w.heap.size ∧ x7 ≠ some c ∧ x8 ≠ some c
section
variable {W0 w w' : World} {x7 x8 : Option Nat} {vx vy : Option Value} {a b : AModel}
theorem JS.start (W0 : World) (a b : AModel) : JS W0 W0 none none none none a b :=
  ⟨Below.refl _ _, fun _ h => (by cases h), fun _ h => (by cases h), fun _ _ h => (by cases h), fun _ h => (by cases h), fun _ h => (by cases h)⟩
theorem JS.behind (h : JS W0 w x7 x8 vx vy a b) (hb : Below w.heap.size w w') : JS W0 w' x7 x8 vx vy a b := by
  refine ⟨h.below.trans (hb.mono h.below.size), fun p e => ⟨(h.b7 p e).1, (h.b7 p e).2.below hb (h.b7 p e).2.lt⟩, fun p e => ⟨(h.b8 p e).1, (h.b8 p e).2.below hb (h.b8 p e).2.lt⟩, h.ne, fun v e => ?_, fun v e => ?_⟩
  · obtain ⟨F, h1, h2⟩ := h.mx v e
    exact ⟨F, h1.keep (Keep.below hb (fun b hb => (h2 b hb).2.1)) (fun _ h => h), fun c hc => ⟨(h2 c hc).1, Nat.lt_of_lt_of_le (h2 c hc).2.1 hb.size, (h2 c hc).2.2⟩⟩
  · obtain ⟨F, h1, h2⟩ := h.my v e
    exact ⟨F, h1.keep (Keep.below hb (fun b hb => (h2 b hb).2.1)) (fun _ h => h), fun c hc => ⟨(h2 c hc).1, Nat.lt_of_lt_of_le (h2 c hc).2.1 hb.size, (h2 c hc).2.2⟩⟩
/-- behind the stores -/
theorem JS.done {p q : Nat} {nx ny : Int} {sx sy : Value} (h : JS W0 w (some p) (some q) (some (.agg #[.int .i64 nx, sx])) (some (.agg #[.int .i64 ny, sy])) a b) :
    Below W0.heap.size W0 ((((w.setCell ⟨p, 0, none⟩ (.int .i64 nx)).setCell ⟨p, 1, none⟩ sx).setCell ⟨q, 0, none⟩ (.int .i64 ny)).setCell ⟨q, 1, none⟩ sy) ∧
    Blk ((((w.setCell ⟨p, 0, none⟩ (.int .i64 nx)).setCell ⟨p, 1, none⟩ sx).setCell ⟨q, 0, none⟩ (.int .i64 ny)).setCell ⟨q, 1, none⟩ sy) p 24 #[.int .i64 nx, sx] ∧
    Blk ((((w.setCell ⟨p, 0, none⟩ (.int .i64 nx)).setCell ⟨p, 1, none⟩ sx).setCell ⟨q, 0, none⟩ (.int .i64 ny)).setCell ⟨q, 1, none⟩ sy) q 24 #[.int .i64 ny, sy] ∧
    (∃ F : Nat → Prop, IsModelM ((((w.setCell ⟨p, 0, none⟩ (.int .i64 nx)).setCell ⟨p, 1, none⟩ sx).setCell ⟨q, 0, none⟩ (.int .i64 ny)).setCell ⟨q, 1, none⟩ sy) F (.agg #[.int .i64 nx, sx]) a ∧ ∀ c, F c → c < w.heap.size) ∧
    (∃ F : Nat → Prop, IsModelM ((((w.setCell ⟨p, 0, none⟩ (.int .i64 nx)).setCell ⟨p, 1, none⟩ sx).setCell ⟨q, 0, none⟩ (.int .i64 ny)).setCell ⟨q, 1, none⟩ sy) F (.agg #[.int .i64 ny, sy]) b ∧ ∀ c, F c → c < w.heap.size) := by
  obtain ⟨hp, hbp⟩ := h.b7 p rfl
  obtain ⟨hq, hbq⟩ := h.b8 q rfl
  have hne := h.ne p q rfl rfl
  have hK : ∀ F : Nat → Prop, (∀ c, F c → c ≠ p ∧ c ≠ q) → Keep F w ((((w.setCell ⟨p, 0, none⟩ (.int .i64 nx)).setCell ⟨p, 1, none⟩ sx).setCell ⟨q, 0, none⟩ (.int .i64 ny)).setCell ⟨q, 1, none⟩ sy) := fun F hF r hr => World.cell?_of_block
    ((((Below.heap_setCell _ _ _ _ (by show r.block ≠ q; exact (hF _ hr).2)).trans (Below.heap_setCell _ _ _ _ (by show r.block ≠ q; exact (hF _ hr).2))).trans (Below.heap_setCell _ _ _ _ (by show r.block ≠ p; exact (hF _ hr).1))).trans (Below.heap_setCell _ _ _ _ (by show r.block ≠ p; exact (hF _ hr).1)))
  refine ⟨(((h.below.setCell (p := ⟨p, 0, none⟩) hp _).setCell (p := ⟨p, 1, none⟩) hp _).setCell (p := ⟨q, 0, none⟩) hq _).setCell (p := ⟨q, 1, none⟩) hq _, ?_, ?_, ?_, ?_⟩
  · have := (((hbp.set_ 0 (.int .i64 nx)).set_ 1 sx).far (p := ⟨q, 0, none⟩) hne (.int .i64 ny)).far (p := ⟨q, 1, none⟩) hne sy
    simpa [zModel] using this
  · have := (((hbq.far (p := ⟨p, 0, none⟩) (Ne.symm hne) (.int .i64 nx)).far (p := ⟨p, 1, none⟩) (Ne.symm hne) sx).set_ 0 (.int .i64 ny)).set_ 1 sy
    simpa [zModel] using this
  · obtain ⟨F, h1, h2⟩ := h.mx _ rfl
    exact ⟨F, h1.keep (hK F (fun c hc => ⟨fun e => (h2 c hc).2.2.1 (by rw [e]), fun e => (h2 c hc).2.2.2 (by rw [e])⟩)) (fun _ h => h), fun c hc => (h2 c hc).2.1⟩
  · obtain ⟨F, h1, h2⟩ := h.my _ rfl
    exact ⟨F, h1.keep (hK F (fun c hc => ⟨fun e => (h2 c hc).2.2.1 (by rw [e]), fun e => (h2 c hc).2.2.2 (by rw [e])⟩)) (fun _ h => h), fun c hc => (h2 c hc).2.1⟩
end
end Go.Proofs.Ytmafhaadcjgcbaa
end
section
/- the law of what is moved, copied and removed -/
namespace Go.Proofs.Ytmafhaadcjgcbaa
open Go Go.RowKit

/-- the model that is answered -/
def moM (E next : Int) (ns : List ANode) : AModel := if E ≠ 0 then ⟨0, []⟩ else ⟨next, ns⟩
def numM (E k : Int) : Int := if E ≠ 0 then 0 else k
theorem res_got {w' : World} {base : Nat} {next E : Int} {ns : List ANode} {v : Value} (h : ResAs w' base next E ns v) :
    ∃ A' c', v = .tuple #[.agg #[.int .i64 (moM E next ns).next, .slice A' (moM E next ns).nodes.length c'], .int .i64 E] ∧
      RowOf 7 ENode w' (fun b => base ≤ b ∧ b < w'.heap.size) A' (moM E next ns).nodes ∧ (moM E next ns).nodes.length ≤ 9223372036854775807 := by
  rcases h with ⟨hE, rfl⟩ | ⟨he, vl, rfl, A', c', rfl, h4, h5, h6⟩
  · have e1 : moM E next ns = ⟨0, []⟩ := if_pos hE
    rw [e1]
    exact ⟨none, 0, rfl, RowOf.nil _, by simp⟩
  · have e1 : moM E next ns = ⟨next, ns⟩ := if_neg (fun e => e he)
    rw [e1]
    unfold maxLen at h5
    exact ⟨A', c', by rw [he], h6, by show ns.length ≤ _; omega⟩
theorem copy_got {w' : World} {base : Nat} {next more E : Int} {ns : List ANode} {v : Value} (h : ResCopy w' base next more E ns v) :
    ∃ A' c', v = .tuple #[.agg #[.int .i64 (moM E (next + more) ns).next, .slice A' (moM E (next + more) ns).nodes.length c'], .int .i64 (numM E next), .int .i64 E] ∧
      RowOf 7 ENode w' (fun b => base ≤ b ∧ b < w'.heap.size) A' (moM E (next + more) ns).nodes ∧ (moM E (next + more) ns).nodes.length ≤ 9223372036854775807 := by
  rcases h with ⟨hE, rfl⟩ | ⟨he, vl, rfl, A', c', rfl, h4, h5, h6⟩
  · have e1 : moM E (next + more) ns = ⟨0, []⟩ := if_pos hE
    have e2 : numM E next = 0 := if_pos hE
    rw [e1, e2]
    exact ⟨none, 0, rfl, RowOf.nil _, by simp⟩
  · have e1 : moM E (next + more) ns = ⟨next + more, ns⟩ := if_neg (fun e => e he)
    have e2 : numM E next = next := if_neg (fun e => e he)
    rw [e1, e2]
    unfold maxLen at h5
    exact ⟨A', c', by rw [he], h6, by show ns.length ≤ _; omega⟩

set_option maxRecDepth 100000 in
set_option maxHeartbeats 4000000 in
theorem moves_any (va : Value) (m : AModel) (id par : Int) (role : ByteArray) (at_ : Int) (w : World) (h : IsModel w (fun b => b < w.heap.size) va m) (hid : InR id) (hpar : InR par) (hrs : role.size ≤ 9223372036854775807) (hat : InR at_) (hz : ∀ x ∈ m.nodes, NodeOK x ∧ LensOK x) :
    Calls Try.prog 7 #[va, .int .i64 id, .int .i64 par, .string role, .int .i64 at_] w fun e w' => e = .returned (.bool true) ∧ Below w.heap.size w w' := by
  have HMA := Lib.hid h
  obtain ⟨_, rfl, A, c, rfl, ca1, ca2, ra⟩ := h
  unfold maxLen at ca2
  have HB0 := Lib.hid ((Below.refl w.heap.size w).alloc (Nat.le_refl _) (.cells #[.int .i64 m.next, .slice A m.nodes.length c] 24))
  have HGA := Lib.hid (fun (w0 : World) (hb0 : Below w.heap.size w w0) => great_any _ m w0 _ (HMA.out.keep (Keep.below hb0 fun _ h => h) (F' := fun b => b < w0.heap.size) (fun b hb => Nat.lt_of_lt_of_le hb hb0.size)))
  have HRA := Lib.hid (fun (w0 : World) (hb0 : Below w.heap.size w w0) => RowOf.keep ENode.stays (Keep.below hb0 fun _ h => h) (F' := fun b => b < w.heap.size) (fun _ h => h) ra)
  have HZ := Lib.hid hz
  clear hz ra
  by_cases hgr : 300 < m.nodes.length
  · have HG := Lib.hid (fun w0 hb0 => res_is (decide_eq_true hgr) (HGA.out w0 hb0))
    clear hgr HGA HRA
    go_enter Try.func7, Try.ntmps7
    go_wp2_with fail
    refine (HG.out _ HB0.out).mono ?_
    rintro _ w2 ⟨rfl, hb2⟩
    have HB2 := Lib.hid (HB0.out.trans (hb2.mono HB0.out.size))
    clear hb2
    go_wp2
    go_ret
    exact ⟨rfl, HB2.out⟩
  · have hln : m.nodes.length ≤ 300 := by omega
    have HG := Lib.hid (fun w0 hb0 => res_is (decide_eq_false hgr) (HGA.out w0 hb0))
    have HLE := Lib.hid (fun (w0 : World) (hb0 : Below w.heap.size w w0) => lent_any A c m w0 (fun b => b < w.heap.size) (fun b hb => Nat.lt_of_lt_of_le hb hb0.size) (HRA.out w0 hb0) (fun x hx => (HZ.out x hx).2) hln)
    clear hgr HGA
    go_enter Try.func7, Try.ntmps7
    go_wp2_with fail
    refine (HG.out _ HB0.out).mono ?_
    rintro _ w2 ⟨rfl, hb2⟩
    have HB2 := Lib.hid (HB0.out.trans (hb2.mono HB0.out.size))
    have HM2 := Lib.hid ((Blk.new w 24 #[.int .i64 m.next, .slice A m.nodes.length c]).below hb2 (by simp))
    have m0 := HM2.out.cell 0; have m1 := HM2.out.cell 1
    have hmlt := HM2.out.lt
    simp at m0 m1
    clear hb2 HB0 HG
    go_wp2_with fail
    refine (HLE.out _ HB2.out).mono ?_
    rintro _ w3 ⟨_, rfl, ⟨_, rfl, X, cx, rfl, hm3⟩, hb3⟩
    have HB3 := Lib.hid (HB2.out.trans (hb3.mono HB2.out.size))
    have HM3 := Lib.hid (HM2.out.below hb3 hmlt)
    have HX3 := Lib.hid hm3
    have hsz3 := HM3.out.lt
    clear hb3 m0 m1 HLE HB2 HM2 hmlt
    go_wp2_with fail
    obtain ⟨p, hp⟩ : ∃ p, w3.heap.size = p := ⟨_, rfl⟩
    obtain ⟨W, hW⟩ : ∃ W : World, w3.alloc (.cells #[.int .i64 m.next, .slice X m.nodes.length cx] 24) = W := ⟨_, rfl⟩
    have HBW : Hid (Below w.heap.size w W) := Lib.hid (by rw [← hW]; exact HB3.out.alloc HB3.out.size _)
    have HMW : Hid (Blk W w.heap.size 24 #[.int .i64 m.next, .slice A m.nodes.length c]) := Lib.hid (by rw [← hW]; exact HM3.out.alloc _)
    have HXW : Hid (Blk W p 24 #[.int .i64 m.next, .slice X m.nodes.length cx]) := Lib.hid (by rw [← hW, ← hp]; exact Blk.new _ _ _)
    have HLW : Hid (IsModelM W (fun b => b < w3.heap.size) (.agg #[.int .i64 m.next, .slice X m.nodes.length cx]) m) := Lib.hid (by rw [← hW]; exact IsModelM.keep (⟨_, rfl, X, cx, rfl, HX3.out⟩ : IsModelM w3 (fun b => w2.heap.size ≤ b ∧ b < w3.heap.size) (.agg #[.int .i64 m.next, .slice X m.nodes.length cx]) m) (Keep.below ((Below.refl _ _).alloc (Nat.le_refl _) _) (fun b hb => hb.2)) (fun b hb => hb.2))
    have HPW : Hid (w3.heap.size ≤ p ∧ p < W.heap.size) := Lib.hid ⟨by omega, HXW.out.lt⟩
    have hmW := HMW.out.lt
    rw [hp] at HLW HPW
    rw [hW, hp]
    clear hW hp HX3 HB3 HM3 hsz3
    have hFp : ∀ b, b < p → b < W.heap.size := fun b hb => Nat.lt_trans hb HPW.out.2
    have hRX : RowOf 7 ENode W (fun b => b < p) X m.nodes ∧ cx ≤ 9223372036854775807 := by
      obtain ⟨_, e, A', c', e2, _, x2, x3⟩ := HLW.out.plain
      simp only [Value.agg.injEq, Array.mk.injEq, List.cons.injEq, true_and, and_true] at e
      subst e
      injection e2 with f1 _ f2
      subst f1; subst f2
      unfold maxLen at x2
      exact ⟨x3, x2⟩
    have hcx := hRX.2
    have HRX := Lib.hid hRX.1
    clear hRX
    have HFX := Lib.hid (fun (w0 : World) (hb0 : Below W.heap.size W w0) (b : Nat) (hb : b < p) => Nat.lt_of_lt_of_le (hFp b hb) hb0.size)
    have HRXr := Lib.hid (fun (w0 : World) (hb0 : Below W.heap.size W w0) => HRX.out.keep ENode.stays (Keep.below hb0 hFp) (F' := fun b => b < p) (fun _ h => h))
    have HRM : Hid (∀ V, Below W.heap.size W V → (∀ b, b < w.heap.size → b < V.heap.size) ∧ RowOf 7 ENode V (fun b => b < w.heap.size) A m.nodes) := Lib.hid (fun V hV => ⟨fun b hb => by have := HBW.out.size; have := hV.size; omega, HRA.out _ (HBW.out.trans (hV.mono HBW.out.size))⟩)
    obtain ⟨EV, hEV⟩ : ∃ E, (moveE m id par role at_) = E := ⟨_, rfl⟩
    obtain ⟨MV, hMV⟩ : ∃ M, moM EV m.next (moveL m id par role at_) = M := ⟨_, rfl⟩
    have HEV := Lib.hid hEV; have HMOV := Lib.hid hMV
    clear hEV hMV
    obtain ⟨EC, hEC⟩ : ∃ E, (copyE m id par role at_) = E := ⟨_, rfl⟩
    obtain ⟨MC, hMC⟩ : ∃ M, moM EC (m.next + (ksL m id).length) (copyL m id par role at_) = M := ⟨_, rfl⟩
    have HEC := Lib.hid hEC; have HMOC := Lib.hid hMC
    clear hEC hMC
    obtain ⟨EX, hEX⟩ : ∃ E, (removeE m id) = E := ⟨_, rfl⟩
    obtain ⟨MX, hMX⟩ : ∃ M, moM EX m.next (removeL m id) = M := ⟨_, rfl⟩
    have HEX := Lib.hid hEX; have HMOX := Lib.hid hMX
    clear hEX hMX
    obtain ⟨KC, hKC⟩ : ∃ K, numM EC m.next = K := ⟨_, rfl⟩
    have HKC := Lib.hid hKC
    clear hKC
    have HBc0 := Lib.hid (Below.refl W.heap.size W)
    have HMc0 := HMW; have HXc0 := HXW
    have x0 := HXc0.out.cell 0; have x1 := HXc0.out.cell 1
    have xlt := HXc0.out.lt
    simp at x0 x1
    go_wp2_with fail
    refine (moveA_any X cx m W (fun b => b < p) (HFX.out _ HBc0.out) (HRXr.out _ HBc0.out) (fun x hx => (HZ.out x hx).1) (fun x hx => (HZ.out x hx).2) (by omega) id hid par hpar role hrs at_ hat).mono ?_
    rintro _ v1 ⟨⟨v, rfl, hf⟩, hb⟩
    rw [HEV.out] at hf
    obtain ⟨A1, c1, hv, hr, hl1⟩ := res_got hf
    rw [HMOV.out] at hv
    rw [HMOV.out] at hr hl1
    subst hv
    obtain ⟨s1, hs1⟩ : ∃ s, W.heap.size = s := ⟨_, rfl⟩
    have HS1 := Lib.hid hs1
    rw [hs1] at hr
    clear hs1 hf
    clear x0 x1 xlt
    have HBv1 := Lib.hid (HBc0.out.trans (hb.mono HBc0.out.size))
    have HMv1 := Lib.hid (HMc0.out.below hb HMc0.out.lt)
    have HXv1 := Lib.hid (HXc0.out.below hb HXc0.out.lt)
    clear HBc0 HMc0 HXc0
    have HR1v1 := Lib.hid hr
    clear hr hb
    obtain ⟨q1, hq1⟩ : ∃ q, v1.heap.size = q := ⟨_, rfl⟩
    have HC1 : Hid (Below v1.heap.size v1 (v1.alloc (.cells #[.int .i64 MV.next, .slice A1 MV.nodes.length c1] 24))) := Lib.hid ((Below.refl _ _).alloc (Nat.le_refl _) _)
    have HQ1a1 : Hid (Blk (v1.alloc (.cells #[.int .i64 MV.next, .slice A1 MV.nodes.length c1] 24)) q1 24 #[.int .i64 MV.next, .slice A1 MV.nodes.length c1]) := Lib.hid (by rw [← hq1]; exact Blk.new _ _ _)
    have HQW1 : Hid (W.heap.size ≤ q1) := Lib.hid (by rw [← hq1]; exact HBv1.out.size)
    have HWE : Hid (∃ z, v1.alloc (.cells #[.int .i64 MV.next, .slice A1 MV.nodes.length c1] 24) = z) := Lib.hid ⟨_, rfl⟩
    go_upto_region 5 with fail
    obtain ⟨a1, hu⟩ := HWE.out
    rw [hu] at HC1 HQ1a1
    (try rw [hu])
    (try rw [hq1])
    clear hq1 HWE hu
    have HBa1 := Lib.hid (HBv1.out.trans (HC1.out.mono HBv1.out.size))
    have HMa1 := Lib.hid (HMv1.out.below HC1.out HMv1.out.lt)
    have HXa1 := Lib.hid (HXv1.out.below HC1.out HXv1.out.lt)
    have HR1a1 := Lib.hid (HR1v1.out.keep ENode.stays (Keep.below HC1.out (fun b hb => hb.2)) (F' := fun b => s1 ≤ b ∧ b < a1.heap.size) (fun b hx => ⟨hx.1, Nat.lt_of_lt_of_le hx.2 HC1.out.size⟩))
    clear HBv1 HMv1 HXv1 HR1v1
    clear HC1
    have m0 := HMa1.out.cell 0; have m1 := HMa1.out.cell 1
    have mlt := HMa1.out.lt
    simp at m0 m1
    go_wp2_with fail
    refine (moveR_any A c m a1 (fun b => b < w.heap.size) (HRM.out _ HBa1.out).1 (HRM.out _ HBa1.out).2 (fun x hx => (HZ.out x hx).1) (fun x hx => (HZ.out x hx).2) (by omega) id hid par hpar role hrs at_ hat).mono ?_
    rintro _ v2 ⟨⟨v, rfl, hf⟩, hb⟩
    rw [HEV.out] at hf
    obtain ⟨A2, c2, hv, hr, hl2⟩ := res_got hf
    rw [HMOV.out] at hv
    rw [HMOV.out] at hr hl2
    subst hv
    obtain ⟨s2, hs2⟩ : ∃ s, a1.heap.size = s := ⟨_, rfl⟩
    have HS2 := Lib.hid hs2
    rw [hs2] at hr
    clear hs2 hf
    clear m0 m1 mlt
    have HBv2 := Lib.hid (HBa1.out.trans (hb.mono HBa1.out.size))
    have HMv2 := Lib.hid (HMa1.out.below hb HMa1.out.lt)
    have HXv2 := Lib.hid (HXa1.out.below hb HXa1.out.lt)
    have HQ1v2 := Lib.hid (HQ1a1.out.below hb HQ1a1.out.lt)
    have HR1v2 := Lib.hid (HR1a1.out.keep ENode.stays (Keep.below hb (fun b hb => hb.2)) (F' := fun b => s1 ≤ b ∧ b < v2.heap.size) (fun b hx => ⟨hx.1, Nat.lt_of_lt_of_le hx.2 hb.size⟩))
    clear HBa1 HMa1 HXa1 HQ1a1 HR1a1
    have HR2v2 := Lib.hid hr
    clear hr hb
    obtain ⟨q2, hq2⟩ : ∃ q, v2.heap.size = q := ⟨_, rfl⟩
    have HC2 : Hid (Below v2.heap.size v2 (v2.alloc (.cells #[.int .i64 MV.next, .slice A2 MV.nodes.length c2] 24))) := Lib.hid ((Below.refl _ _).alloc (Nat.le_refl _) _)
    have HQ2a2 : Hid (Blk (v2.alloc (.cells #[.int .i64 MV.next, .slice A2 MV.nodes.length c2] 24)) q2 24 #[.int .i64 MV.next, .slice A2 MV.nodes.length c2]) := Lib.hid (by rw [← hq2]; exact Blk.new _ _ _)
    have HQW2 : Hid (W.heap.size ≤ q2) := Lib.hid (by rw [← hq2]; exact HBv2.out.size)
    have HWE : Hid (∃ z, v2.alloc (.cells #[.int .i64 MV.next, .slice A2 MV.nodes.length c2] 24) = z) := Lib.hid ⟨_, rfl⟩
    go_upto_region 6 with fail
    obtain ⟨a2, hu⟩ := HWE.out
    rw [hu] at HC2 HQ2a2
    (try rw [hu])
    (try rw [hq2])
    clear hq2 HWE hu
    have HBa2 := Lib.hid (HBv2.out.trans (HC2.out.mono HBv2.out.size))
    have HMa2 := Lib.hid (HMv2.out.below HC2.out HMv2.out.lt)
    have HXa2 := Lib.hid (HXv2.out.below HC2.out HXv2.out.lt)
    have HQ1a2 := Lib.hid (HQ1v2.out.below HC2.out HQ1v2.out.lt)
    have HR1a2 := Lib.hid (HR1v2.out.keep ENode.stays (Keep.below HC2.out (fun b hb => hb.2)) (F' := fun b => s1 ≤ b ∧ b < a2.heap.size) (fun b hx => ⟨hx.1, Nat.lt_of_lt_of_le hx.2 HC2.out.size⟩))
    have HR2a2 := Lib.hid (HR2v2.out.keep ENode.stays (Keep.below HC2.out (fun b hb => hb.2)) (F' := fun b => s2 ≤ b ∧ b < a2.heap.size) (fun b hx => ⟨hx.1, Nat.lt_of_lt_of_le hx.2 HC2.out.size⟩))
    clear HBv2 HMv2 HXv2 HQ1v2 HR1v2 HR2v2
    clear HC2
    have x0 := HXa2.out.cell 0; have x1 := HXa2.out.cell 1
    have xlt := HXa2.out.lt
    simp at x0 x1
    go_wp2_with fail
    refine (copyA_any X cx m a2 (fun b => b < p) (HFX.out _ HBa2.out) (HRXr.out _ HBa2.out) (fun x hx => (HZ.out x hx).1) (fun x hx => (HZ.out x hx).2) (by omega) id hid par hpar role hrs at_ hat).mono ?_
    rintro _ v3 ⟨⟨v, rfl, hf⟩, hb⟩
    rw [HEC.out] at hf
    obtain ⟨A3, c3, hv, hr, hl3⟩ := copy_got hf
    rw [HMOC.out, HKC.out] at hv
    rw [HMOC.out] at hr hl3
    subst hv
    obtain ⟨s3, hs3⟩ : ∃ s, a2.heap.size = s := ⟨_, rfl⟩
    have HS3 := Lib.hid hs3
    rw [hs3] at hr
    clear hs3 hf
    clear x0 x1 xlt
    have HBv3 := Lib.hid (HBa2.out.trans (hb.mono HBa2.out.size))
    have HMv3 := Lib.hid (HMa2.out.below hb HMa2.out.lt)
    have HXv3 := Lib.hid (HXa2.out.below hb HXa2.out.lt)
    have HQ1v3 := Lib.hid (HQ1a2.out.below hb HQ1a2.out.lt)
    have HQ2v3 := Lib.hid (HQ2a2.out.below hb HQ2a2.out.lt)
    have HR1v3 := Lib.hid (HR1a2.out.keep ENode.stays (Keep.below hb (fun b hb => hb.2)) (F' := fun b => s1 ≤ b ∧ b < v3.heap.size) (fun b hx => ⟨hx.1, Nat.lt_of_lt_of_le hx.2 hb.size⟩))
    have HR2v3 := Lib.hid (HR2a2.out.keep ENode.stays (Keep.below hb (fun b hb => hb.2)) (F' := fun b => s2 ≤ b ∧ b < v3.heap.size) (fun b hx => ⟨hx.1, Nat.lt_of_lt_of_le hx.2 hb.size⟩))
    clear HBa2 HMa2 HXa2 HQ1a2 HQ2a2 HR1a2 HR2a2
    have HR3v3 := Lib.hid hr
    clear hr hb
    obtain ⟨q3, hq3⟩ : ∃ q, v3.heap.size = q := ⟨_, rfl⟩
    have HC3 : Hid (Below v3.heap.size v3 (v3.alloc (.cells #[.int .i64 MC.next, .slice A3 MC.nodes.length c3] 24))) := Lib.hid ((Below.refl _ _).alloc (Nat.le_refl _) _)
    have HQ3a3 : Hid (Blk (v3.alloc (.cells #[.int .i64 MC.next, .slice A3 MC.nodes.length c3] 24)) q3 24 #[.int .i64 MC.next, .slice A3 MC.nodes.length c3]) := Lib.hid (by rw [← hq3]; exact Blk.new _ _ _)
    have HQW3 : Hid (W.heap.size ≤ q3) := Lib.hid (by rw [← hq3]; exact HBv3.out.size)
    have HWE : Hid (∃ z, v3.alloc (.cells #[.int .i64 MC.next, .slice A3 MC.nodes.length c3] 24) = z) := Lib.hid ⟨_, rfl⟩
    go_upto_region 7 with fail
    obtain ⟨a3, hu⟩ := HWE.out
    rw [hu] at HC3 HQ3a3
    (try rw [hu])
    (try rw [hq3])
    clear hq3 HWE hu
    have HBa3 := Lib.hid (HBv3.out.trans (HC3.out.mono HBv3.out.size))
    have HMa3 := Lib.hid (HMv3.out.below HC3.out HMv3.out.lt)
    have HXa3 := Lib.hid (HXv3.out.below HC3.out HXv3.out.lt)
    have HQ1a3 := Lib.hid (HQ1v3.out.below HC3.out HQ1v3.out.lt)
    have HQ2a3 := Lib.hid (HQ2v3.out.below HC3.out HQ2v3.out.lt)
    have HR1a3 := Lib.hid (HR1v3.out.keep ENode.stays (Keep.below HC3.out (fun b hb => hb.2)) (F' := fun b => s1 ≤ b ∧ b < a3.heap.size) (fun b hx => ⟨hx.1, Nat.lt_of_lt_of_le hx.2 HC3.out.size⟩))
    have HR2a3 := Lib.hid (HR2v3.out.keep ENode.stays (Keep.below HC3.out (fun b hb => hb.2)) (F' := fun b => s2 ≤ b ∧ b < a3.heap.size) (fun b hx => ⟨hx.1, Nat.lt_of_lt_of_le hx.2 HC3.out.size⟩))
    have HR3a3 := Lib.hid (HR3v3.out.keep ENode.stays (Keep.below HC3.out (fun b hb => hb.2)) (F' := fun b => s3 ≤ b ∧ b < a3.heap.size) (fun b hx => ⟨hx.1, Nat.lt_of_lt_of_le hx.2 HC3.out.size⟩))
    clear HBv3 HMv3 HXv3 HQ1v3 HQ2v3 HR1v3 HR2v3 HR3v3
    clear HC3
    have m0 := HMa3.out.cell 0; have m1 := HMa3.out.cell 1
    have mlt := HMa3.out.lt
    simp at m0 m1
    go_wp2_with fail
    refine (copyR_any A c m a3 (fun b => b < w.heap.size) (HRM.out _ HBa3.out).1 (HRM.out _ HBa3.out).2 (fun x hx => (HZ.out x hx).1) (fun x hx => (HZ.out x hx).2) (by omega) id hid par hpar role hrs at_ hat).mono ?_
    rintro _ v4 ⟨⟨v, rfl, hf⟩, hb⟩
    rw [HEC.out] at hf
    obtain ⟨A4, c4, hv, hr, hl4⟩ := copy_got hf
    rw [HMOC.out, HKC.out] at hv
    rw [HMOC.out] at hr hl4
    subst hv
    obtain ⟨s4, hs4⟩ : ∃ s, a3.heap.size = s := ⟨_, rfl⟩
    have HS4 := Lib.hid hs4
    rw [hs4] at hr
    clear hs4 hf
    clear m0 m1 mlt
    have HBv4 := Lib.hid (HBa3.out.trans (hb.mono HBa3.out.size))
    have HMv4 := Lib.hid (HMa3.out.below hb HMa3.out.lt)
    have HXv4 := Lib.hid (HXa3.out.below hb HXa3.out.lt)
    have HQ1v4 := Lib.hid (HQ1a3.out.below hb HQ1a3.out.lt)
    have HQ2v4 := Lib.hid (HQ2a3.out.below hb HQ2a3.out.lt)
    have HQ3v4 := Lib.hid (HQ3a3.out.below hb HQ3a3.out.lt)
    have HR1v4 := Lib.hid (HR1a3.out.keep ENode.stays (Keep.below hb (fun b hb => hb.2)) (F' := fun b => s1 ≤ b ∧ b < v4.heap.size) (fun b hx => ⟨hx.1, Nat.lt_of_lt_of_le hx.2 hb.size⟩))
    have HR2v4 := Lib.hid (HR2a3.out.keep ENode.stays (Keep.below hb (fun b hb => hb.2)) (F' := fun b => s2 ≤ b ∧ b < v4.heap.size) (fun b hx => ⟨hx.1, Nat.lt_of_lt_of_le hx.2 hb.size⟩))
    have HR3v4 := Lib.hid (HR3a3.out.keep ENode.stays (Keep.below hb (fun b hb => hb.2)) (F' := fun b => s3 ≤ b ∧ b < v4.heap.size) (fun b hx => ⟨hx.1, Nat.lt_of_lt_of_le hx.2 hb.size⟩))
    clear HBa3 HMa3 HXa3 HQ1a3 HQ2a3 HQ3a3 HR1a3 HR2a3 HR3a3
    have HR4v4 := Lib.hid hr
    clear hr hb
    obtain ⟨q4, hq4⟩ : ∃ q, v4.heap.size = q := ⟨_, rfl⟩
    have HC4 : Hid (Below v4.heap.size v4 (v4.alloc (.cells #[.int .i64 MC.next, .slice A4 MC.nodes.length c4] 24))) := Lib.hid ((Below.refl _ _).alloc (Nat.le_refl _) _)
    have HQ4a4 : Hid (Blk (v4.alloc (.cells #[.int .i64 MC.next, .slice A4 MC.nodes.length c4] 24)) q4 24 #[.int .i64 MC.next, .slice A4 MC.nodes.length c4]) := Lib.hid (by rw [← hq4]; exact Blk.new _ _ _)
    have HQW4 : Hid (W.heap.size ≤ q4) := Lib.hid (by rw [← hq4]; exact HBv4.out.size)
    have HWE : Hid (∃ z, v4.alloc (.cells #[.int .i64 MC.next, .slice A4 MC.nodes.length c4] 24) = z) := Lib.hid ⟨_, rfl⟩
    go_upto_region 8 with fail
    obtain ⟨a4, hu⟩ := HWE.out
    rw [hu] at HC4 HQ4a4
    (try rw [hu])
    (try rw [hq4])
    clear hq4 HWE hu
    have HBa4 := Lib.hid (HBv4.out.trans (HC4.out.mono HBv4.out.size))
    have HMa4 := Lib.hid (HMv4.out.below HC4.out HMv4.out.lt)
    have HXa4 := Lib.hid (HXv4.out.below HC4.out HXv4.out.lt)
    have HQ1a4 := Lib.hid (HQ1v4.out.below HC4.out HQ1v4.out.lt)
    have HQ2a4 := Lib.hid (HQ2v4.out.below HC4.out HQ2v4.out.lt)
    have HQ3a4 := Lib.hid (HQ3v4.out.below HC4.out HQ3v4.out.lt)
    have HR1a4 := Lib.hid (HR1v4.out.keep ENode.stays (Keep.below HC4.out (fun b hb => hb.2)) (F' := fun b => s1 ≤ b ∧ b < a4.heap.size) (fun b hx => ⟨hx.1, Nat.lt_of_lt_of_le hx.2 HC4.out.size⟩))
    have HR2a4 := Lib.hid (HR2v4.out.keep ENode.stays (Keep.below HC4.out (fun b hb => hb.2)) (F' := fun b => s2 ≤ b ∧ b < a4.heap.size) (fun b hx => ⟨hx.1, Nat.lt_of_lt_of_le hx.2 HC4.out.size⟩))
    have HR3a4 := Lib.hid (HR3v4.out.keep ENode.stays (Keep.below HC4.out (fun b hb => hb.2)) (F' := fun b => s3 ≤ b ∧ b < a4.heap.size) (fun b hx => ⟨hx.1, Nat.lt_of_lt_of_le hx.2 HC4.out.size⟩))
    have HR4a4 := Lib.hid (HR4v4.out.keep ENode.stays (Keep.below HC4.out (fun b hb => hb.2)) (F' := fun b => s4 ≤ b ∧ b < a4.heap.size) (fun b hx => ⟨hx.1, Nat.lt_of_lt_of_le hx.2 HC4.out.size⟩))
    clear HBv4 HMv4 HXv4 HQ1v4 HQ2v4 HQ3v4 HR1v4 HR2v4 HR3v4 HR4v4
    clear HC4
    have x0 := HXa4.out.cell 0; have x1 := HXa4.out.cell 1
    have xlt := HXa4.out.lt
    simp at x0 x1
    go_wp2_with fail
    refine (removeA_any X cx m a4 (fun b => b < p) (HFX.out _ HBa4.out) (HRXr.out _ HBa4.out) (fun x hx => (HZ.out x hx).1) (fun x hx => (HZ.out x hx).2) (by omega) id hid).mono ?_
    rintro _ v5 ⟨⟨v, rfl, hf⟩, hb⟩
    rw [HEX.out] at hf
    obtain ⟨A5, c5, hv, hr, hl5⟩ := res_got hf
    rw [HMOX.out] at hv
    rw [HMOX.out] at hr hl5
    subst hv
    obtain ⟨s5, hs5⟩ : ∃ s, a4.heap.size = s := ⟨_, rfl⟩
    have HS5 := Lib.hid hs5
    rw [hs5] at hr
    clear hs5 hf
    clear x0 x1 xlt
    have HBv5 := Lib.hid (HBa4.out.trans (hb.mono HBa4.out.size))
    have HMv5 := Lib.hid (HMa4.out.below hb HMa4.out.lt)
    have HXv5 := Lib.hid (HXa4.out.below hb HXa4.out.lt)
    have HQ1v5 := Lib.hid (HQ1a4.out.below hb HQ1a4.out.lt)
    have HQ2v5 := Lib.hid (HQ2a4.out.below hb HQ2a4.out.lt)
    have HQ3v5 := Lib.hid (HQ3a4.out.below hb HQ3a4.out.lt)
    have HQ4v5 := Lib.hid (HQ4a4.out.below hb HQ4a4.out.lt)
    have HR1v5 := Lib.hid (HR1a4.out.keep ENode.stays (Keep.below hb (fun b hb => hb.2)) (F' := fun b => s1 ≤ b ∧ b < v5.heap.size) (fun b hx => ⟨hx.1, Nat.lt_of_lt_of_le hx.2 hb.size⟩))
    have HR2v5 := Lib.hid (HR2a4.out.keep ENode.stays (Keep.below hb (fun b hb => hb.2)) (F' := fun b => s2 ≤ b ∧ b < v5.heap.size) (fun b hx => ⟨hx.1, Nat.lt_of_lt_of_le hx.2 hb.size⟩))
    have HR3v5 := Lib.hid (HR3a4.out.keep ENode.stays (Keep.below hb (fun b hb => hb.2)) (F' := fun b => s3 ≤ b ∧ b < v5.heap.size) (fun b hx => ⟨hx.1, Nat.lt_of_lt_of_le hx.2 hb.size⟩))
    have HR4v5 := Lib.hid (HR4a4.out.keep ENode.stays (Keep.below hb (fun b hb => hb.2)) (F' := fun b => s4 ≤ b ∧ b < v5.heap.size) (fun b hx => ⟨hx.1, Nat.lt_of_lt_of_le hx.2 hb.size⟩))
    clear HBa4 HMa4 HXa4 HQ1a4 HQ2a4 HQ3a4 HQ4a4 HR1a4 HR2a4 HR3a4 HR4a4
    have HR5v5 := Lib.hid hr
    clear hr hb
    obtain ⟨q5, hq5⟩ : ∃ q, v5.heap.size = q := ⟨_, rfl⟩
    have HC5 : Hid (Below v5.heap.size v5 (v5.alloc (.cells #[.int .i64 MX.next, .slice A5 MX.nodes.length c5] 24))) := Lib.hid ((Below.refl _ _).alloc (Nat.le_refl _) _)
    have HQ5a5 : Hid (Blk (v5.alloc (.cells #[.int .i64 MX.next, .slice A5 MX.nodes.length c5] 24)) q5 24 #[.int .i64 MX.next, .slice A5 MX.nodes.length c5]) := Lib.hid (by rw [← hq5]; exact Blk.new _ _ _)
    have HQW5 : Hid (W.heap.size ≤ q5) := Lib.hid (by rw [← hq5]; exact HBv5.out.size)
    have HWE : Hid (∃ z, v5.alloc (.cells #[.int .i64 MX.next, .slice A5 MX.nodes.length c5] 24) = z) := Lib.hid ⟨_, rfl⟩
    go_upto_region 9 with fail
    obtain ⟨a5, hu⟩ := HWE.out
    rw [hu] at HC5 HQ5a5
    (try rw [hu])
    (try rw [hq5])
    clear hq5 HWE hu
    have HBa5 := Lib.hid (HBv5.out.trans (HC5.out.mono HBv5.out.size))
    have HMa5 := Lib.hid (HMv5.out.below HC5.out HMv5.out.lt)
    have HXa5 := Lib.hid (HXv5.out.below HC5.out HXv5.out.lt)
    have HQ1a5 := Lib.hid (HQ1v5.out.below HC5.out HQ1v5.out.lt)
    have HQ2a5 := Lib.hid (HQ2v5.out.below HC5.out HQ2v5.out.lt)
    have HQ3a5 := Lib.hid (HQ3v5.out.below HC5.out HQ3v5.out.lt)
    have HQ4a5 := Lib.hid (HQ4v5.out.below HC5.out HQ4v5.out.lt)
    have HR1a5 := Lib.hid (HR1v5.out.keep ENode.stays (Keep.below HC5.out (fun b hb => hb.2)) (F' := fun b => s1 ≤ b ∧ b < a5.heap.size) (fun b hx => ⟨hx.1, Nat.lt_of_lt_of_le hx.2 HC5.out.size⟩))
    have HR2a5 := Lib.hid (HR2v5.out.keep ENode.stays (Keep.below HC5.out (fun b hb => hb.2)) (F' := fun b => s2 ≤ b ∧ b < a5.heap.size) (fun b hx => ⟨hx.1, Nat.lt_of_lt_of_le hx.2 HC5.out.size⟩))
    have HR3a5 := Lib.hid (HR3v5.out.keep ENode.stays (Keep.below HC5.out (fun b hb => hb.2)) (F' := fun b => s3 ≤ b ∧ b < a5.heap.size) (fun b hx => ⟨hx.1, Nat.lt_of_lt_of_le hx.2 HC5.out.size⟩))
    have HR4a5 := Lib.hid (HR4v5.out.keep ENode.stays (Keep.below HC5.out (fun b hb => hb.2)) (F' := fun b => s4 ≤ b ∧ b < a5.heap.size) (fun b hx => ⟨hx.1, Nat.lt_of_lt_of_le hx.2 HC5.out.size⟩))
    have HR5a5 := Lib.hid (HR5v5.out.keep ENode.stays (Keep.below HC5.out (fun b hb => hb.2)) (F' := fun b => s5 ≤ b ∧ b < a5.heap.size) (fun b hx => ⟨hx.1, Nat.lt_of_lt_of_le hx.2 HC5.out.size⟩))
    clear HBv5 HMv5 HXv5 HQ1v5 HQ2v5 HQ3v5 HQ4v5 HR1v5 HR2v5 HR3v5 HR4v5 HR5v5
    clear HC5
    have m0 := HMa5.out.cell 0; have m1 := HMa5.out.cell 1
    have mlt := HMa5.out.lt
    simp at m0 m1
    go_wp2_with fail
    refine (removeR_any A c m a5 (fun b => b < w.heap.size) (HRM.out _ HBa5.out).1 (HRM.out _ HBa5.out).2 (fun x hx => (HZ.out x hx).1) (fun x hx => (HZ.out x hx).2) (by omega) id hid).mono ?_
    rintro _ v6 ⟨⟨v, rfl, hf⟩, hb⟩
    rw [HEX.out] at hf
    obtain ⟨A6, c6, hv, hr, hl6⟩ := res_got hf
    rw [HMOX.out] at hv
    rw [HMOX.out] at hr hl6
    subst hv
    obtain ⟨s6, hs6⟩ : ∃ s, a5.heap.size = s := ⟨_, rfl⟩
    have HS6 := Lib.hid hs6
    rw [hs6] at hr
    clear hs6 hf
    clear m0 m1 mlt
    have HBv6 := Lib.hid (HBa5.out.trans (hb.mono HBa5.out.size))
    have HMv6 := Lib.hid (HMa5.out.below hb HMa5.out.lt)
    have HXv6 := Lib.hid (HXa5.out.below hb HXa5.out.lt)
    have HQ1v6 := Lib.hid (HQ1a5.out.below hb HQ1a5.out.lt)
    have HQ2v6 := Lib.hid (HQ2a5.out.below hb HQ2a5.out.lt)
    have HQ3v6 := Lib.hid (HQ3a5.out.below hb HQ3a5.out.lt)
    have HQ4v6 := Lib.hid (HQ4a5.out.below hb HQ4a5.out.lt)
    have HQ5v6 := Lib.hid (HQ5a5.out.below hb HQ5a5.out.lt)
    have HR1v6 := Lib.hid (HR1a5.out.keep ENode.stays (Keep.below hb (fun b hb => hb.2)) (F' := fun b => s1 ≤ b ∧ b < v6.heap.size) (fun b hx => ⟨hx.1, Nat.lt_of_lt_of_le hx.2 hb.size⟩))
    have HR2v6 := Lib.hid (HR2a5.out.keep ENode.stays (Keep.below hb (fun b hb => hb.2)) (F' := fun b => s2 ≤ b ∧ b < v6.heap.size) (fun b hx => ⟨hx.1, Nat.lt_of_lt_of_le hx.2 hb.size⟩))
    have HR3v6 := Lib.hid (HR3a5.out.keep ENode.stays (Keep.below hb (fun b hb => hb.2)) (F' := fun b => s3 ≤ b ∧ b < v6.heap.size) (fun b hx => ⟨hx.1, Nat.lt_of_lt_of_le hx.2 hb.size⟩))
    have HR4v6 := Lib.hid (HR4a5.out.keep ENode.stays (Keep.below hb (fun b hb => hb.2)) (F' := fun b => s4 ≤ b ∧ b < v6.heap.size) (fun b hx => ⟨hx.1, Nat.lt_of_lt_of_le hx.2 hb.size⟩))
    have HR5v6 := Lib.hid (HR5a5.out.keep ENode.stays (Keep.below hb (fun b hb => hb.2)) (F' := fun b => s5 ≤ b ∧ b < v6.heap.size) (fun b hx => ⟨hx.1, Nat.lt_of_lt_of_le hx.2 hb.size⟩))
    clear HBa5 HMa5 HXa5 HQ1a5 HQ2a5 HQ3a5 HQ4a5 HQ5a5 HR1a5 HR2a5 HR3a5 HR4a5 HR5a5
    have HR6v6 := Lib.hid hr
    clear hr hb
    obtain ⟨q6, hq6⟩ : ∃ q, v6.heap.size = q := ⟨_, rfl⟩
    have HC6 : Hid (Below v6.heap.size v6 (v6.alloc (.cells #[.int .i64 MX.next, .slice A6 MX.nodes.length c6] 24))) := Lib.hid ((Below.refl _ _).alloc (Nat.le_refl _) _)
    have HQ6a6 : Hid (Blk (v6.alloc (.cells #[.int .i64 MX.next, .slice A6 MX.nodes.length c6] 24)) q6 24 #[.int .i64 MX.next, .slice A6 MX.nodes.length c6]) := Lib.hid (by rw [← hq6]; exact Blk.new _ _ _)
    have HQW6 : Hid (W.heap.size ≤ q6) := Lib.hid (by rw [← hq6]; exact HBv6.out.size)
    have HWE : Hid (∃ z, v6.alloc (.cells #[.int .i64 MX.next, .slice A6 MX.nodes.length c6] 24) = z) := Lib.hid ⟨_, rfl⟩
    go_upto_region 10 with fail
    obtain ⟨a6, hu⟩ := HWE.out
    rw [hu] at HC6 HQ6a6
    (try rw [hu])
    (try rw [hq6])
    clear hq6 HWE hu
    have HBa6 := Lib.hid (HBv6.out.trans (HC6.out.mono HBv6.out.size))
    have HMa6 := Lib.hid (HMv6.out.below HC6.out HMv6.out.lt)
    have HXa6 := Lib.hid (HXv6.out.below HC6.out HXv6.out.lt)
    have HQ1a6 := Lib.hid (HQ1v6.out.below HC6.out HQ1v6.out.lt)
    have HQ2a6 := Lib.hid (HQ2v6.out.below HC6.out HQ2v6.out.lt)
    have HQ3a6 := Lib.hid (HQ3v6.out.below HC6.out HQ3v6.out.lt)
    have HQ4a6 := Lib.hid (HQ4v6.out.below HC6.out HQ4v6.out.lt)
    have HQ5a6 := Lib.hid (HQ5v6.out.below HC6.out HQ5v6.out.lt)
    have HR1a6 := Lib.hid (HR1v6.out.keep ENode.stays (Keep.below HC6.out (fun b hb => hb.2)) (F' := fun b => s1 ≤ b ∧ b < a6.heap.size) (fun b hx => ⟨hx.1, Nat.lt_of_lt_of_le hx.2 HC6.out.size⟩))
    have HR2a6 := Lib.hid (HR2v6.out.keep ENode.stays (Keep.below HC6.out (fun b hb => hb.2)) (F' := fun b => s2 ≤ b ∧ b < a6.heap.size) (fun b hx => ⟨hx.1, Nat.lt_of_lt_of_le hx.2 HC6.out.size⟩))
    have HR3a6 := Lib.hid (HR3v6.out.keep ENode.stays (Keep.below HC6.out (fun b hb => hb.2)) (F' := fun b => s3 ≤ b ∧ b < a6.heap.size) (fun b hx => ⟨hx.1, Nat.lt_of_lt_of_le hx.2 HC6.out.size⟩))
    have HR4a6 := Lib.hid (HR4v6.out.keep ENode.stays (Keep.below HC6.out (fun b hb => hb.2)) (F' := fun b => s4 ≤ b ∧ b < a6.heap.size) (fun b hx => ⟨hx.1, Nat.lt_of_lt_of_le hx.2 HC6.out.size⟩))
    have HR5a6 := Lib.hid (HR5v6.out.keep ENode.stays (Keep.below HC6.out (fun b hb => hb.2)) (F' := fun b => s5 ≤ b ∧ b < a6.heap.size) (fun b hx => ⟨hx.1, Nat.lt_of_lt_of_le hx.2 HC6.out.size⟩))
    have HR6a6 := Lib.hid (HR6v6.out.keep ENode.stays (Keep.below HC6.out (fun b hb => hb.2)) (F' := fun b => s6 ≤ b ∧ b < a6.heap.size) (fun b hx => ⟨hx.1, Nat.lt_of_lt_of_le hx.2 HC6.out.size⟩))
    clear HBv6 HMv6 HXv6 HQ1v6 HQ2v6 HQ3v6 HQ4v6 HQ5v6 HR1v6 HR2v6 HR3v6 HR4v6 HR5v6 HR6v6
    clear HC6
    have gV : (EV == EV) = true := beq_self_eq_true EV
    have gC : (EC == EC) = true := beq_self_eq_true EC
    have gK : (KC == KC) = true := beq_self_eq_true KC
    have gX : (EX == EX) = true := beq_self_eq_true EX
    have f0 := HQ1a6.out.cell 0; have f1 := HQ1a6.out.cell 1
    have flt := HQ1a6.out.lt
    have g0 := HQ2a6.out.cell 0; have g1 := HQ2a6.out.cell 1
    have glt := HQ2a6.out.lt
    simp at f0 f1 g0 g1
    go_wp2_with fail
    refine (res_is (eqB_yes (rfl : MV = MV)) (same_any A1 A2 c1 c2 MV MV a6 (fun b => s1 ≤ b ∧ b < a6.heap.size) (fun b => s2 ≤ b ∧ b < a6.heap.size) (fun _ h => h.2) (fun _ h => h.2) HR1a6.out HR2a6.out hl1)).mono ?_
    rintro _ d1 ⟨rfl, hb⟩
    clear f0 f1 g0 g1 flt glt
    have HBd1 := Lib.hid (HBa6.out.trans (hb.mono HBa6.out.size))
    have HMd1 := Lib.hid (HMa6.out.below hb HMa6.out.lt)
    have HXd1 := Lib.hid (HXa6.out.below hb HXa6.out.lt)
    have HQ1d1 := Lib.hid (HQ1a6.out.below hb HQ1a6.out.lt)
    have HQ2d1 := Lib.hid (HQ2a6.out.below hb HQ2a6.out.lt)
    have HQ3d1 := Lib.hid (HQ3a6.out.below hb HQ3a6.out.lt)
    have HQ4d1 := Lib.hid (HQ4a6.out.below hb HQ4a6.out.lt)
    have HQ5d1 := Lib.hid (HQ5a6.out.below hb HQ5a6.out.lt)
    have HQ6d1 := Lib.hid (HQ6a6.out.below hb HQ6a6.out.lt)
    have HR1d1 := Lib.hid (HR1a6.out.keep ENode.stays (Keep.below hb (fun b hb => hb.2)) (F' := fun b => s1 ≤ b ∧ b < d1.heap.size) (fun b hx => ⟨hx.1, Nat.lt_of_lt_of_le hx.2 hb.size⟩))
    have HR2d1 := Lib.hid (HR2a6.out.keep ENode.stays (Keep.below hb (fun b hb => hb.2)) (F' := fun b => s2 ≤ b ∧ b < d1.heap.size) (fun b hx => ⟨hx.1, Nat.lt_of_lt_of_le hx.2 hb.size⟩))
    have HR3d1 := Lib.hid (HR3a6.out.keep ENode.stays (Keep.below hb (fun b hb => hb.2)) (F' := fun b => s3 ≤ b ∧ b < d1.heap.size) (fun b hx => ⟨hx.1, Nat.lt_of_lt_of_le hx.2 hb.size⟩))
    have HR4d1 := Lib.hid (HR4a6.out.keep ENode.stays (Keep.below hb (fun b hb => hb.2)) (F' := fun b => s4 ≤ b ∧ b < d1.heap.size) (fun b hx => ⟨hx.1, Nat.lt_of_lt_of_le hx.2 hb.size⟩))
    have HR5d1 := Lib.hid (HR5a6.out.keep ENode.stays (Keep.below hb (fun b hb => hb.2)) (F' := fun b => s5 ≤ b ∧ b < d1.heap.size) (fun b hx => ⟨hx.1, Nat.lt_of_lt_of_le hx.2 hb.size⟩))
    have HR6d1 := Lib.hid (HR6a6.out.keep ENode.stays (Keep.below hb (fun b hb => hb.2)) (F' := fun b => s6 ≤ b ∧ b < d1.heap.size) (fun b hx => ⟨hx.1, Nat.lt_of_lt_of_le hx.2 hb.size⟩))
    clear HBa6 HMa6 HXa6 HQ1a6 HQ2a6 HQ3a6 HQ4a6 HQ5a6 HQ6a6 HR1a6 HR2a6 HR3a6 HR4a6 HR5a6 HR6a6
    clear hb
    have f0 := HQ3d1.out.cell 0; have f1 := HQ3d1.out.cell 1
    have flt := HQ3d1.out.lt
    have g0 := HQ4d1.out.cell 0; have g1 := HQ4d1.out.cell 1
    have glt := HQ4d1.out.lt
    simp at f0 f1 g0 g1
    go_wp2_with fail
    refine (res_is (eqB_yes (rfl : MC = MC)) (same_any A3 A4 c3 c4 MC MC d1 (fun b => s3 ≤ b ∧ b < d1.heap.size) (fun b => s4 ≤ b ∧ b < d1.heap.size) (fun _ h => h.2) (fun _ h => h.2) HR3d1.out HR4d1.out hl3)).mono ?_
    rintro _ d2 ⟨rfl, hb⟩
    clear f0 f1 g0 g1 flt glt
    have HBd2 := Lib.hid (HBd1.out.trans (hb.mono HBd1.out.size))
    have HMd2 := Lib.hid (HMd1.out.below hb HMd1.out.lt)
    have HXd2 := Lib.hid (HXd1.out.below hb HXd1.out.lt)
    have HQ1d2 := Lib.hid (HQ1d1.out.below hb HQ1d1.out.lt)
    have HQ2d2 := Lib.hid (HQ2d1.out.below hb HQ2d1.out.lt)
    have HQ3d2 := Lib.hid (HQ3d1.out.below hb HQ3d1.out.lt)
    have HQ4d2 := Lib.hid (HQ4d1.out.below hb HQ4d1.out.lt)
    have HQ5d2 := Lib.hid (HQ5d1.out.below hb HQ5d1.out.lt)
    have HQ6d2 := Lib.hid (HQ6d1.out.below hb HQ6d1.out.lt)
    have HR1d2 := Lib.hid (HR1d1.out.keep ENode.stays (Keep.below hb (fun b hb => hb.2)) (F' := fun b => s1 ≤ b ∧ b < d2.heap.size) (fun b hx => ⟨hx.1, Nat.lt_of_lt_of_le hx.2 hb.size⟩))
    have HR2d2 := Lib.hid (HR2d1.out.keep ENode.stays (Keep.below hb (fun b hb => hb.2)) (F' := fun b => s2 ≤ b ∧ b < d2.heap.size) (fun b hx => ⟨hx.1, Nat.lt_of_lt_of_le hx.2 hb.size⟩))
    have HR3d2 := Lib.hid (HR3d1.out.keep ENode.stays (Keep.below hb (fun b hb => hb.2)) (F' := fun b => s3 ≤ b ∧ b < d2.heap.size) (fun b hx => ⟨hx.1, Nat.lt_of_lt_of_le hx.2 hb.size⟩))
    have HR4d2 := Lib.hid (HR4d1.out.keep ENode.stays (Keep.below hb (fun b hb => hb.2)) (F' := fun b => s4 ≤ b ∧ b < d2.heap.size) (fun b hx => ⟨hx.1, Nat.lt_of_lt_of_le hx.2 hb.size⟩))
    have HR5d2 := Lib.hid (HR5d1.out.keep ENode.stays (Keep.below hb (fun b hb => hb.2)) (F' := fun b => s5 ≤ b ∧ b < d2.heap.size) (fun b hx => ⟨hx.1, Nat.lt_of_lt_of_le hx.2 hb.size⟩))
    have HR6d2 := Lib.hid (HR6d1.out.keep ENode.stays (Keep.below hb (fun b hb => hb.2)) (F' := fun b => s6 ≤ b ∧ b < d2.heap.size) (fun b hx => ⟨hx.1, Nat.lt_of_lt_of_le hx.2 hb.size⟩))
    clear HBd1 HMd1 HXd1 HQ1d1 HQ2d1 HQ3d1 HQ4d1 HQ5d1 HQ6d1 HR1d1 HR2d1 HR3d1 HR4d1 HR5d1 HR6d1
    clear hb
    have f0 := HQ5d2.out.cell 0; have f1 := HQ5d2.out.cell 1
    have flt := HQ5d2.out.lt
    have g0 := HQ6d2.out.cell 0; have g1 := HQ6d2.out.cell 1
    have glt := HQ6d2.out.lt
    simp at f0 f1 g0 g1
    go_wp2_with fail
    refine (res_is (eqB_yes (rfl : MX = MX)) (same_any A5 A6 c5 c6 MX MX d2 (fun b => s5 ≤ b ∧ b < d2.heap.size) (fun b => s6 ≤ b ∧ b < d2.heap.size) (fun _ h => h.2) (fun _ h => h.2) HR5d2.out HR6d2.out hl5)).mono ?_
    rintro _ d4 ⟨rfl, hb⟩
    clear f0 f1 g0 g1 flt glt
    have HBd4 := Lib.hid (HBd2.out.trans (hb.mono HBd2.out.size))
    have HMd4 := Lib.hid (HMd2.out.below hb HMd2.out.lt)
    have HXd4 := Lib.hid (HXd2.out.below hb HXd2.out.lt)
    have HQ1d4 := Lib.hid (HQ1d2.out.below hb HQ1d2.out.lt)
    have HQ2d4 := Lib.hid (HQ2d2.out.below hb HQ2d2.out.lt)
    have HQ3d4 := Lib.hid (HQ3d2.out.below hb HQ3d2.out.lt)
    have HQ4d4 := Lib.hid (HQ4d2.out.below hb HQ4d2.out.lt)
    have HQ5d4 := Lib.hid (HQ5d2.out.below hb HQ5d2.out.lt)
    have HQ6d4 := Lib.hid (HQ6d2.out.below hb HQ6d2.out.lt)
    have HR1d4 := Lib.hid (HR1d2.out.keep ENode.stays (Keep.below hb (fun b hb => hb.2)) (F' := fun b => s1 ≤ b ∧ b < d4.heap.size) (fun b hx => ⟨hx.1, Nat.lt_of_lt_of_le hx.2 hb.size⟩))
    have HR2d4 := Lib.hid (HR2d2.out.keep ENode.stays (Keep.below hb (fun b hb => hb.2)) (F' := fun b => s2 ≤ b ∧ b < d4.heap.size) (fun b hx => ⟨hx.1, Nat.lt_of_lt_of_le hx.2 hb.size⟩))
    have HR3d4 := Lib.hid (HR3d2.out.keep ENode.stays (Keep.below hb (fun b hb => hb.2)) (F' := fun b => s3 ≤ b ∧ b < d4.heap.size) (fun b hx => ⟨hx.1, Nat.lt_of_lt_of_le hx.2 hb.size⟩))
    have HR4d4 := Lib.hid (HR4d2.out.keep ENode.stays (Keep.below hb (fun b hb => hb.2)) (F' := fun b => s4 ≤ b ∧ b < d4.heap.size) (fun b hx => ⟨hx.1, Nat.lt_of_lt_of_le hx.2 hb.size⟩))
    have HR5d4 := Lib.hid (HR5d2.out.keep ENode.stays (Keep.below hb (fun b hb => hb.2)) (F' := fun b => s5 ≤ b ∧ b < d4.heap.size) (fun b hx => ⟨hx.1, Nat.lt_of_lt_of_le hx.2 hb.size⟩))
    have HR6d4 := Lib.hid (HR6d2.out.keep ENode.stays (Keep.below hb (fun b hb => hb.2)) (F' := fun b => s6 ≤ b ∧ b < d4.heap.size) (fun b hx => ⟨hx.1, Nat.lt_of_lt_of_le hx.2 hb.size⟩))
    clear HBd2 HMd2 HXd2 HQ1d2 HQ2d2 HQ3d2 HQ4d2 HQ5d2 HQ6d2 HR1d2 HR2d2 HR3d2 HR4d2 HR5d2 HR6d2
    clear hb
    have x0 := HXd4.out.cell 0; have x1 := HXd4.out.cell 1
    have xlt := HXd4.out.lt
    have m0 := HMd4.out.cell 0; have m1 := HMd4.out.cell 1
    have mlt := HMd4.out.lt
    simp at x0 x1 m0 m1
    go_wp2_with fail
    refine (kept_any _ _ m d4 (fun b => b < p) (fun b => b < w.heap.size) (HFX.out _ HBd4.out) (HRM.out _ HBd4.out).1 (HLW.out.keep (Keep.below HBd4.out hFp) (fun _ h => h)) (HMA.out.keep (Keep.below (HBW.out.trans (HBd4.out.mono HBW.out.size)) (fun _ h => h)) (fun _ h => h)) hln).mono ?_
    rintro _ s9 ⟨rfl, hb⟩
    have HEND := Lib.hid (HBW.out.trans ((HBd4.out.trans (hb.mono HBd4.out.size)).mono HBW.out.size))
    clear hb
    clear x0 x1 m0 m1 xlt mlt
    go_wp2
    go_ret
    exact ⟨rfl, HEND.out⟩
end Go.Proofs.Ytmafhaadcjgcbaa
end
section
namespace Go.Proofs.Ytmafhaadcjgcbaa
open Go.ChangeShapes Go.WideShapes Go.ChangeAt Go.RowKit Go.Deep

/-! ### Five arguments -/
section
variable {H : Type} {enc : TypeId × Value → H} {P : Program} {w : World} {base : Nat} {spare : Nat → Bool} {held : Bool}
theorem trodAll_five {t t' t'' t3 t4 : TypeId} {args : Array Value} {ds : List (DataW H)} {ps : List MemPlace} (h : DataW.TrodAll enc P w base spare held [t, t', t'', t3, t4] args.toList ds ps) :
    ∃ v v' v'' v3 v4 d d' d'' d3 d4 p p' p'' p3 p4, args = #[v, v', v'', v3, v4] ∧ ds = [d, d', d'', d3, d4] ∧ ps = p ++ p' ++ p'' ++ p3 ++ p4 ∧ DataW.Trod enc P w base spare held t v d p ∧ DataW.Trod enc P w base spare held t' v' d' p' ∧ DataW.Trod enc P w base spare held t'' v'' d'' p'' ∧ DataW.Trod enc P w base spare held t3 v3 d3 p3 ∧ DataW.Trod enc P w base spare held t4 v4 d4 p4 := by
  obtain ⟨v, vs, d, ds', p, q, hargs, rfl, rfl, hd, hrest⟩ := trodAll_cons h
  obtain ⟨v', vs', d', ds'', p', q', rfl, rfl, rfl, hd', hrest'⟩ := trodAll_cons hrest
  obtain ⟨v'', vs'', d'', ds''', p'', q'', rfl, rfl, rfl, hd'', hrest''⟩ := trodAll_cons hrest'
  obtain ⟨v3, vs3, d3, ds3, p3, q3, rfl, rfl, rfl, hd3, hrest3⟩ := trodAll_cons hrest''
  obtain ⟨v4, vs4, d4, ds4, p4, q4, rfl, rfl, rfl, hd4, hrest4⟩ := trodAll_cons hrest3
  obtain ⟨rfl, rfl, rfl⟩ := trodAll_nil hrest4
  exact ⟨v, v', v'', v3, v4, d, d', d'', d3, d4, p, p', p'', p3, p4, by cases args; simp_all, rfl, by simp, hd, hd', hd'', hd3, hd4⟩
theorem trodAll_mk5 {t t' t'' t3 t4 : TypeId} {v v' v'' v3 v4 : Value} {d d' d'' d3 d4 : DataW H} {p p' p'' p3 p4 : List MemPlace} (h : DataW.Trod enc P w base spare held t v d p) (h' : DataW.Trod enc P w base spare held t' v' d' p')
    (h'' : DataW.Trod enc P w base spare held t'' v'' d'' p'') (h3 : DataW.Trod enc P w base spare held t3 v3 d3 p3) (h4 : DataW.Trod enc P w base spare held t4 v4 d4 p4) : DataW.TrodAll enc P w base spare held [t, t', t'', t3, t4] [v, v', v'', v3, v4] [d, d', d'', d3, d4] (p ++ (p' ++ (p'' ++ (p3 ++ p4)))) :=
  ⟨p, p' ++ (p'' ++ (p3 ++ p4)), h, trodAll_mk4 h' h'' h3 h4, rfl⟩
end
end Go.Proofs.Ytmafhaadcjgcbaa
end
section
/- PROVED: ArenaMoves answers true for every input, and each argument reads afterwards as it read before. No condition. -/
namespace Go.Proofs.Ytmafhaadcjgcbaa
open Go.ChangeShapes Go.WideShapes Go.ChangeAt Go.RowKit Go.Deep
open Go.ChangeMaps (open_string shut_string)

theorem Try.own : ownKnob Try.prog.godebug = none := by kernel_rfl
theorem Try.laidOut : laidOutB Try.prog = true := by kernel_rfl

set_option maxRecDepth 100000 in
theorem moves_lifted (os : Os) (started : os.Started) (H : Type) (enc : TypeId × Value → H) :
    ReturnsInHanded {} Try.checked os 7 .any (Rows.arenaMovesSpec.pre6 enc Try.prog Try.f7 Rows.arenaMovesRow.domain false) (Rows.arenaMovesSpec.post enc Try.prog Try.f7 false true false false) := by
  refine returnsInHanded_of_change_shaped (C := Try.checked) Try.own started (by kernel_rfl) Try.func7
    (ChangeSpec.witness6 (enc := enc) (C := Try.checked) false ⟨#[], #[.agg #[.int .i64 0, .slice none 0 0], .int .i64 0, .int .i64 0, .string ByteArray.empty, .int .i64 0], []⟩ 8 (by kernel_rfl) (by kernel_rfl) (by kernel_rfl) (by kernel_rfl)) ?_
  intro W base args ds gs before hval0 hW hcnd hwt _ _
  have hval : ∀ (j : Nat) t v, Try.f7.params[j]? = some t → args[j]? = some v → Value.okWide Try.prog W .any base t v := hval0
  have hW' := hW
  obtain ⟨p, q, hA0, hV, rfl, hfz, hnd⟩ := hW
  have hA : DataW.TrodAll enc Try.prog W 0 (fun _ => true) true Try.f7.params.toList args.toList ds p := hA0
  have hwt : (DataW.weightsEach Try.prog (Try.f7.params.toList ++ Rows.arenaMovesSpec.plain.varTypes Try.prog) (ds ++ gs)).all (· ≤ reachBytes) = true := hwt
  rw [Try.params7] at hA hval hwt
  obtain ⟨v0, v1, v2, v3, v4, d0, d1, d2, d3, d4, p0, p1, p2, p3, p4, rfl, rfl, rfl, h0, h1, h2, h3, h4⟩ := trodAll_five hA
  obtain ⟨rfl, rfl⟩ := trodVars_none hV
  obtain ⟨n, rfl, rfl, rfl, w1⟩ := open_int Try.underlying3 (hval 1 3 v1 rfl rfl) h1
  obtain ⟨n2, rfl, rfl, rfl, w2⟩ := open_int Try.underlying3 (hval 2 3 v2 rfl rfl) h2
  obtain ⟨s3, rfl, rfl, rfl, w3⟩ := open_string Try.underlying9 (hval 3 9 v3 rfl rfl) h3
  obtain ⟨n4, rfl, rfl, rfl, w4⟩ := open_int Try.underlying3 (hval 4 3 v4 rfl rfl) h4
  obtain ⟨a, ha, hza, _⟩ := model_arg (hval 0 24 v0 rfl rfl) h0 (WtOK.args hwt (i := 0) rfl rfl)
  clear hA0 hval0
  simp only [List.append_nil] at hW'
  have hlt : ∀ x ∈ p0, x.block < W.heap.size := fun x hx => hW'.lt x (by simpa using hx)
  refine (moves_any v0 a n n2 s3 n4 W ha (wf_in w1) (wf_in w2) (by unfold maxLen at w3; omega) (wf_in w4) (fun x hx => ⟨(hza x hx).1, (hza x hx).2.1⟩)).mono fun e W' ⟨he, hbw⟩ => ?_
  subst he
  exact ⟨_, rfl, post_of_below (pa := p0) (pv := []) hW' (fun _ _ _ => trodAll_mk1 (shut_bool Try.underlying4 _))
    (fun sp hsp => by
      have h4 := trodAll_mk5 (trod_behind Try.laidOut (by kernel_rfl) (of_decide_eq_true (by kernel_rfl)) h0 hbw (fun x hx => hlt x (by simp [hx])) sp (fun x hx => hsp x (by simp [hx]))) (shut_int Try.underlying3 w1) (shut_int Try.underlying3 w2) (shut_string Try.underlying9 w3) (shut_int Try.underlying3 w4)
      simp only [List.append_nil] at h4
      exact h4)
    (fun _ _ => rfl) (by simp) hbw (ok_one (by kernel_rfl) rfl (okWide_bool_mk Try.underlying4 _))⟩

theorem arenaMoves_holds : Rows.ArenaMovesSaid :=
  OpenClaim.holds_of_wide 7 Try.f7 rfl rfl rfl rfl rfl rfl rfl ⟨rfl, rfl, rfl, rfl, rfl⟩ rfl rfl rfl rfl rfl (by kernel_rfl) Try.func7 (by kernel_rfl)
    (of_decide_eq_true (by kernel_rfl)) (by unfold Func.isWrapper; rw [if_neg (of_decide_eq_false (by kernel_rfl))]; exact ⟨rfl, rfl⟩)
    (fun os started H enc _ => moves_lifted os started H enc)
#print axioms arenaMoves_holds
end Go.Proofs.Ytmafhaadcjgcbaa
end
