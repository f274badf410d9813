/- PROVED: ProjectFinds answers true for every input, and each argument reads afterwards as it read before. No condition. -/
import Derived.Test.YtfnainlijkeekaaRows
import Derived.Test.YtfnainlijkeekaaFinds
import Derived.Test.YtfnainlijkeekaaData
namespace Go.Proofs.Ytfnainlijkeekaa
open Go.ChangeShapes Go.WideShapes Go.ChangeAt Go.RowKit Go.Deep

instance : Inhabited Spot := ⟨Spot.zero⟩
instance : Inhabited Line := ⟨⟨ByteArray.empty, []⟩⟩

section
variable {H : Type} {enc : TypeId × Value → H} {w : World} {base : Nat} {spare : Nat → Bool} {held : Bool}
theorem spot_trod (fuel : Nat) (cs : List Value) (x : DataW H × List MemPlace) (hl : cs.length = 5) (h : DataW.trod enc Try.prog w base spare held fuel 28 cs = some x) : ∃ y : Spot, ESpot w (· < w.heap.size) y cs ∧ True := by
  match cs, hl with
  | [c0, c1, c2, c3, c4], _ =>
    obtain ⟨_, _, k0⟩ := field_of_trod Try.underlying28 h 0 _ rfl (by kernel_rfl) (by simp)
    obtain ⟨_, _, k1⟩ := field_of_trod Try.underlying28 h 1 _ rfl (by kernel_rfl) (by simp)
    obtain ⟨_, _, k2⟩ := field_of_trod Try.underlying28 h 2 _ rfl (by kernel_rfl) (by simp)
    obtain ⟨_, _, k3⟩ := field_of_trod Try.underlying28 h 3 _ rfl (by kernel_rfl) (by simp)
    obtain ⟨_, _, k4⟩ := field_of_trod Try.underlying28 h 4 _ rfl (by kernel_rfl) (by simp)
    obtain ⟨n0, e0, _⟩ := DataW.trod_int Try.underlying3 k0
    obtain ⟨n1, e1, _⟩ := DataW.trod_int Try.underlying3 k1
    obtain ⟨n2, e2, _⟩ := DataW.trod_string Try.underlying9 k2
    obtain ⟨n3, e3, _⟩ := DataW.trod_int Try.underlying3 k3
    obtain ⟨n4, e4, _⟩ := DataW.trod_int Try.underlying3 k4
    simp at e0 e1 e2 e3 e4
    subst e0 e1 e2 e3 e4
    exact ⟨⟨n0, n1, n2, n3, n4⟩, rfl, trivial⟩
theorem line_trod (fuel : Nat) (cs : List Value) (x : DataW H × List MemPlace) (hl : cs.length = 2) (h : DataW.trod enc Try.prog w base spare held fuel 25 cs = some x) : ∃ y : Line, ELine w (· < w.heap.size) y cs ∧ y.text.size ≤ 9223372036854775807 := by
  match cs, hl with
  | [c0, c1], _ =>
    obtain ⟨_, _, k0⟩ := field_of_trod Try.underlying25 h 0 _ rfl (by kernel_rfl) (by simp)
    obtain ⟨_, _, k1⟩ := field_of_trod Try.underlying25 h 1 _ rfl (by kernel_rfl) (by simp)
    obtain ⟨s, e0, _, hs⟩ := DataW.trod_string Try.underlying9 k0
    obtain ⟨l, hl, _⟩ := rowOf_trod (Pr := fun _ => True) Try.underlying23 (by kernel_rfl : Try.prog.cellsOf 28 = 5) (by omega) spot_trod k1
    simp at e0 hl
    subst e0
    exact ⟨⟨s, l⟩, ⟨_, rfl, hl⟩, by unfold maxLen at hs; omega⟩
end

theorem Try.own : ownKnob Try.prog.godebug = none := by kernel_rfl
theorem Try.laidOut : laidOutB Try.prog = true := by kernel_rfl

set_option maxRecDepth 100000 in
theorem finds_lifted (os : Os) (started : os.Started) (H : Type) (enc : TypeId × Value → H) :
    ReturnsInHanded {} Try.checked os 3 .any (Rows.projectFindsSpec.pre6 enc Try.prog Try.f3 Rows.projectFindsRow.domain false) (Rows.projectFindsSpec.post enc Try.prog Try.f3 false true false false) := by
  refine returnsInHanded_of_change (C := Try.checked) Try.own started (by kernel_rfl) Try.func3
    (ChangeSpec.witness6 (enc := enc) (C := Try.checked) false ⟨#[], #[.slice none 0 0, .int .i64 0, .int .i64 0, .int .i64 0], []⟩ 8 (by kernel_rfl) (by kernel_rfl) (by kernel_rfl) (by kernel_rfl)) ?_
  intro W base args ds gs before hval0 hW hcnd _
  have hval : ∀ (j : Nat) t v, Try.f3.params[j]? = some t → args[j]? = some v → Value.okWide Try.prog W .any base t v := hval0
  have hW' := hW
  obtain ⟨p, q, hA0, hV, rfl, hfz, hnd⟩ := hW
  have hA : DataW.TrodAll enc Try.prog W 0 (fun _ => true) true Try.f3.params.toList args.toList ds p := hA0
  rw [Try.params3] at hA hval
  obtain ⟨v0, v1, v2, v3, d0, d1, d2, d3, p0, p1, p2, p3, rfl, rfl, rfl, h0, h1, h2, h3⟩ := trodAll_four hA
  obtain ⟨rfl, rfl⟩ := trodVars_none hV
  obtain ⟨line, rfl, rfl, rfl, w1⟩ := open_int Try.underlying3 (hval 1 3 v1 rfl rfl) h1
  obtain ⟨col, rfl, rfl, rfl, w2⟩ := open_int Try.underlying3 (hval 2 3 v2 rfl rfl) h2
  obtain ⟨node, rfl, rfl, rfl, w3⟩ := open_int Try.underlying3 (hval 3 3 v3 rfl rfl) h3
  obtain ⟨a, len, cap, rfl⟩ := okWide_slice Try.underlying22 (hval 0 22 v0 rfl rfl)
  obtain ⟨fuel, hf⟩ := h0
  obtain ⟨l, ⟨A, c, e, hc1, hc2, hr⟩, hp⟩ := rowOf_trod (Pr := fun y : Line => y.text.size ≤ 9223372036854775807) Try.underlying22 (by kernel_rfl : Try.prog.cellsOf 25 = 2) (by omega) line_trod (by simpa [Value.cells] using hf)
  have h0 : DataW.Trod enc Try.prog W 0 (fun _ => true) true 22 (.slice a len cap) d0 p0 := ⟨fuel, hf⟩
  rw [e] at h0 hW' ⊢
  clear hA0 hval0
  simp only [List.append_nil] at hW'
  have hlt : ∀ x ∈ p0, x.block < W.heap.size := fun x hx => hW'.lt x (by simpa using hx)
  refine (law_any A c line col node l W (· < W.heap.size) (fun b hb => hb) (by unfold maxLen at hc2; omega) hp hr).mono fun e W' ⟨he, hb⟩ => ?_
  subst he
  exact ⟨_, rfl, post_of_below (pa := p0) (pv := []) hW' (fun _ _ _ => trodAll_mk1 (shut_bool Try.underlying4 _))
    (fun sp hsp => by have h4 := trodAll_mk4 (trod_behind Try.laidOut (by kernel_rfl) (of_decide_eq_true (by kernel_rfl)) h0 hb hlt sp (fun x hx => hsp x (by simpa using hx))) (shut_int Try.underlying3 w1) (shut_int Try.underlying3 w2) (shut_int Try.underlying3 w3); simp only [List.append_nil] at h4; exact h4)
    (fun _ _ => rfl) (by simp) hb (ok_one (by kernel_rfl) rfl (okWide_bool_mk Try.underlying4 _))⟩

theorem projectFinds_holds : Rows.ProjectFindsSaid :=
  OpenClaim.holds_of_wide 3 Try.f3 rfl rfl rfl rfl rfl rfl rfl ⟨rfl, rfl, rfl, rfl, rfl⟩ rfl rfl rfl rfl rfl (by kernel_rfl) Try.func3 (by kernel_rfl)
    (of_decide_eq_true (by kernel_rfl)) (by unfold Func.isWrapper; rw [if_neg (of_decide_eq_false (by kernel_rfl))]; exact ⟨rfl, rfl⟩)
    (fun os started H enc _ => finds_lifted os started H enc)
#print axioms projectFinds_holds
end Go.Proofs.Ytfnainlijkeekaa
