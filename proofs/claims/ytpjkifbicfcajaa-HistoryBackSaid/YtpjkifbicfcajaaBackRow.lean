import Derived.Test.YtpjkifbicfcajaaHData
import Derived.Test.YtpjkifbicfcajaaRows
import Derived.Test.YtpjkifbicfcajaaBack
import Derived.HandedShaped
import Derived.ChangeMaps5
set_option linter.unusedSimpArgs false
set_option linter.unusedVariables false
section
/- a model that is an argument, its count too -/
namespace Go.Proofs.Ytpjkifbicfcajaa
open Go.ChangeShapes Go.WideShapes Go.ChangeAt Go.RowKit Go.Deep

section
variable {H : Type} {enc : TypeId × Value → H} {w : World} {base : Nat} {spare : Nat → Bool} {held : Bool}
set_option maxRecDepth 100000 in
/-- a model that is an argument, its count too -/
theorem model_all {r : Reach} {b0 : Nat} {v : Value} {d : DataW H} {ps : List MemPlace} (hval : Value.okWide Try.prog w r b0 27 v) (h : DataW.Trod enc Try.prog w base spare held 27 v d ps) (hw : WtOK Try.prog 27 d) :
    ∃ m : AModel, IsModel w (· < w.heap.size) v m ∧ ModAll m := by
  obtain ⟨cs, rfl, hsz⟩ := okWide_struct Try.underlying27 hval
  have hsz2 := hsz.trans (by kernel_rfl : Try.prog.cellsOf 27 = 2)
  obtain ⟨c0, c1, rfl⟩ := arr_two hsz2
  obtain ⟨fuel, hf⟩ := h
  obtain ⟨m, ⟨x, e, hx⟩, hm⟩ := modelE_trod _ [c0, c1] _ rfl (by simpa [Value.cells] using hf) hw
  injection e with e1 e2
  injection e2 with e2
  subst e1 e2
  exact ⟨m, ⟨_, rfl, hx⟩, hm⟩
end
end Go.Proofs.Ytpjkifbicfcajaa
end
section
/- PROVED: HistoryBack answers true for every input, and each argument reads afterwards as it read before. No condition. -/
namespace Go.Proofs.Ytpjkifbicfcajaa
open Go.ChangeShapes Go.WideShapes Go.ChangeAt Go.RowKit Go.Deep

theorem Try.own : ownKnob Try.prog.godebug = none := by kernel_rfl
theorem Try.laidOut : laidOutB Try.prog = true := by kernel_rfl

set_option maxRecDepth 100000 in
theorem back_lifted (os : Os) (started : os.Started) (H : Type) (enc : TypeId × Value → H) :
    ReturnsInHanded {} Try.checked os 5 .any (Rows.historyBackSpec.pre6 enc Try.prog Try.f5 Rows.historyBackRow.domain false) (Rows.historyBackSpec.post enc Try.prog Try.f5 false true false false) := by
  refine returnsInHanded_of_change_shaped (C := Try.checked) Try.own started (by kernel_rfl) Try.func5
    (ChangeSpec.witness6 (enc := enc) (C := Try.checked) false ⟨#[], #[.slice none 0 0], []⟩ 8 (by kernel_rfl) (by kernel_rfl) (by kernel_rfl) (by kernel_rfl)) ?_
  intro W base args ds gs before hval0 hW hcnd hwt _ _
  have hval : ∀ (j : Nat) t v, Try.f5.params[j]? = some t → args[j]? = some v → Value.okWide Try.prog W .any base t v := hval0
  have hW' := hW
  obtain ⟨p, q, hA0, hV, rfl, hfz, hnd⟩ := hW
  have hA : DataW.TrodAll enc Try.prog W 0 (fun _ => true) true Try.f5.params.toList args.toList ds p := hA0
  have hwt : (DataW.weightsEach Try.prog (Try.f5.params.toList ++ Rows.historyBackSpec.plain.varTypes Try.prog) (ds ++ gs)).all (· ≤ reachBytes) = true := hwt
  rw [Try.params5] at hA hval hwt
  obtain ⟨v0, d0, rfl, rfl, h0⟩ := trodAll_one hA
  obtain ⟨rfl, rfl⟩ := trodVars_none hV
  obtain ⟨L, hL, hz⟩ := models_arg (hval 0 22 v0 rfl rfl) h0 (WtOK.args hwt (i := 0) rfl rfl)
  obtain ⟨A, c, rfl, l1, l2, hr⟩ := hL
  clear hA0 hval0
  simp only [List.append_nil] at hW'
  have hlt : ∀ x ∈ p, x.block < W.heap.size := fun x hx => hW'.lt x (by simpa using hx)
  refine (back_any A c L W hr hz (by unfold maxLen at l2; omega)).mono fun e W' ⟨he, hbw⟩ => ?_
  subst he
  exact ⟨_, rfl, post_of_below (pa := p) (pv := []) hW' (fun _ _ _ => trodAll_mk1 (shut_bool Try.underlying4 _))
    (fun sp hsp => by
      have h4 := trodAll_mk1 (trod_behind Try.laidOut (by kernel_rfl) (of_decide_eq_true (by kernel_rfl)) h0 hbw (fun x hx => hlt x (by simp [hx])) sp (fun x hx => hsp x (by simp [hx])))
      exact h4)
    (fun _ _ => rfl) (by simp) hbw (ok_one (by kernel_rfl) rfl (okWide_bool_mk Try.underlying4 _))⟩

theorem historyBack_holds : Rows.HistoryBackSaid :=
  OpenClaim.holds_of_wide 5 Try.f5 rfl rfl rfl rfl rfl rfl rfl ⟨rfl, rfl, rfl, rfl, rfl⟩ rfl rfl rfl rfl rfl (by kernel_rfl) Try.func5 (by kernel_rfl)
    (of_decide_eq_true (by kernel_rfl)) (by unfold Func.isWrapper; rw [if_neg (of_decide_eq_false (by kernel_rfl))]; exact ⟨rfl, rfl⟩)
    (fun os started H enc _ => back_lifted os started H enc)
#print axioms historyBack_holds
end Go.Proofs.Ytpjkifbicfcajaa
end
