import Derived.Test.YtfnainlijkeekaaBuilder
import Derived.Test.YtfnainlijkeekaaShelf
import Derived.Test.YtfnainlijkeekaaLines
namespace Go.Proofs.Ytfnainlijkeekaa
open Go Go.RowKit

def textOf (l : List Line) : List UInt8 := l.flatMap fun x => x.text.data.toList ++ [10]
theorem textOf_take (l : List Line) {k : Nat} (h : k < l.length) : textOf (l.take (k + 1)) = textOf (l.take k) ++ (l[k].text.data.toList ++ [10]) := by
  unfold textOf; rw [List.take_succ_eq_append_getElem h, List.flatMap_append]; simp only [List.flatMap_cons, List.flatMap_nil, List.append_nil]
theorem textOf_le (l : List Line) (k : Nat) : (textOf (l.take k)).length ≤ (textOf l).length := by
  conv => rhs; rw [← List.take_append_drop k l]
  unfold textOf; rw [List.flatMap_append, List.length_append]; omega
theorem cat_nl (s : ByteArray) : Lib.strCells (s ++ { data := #[10] }) = Lib.byteCells (s.data.toList ++ [10]) := by
  rw [Lib.strCells_eq]; simp

theorem size_nl (s : ByteArray) : (s ++ { data := #[10] }).size = s.size + 1 := by rw [ByteArray.size_append]; rfl

set_option maxHeartbeats 400000 in
theorem text_any (A : Option Addr) (c : Nat) (l : List Line) (w : World) (F : Nat → Prop) (hF : ∀ b, F b → b < w.heap.size) (hl : l.length ≤ 9223372036854775807) (hs : (textOf l).length ≤ 140737488355328) (h : RowOf 2 ELine w F A l) :
    Calls Try.prog 9 #[.slice A l.length c] w fun e w' => e = .returned (.string ⟨(textOf l).toArray⟩) ∧ Below w.heap.size w w' := by
  go_enter Try.func9, Try.ntmps9
  go_wp2
  go_loopw [8] (fun i wr => ∃ k : Nat, k ≤ l.length ∧ i = .int .i64 k ∧ Lib.IsBuilder 39 5 w.heap.size w.heap.size (Lib.byteCells (textOf (l.take k))) wr ∧ Below w.heap.size w wr) (fun i _ => l.length - (intOf i).toNat)
  case atStart => exact ⟨0, Nat.zero_le _, rfl, Lib.fresh_isBuilder _ _ _, (Below.refl _ _).alloc (Nat.le_refl _) _⟩
  case round =>
    obtain ⟨k, hk, rfl, hB, hbl⟩ := hrel
    have hsz := hbl.size
    by_cases hlt : k < l.length
    · obtain ⟨b, off, S, c', rfl, hb, h0, h1, hc1, hc2, hr⟩ := lines_at h hlt
      have hb := hF _ hb
      have h0 := (hbl.cell (by exact hb)).trans h0
      have h1 := (hbl.cell (by exact hb)).trans h1
      have e1 := textOf_take l hlt
      have e2 := textOf_le l (k + 1)
      have e3 : (textOf (l.take (k + 1))).length = (textOf (l.take k)).length + (l[k].text.size + 1) := by rw [e1, List.length_append, List.length_append]; rfl
      have E1 := Lib.hid e1; clear e1
      have hsum : (l[k].text.size : Int) + 1 ≤ 9223372036854775807 := by omega
      have E3 : (textOf (l.take k)).length + (l[k].text.size + 1) ≤ 140737488355328 := by omega
      clear e3 e2
      go_wp2_with fail
      refine (writeString_any w.heap.size w.heap.size _ _ _ (isBuilder_alloc hB _) (by rw [Lib.byteCells_length, size_nl]; exact E3) (by simp; omega)).mono ?_
      rintro e w1 ⟨rfl, hB1, hb1⟩
      rw [cat_nl, ← Lib.byteCells_append, ← E1.out] at hB1
      have hb2 := (hbl.alloc hsz _).trans hb1
      go_wp2
      go_roundw
      case rel => exact ⟨k + 1, by omega, by go_num, Or.inr hB1, hb2⟩
      case measure => simp [intOf] <;> omega
    · rw [List.take_of_length_le (by omega)] at hB
      go_wp2_with fail
      refine (Try.Builder_String_any w.heap.size w.heap.size _ _ hB hsz).mono ?_
      rintro e w1 ⟨rfl, hb1⟩
      go_wp2
      go_ret
      exact ⟨rfl, hbl.trans hb1⟩
end Go.Proofs.Ytfnainlijkeekaa
