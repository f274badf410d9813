import Derived.Test.YtgcbnndbeoekgaaDoorRightR
set_option linter.unusedSimpArgs false
set_option linter.unusedVariables false
section
/- a number's figures, as the document shows them -/
namespace Go.Proofs.YtgcbnndbeoekgaaDoor
open Go Go.RowKit

def byt (l : List UInt8) : ByteArray := ⟨l.toArray⟩
theorem byt_app (a b : List UInt8) : byt a ++ byt b = byt (a ++ b) := by
  apply ByteArray.ext
  rw [ByteArray.data_append]
  show a.toArray ++ b.toArray = (a ++ b).toArray
  simp
theorem byt_of (s : ByteArray) : byt s.data.toList = s := rfl
end Go.Proofs.YtgcbnndbeoekgaaDoor
end
section
/- a term's text, as the document has it -/
namespace Go.Proofs.YtgcbnndbeoekgaaDoor
open Go Go.RowKit

theorem name_len {nm : ByteArray} (h : rightB nm.data.toList = true) : nm.size ≤ 32 := by
  have : nm.size = nm.data.toList.length := rfl
  rw [this]
  cases e : nm.data.toList with
  | nil => simp
  | cons c q =>
    rw [e] at h
    simp only [rightB, Bool.and_eq_true, decide_eq_true_eq] at h
    simp only [List.length_cons]; omega
theorem parT_len {A : Fo} (h : A.wf) : (parT A).length ≤ 40 * A.size + 1 := by
  unfold parT
  split
  · simp
  · have := A.txt_le false h
    simp; omega

end Go.Proofs.YtgcbnndbeoekgaaDoor
end
