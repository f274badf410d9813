import Derived.Test.YtfnainlijkeekaaText
namespace Go.Proofs.Ytfnainlijkeekaa
open Go Go.RowKit

theorem own_bytes_string {w : World} {base cap : Nat} {v : Value} {acc : List UInt8} {e : TypeId} (h : w.ownsRow base e 1 v acc.length (Lib.byteCells acc)) {P : Program} {src dst : TypeId} (hs : P.underlying src = some (.slice e)) (he : P.underlying e = some (.int .u8)) (hd : P.underlying dst = some .string) :
    (convert src dst v).run P w = .ok (.string ⟨acc.toArray⟩) w := by
  rcases h.2 with ⟨rfl, hn⟩ | ⟨g, c, cur, rfl, _, hg, _⟩
  · obtain rfl : acc = [] := List.eq_nil_of_length_eq_zero hn
    rw [run_convert_bytes_string w src dst e none 0 0 hs he hd]
    rfl
  · refine run_convert_bytes_back w src dst e ⟨g, 0, none⟩ c acc hs he hd fun j hj => ?_
    have := h.cells (g := g) rfl j (.int .u8 (acc[j].toNat : Int)) (by simp [Lib.byteCells, hj])
    exact this

set_option maxHeartbeats 400000 in
theorem refText_any (A : Option Addr) (c : Nat) (l : List Line) (w : World) (F : Nat → Prop) (hF : ∀ b, F b → b < w.heap.size) (hl : l.length ≤ 9223372036854775807) (hs : (textOf l).length ≤ 140737488355328) (h : RowOf 2 ELine w F A l) :
    Calls Try.prog 10 #[.slice A l.length c] w fun e w' => e = .returned (.string ⟨(textOf l).toArray⟩) ∧ Below w.heap.size w w' := by
  obtain ⟨i0, hi, hz0, hz1, hz2⟩ := info_parts byte_info
  go_enter Try.func10, Try.ntmps10
  go_wp2
  go_loopw [3, 4] (fun v i wr => ∃ k : Nat, k ≤ l.length ∧ i = .int .i64 k ∧ wr.ownsRow w.heap.size 5 1 v (textOf (l.take k)).length (Lib.byteCells (textOf (l.take k))) ∧ Below w.heap.size w wr) (fun _ i _ => l.length - (intOf i).toNat)
  case atStart => exact ⟨0, Nat.zero_le _, rfl, World.ownsRow_nil _ _ _ _, Below.refl _ _⟩
  case round =>
    obtain ⟨k, hk, rfl, hown, hbl⟩ := hrel
    have hsz := hbl.size
    by_cases hlt : k < l.length
    · obtain ⟨b, off, S, c', rfl, hb, h0, h1, hc1, hc2, hr⟩ := lines_at h hlt
      have hb := hF _ hb
      have h0 := (hbl.cell (by exact hb)).trans h0
      have h1 := (hbl.cell (by exact hb)).trans h1
      have e1 := textOf_take l hlt
      have e2 := textOf_le l (k + 1)
      have e3 : (textOf (l.take (k + 1))).length = (textOf (l.take k)).length + (l[k].text.size + 1) := by rw [e1, List.length_append, List.length_append]; rfl
      have E1 := Lib.hid e1; clear e1
      have E3 : (textOf (l.take k)).length + (l[k].text.size + 1) ≤ 140737488355328 := by omega
      have E4 := Lib.hid e3
      clear e3 e2
      go_wp2_with (at_builtin; refine Lib.wpList_append_own_string _ rfl _ _ 37 9 rfl w.heap.size 5 i0 Try.underlying37 Try.underlying9 hi hz0 hz1 hz2 _ _ _ rfl hown l[k].text rfl (by unfold maxLen; omega) (by omega) hsz ?_)
      intro v1 w1 own1 g1 _
      have b1 := hbl.grown g1 hsz (fun k hk => (hown.lt k hk).1)
      have sz1 := b1.size
      go_wp2_with (at_builtin; refine wpList_append_own _ rfl _ _ 37 rfl w.heap.size 5 i0 (.int .u8 0) 1 1 Try.underlying37 hi hz0 hz1 hz2 rfl (by decide) _ _ _ rfl (own1.alloc _) ⟨w1.heap.size, 0, none⟩ 1 1 [.int .u8 10] rfl rfl ?c1 ?c2 ?c3 ?c4 ?c5 ?_)
      case c1 =>
        intro j u hj
        match j, hj with
        | 0, hj => simp at hj; subst hj; simp [Addr.add]
      case c2 => intro u hu; simp at hu; subst hu; rfl
      case c3 => unfold maxLen; omega
      case c4 => omega
      case c5 => simp; omega
      intro v2 w2 own2 g2 _
      have b2 := (b1.alloc sz1 _).grown g2 (by simp; omega) (fun k hk => (own1.lt k hk).1)
      go_wp2
      go_roundw
      case rel => exact ⟨k + 1, by omega, by go_num, by rw [Nat.add_assoc] at own2; rw [E4.out, E1.out, Lib.byteCells_append, Lib.byteCells_append, ← Lib.strCells_eq]; exact own2, b2⟩
      case measure => simp [intOf] <;> omega
    · rw [List.take_of_length_le (by omega)] at hown
      have hcv := own_bytes_string (cap := 0) hown Try.underlying37 Try.underlying5 Try.underlying9
      go_wp2
      go_ret
      exact ⟨rfl, hbl⟩
end Go.Proofs.Ytfnainlijkeekaa
