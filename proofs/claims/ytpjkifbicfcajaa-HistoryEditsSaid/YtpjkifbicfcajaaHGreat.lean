/- models are many, or not -/
import Derived.Test.YtpjkifbicfcajaaPastP
set_option linter.unusedSimpArgs false
set_option linter.unusedVariables false
namespace Go.Proofs.Ytpjkifbicfcajaa
open Go Go.RowKit

def SomeBool (e : Ending) : Prop := ∃ b : Bool, e = .returned (.bool b)
set_option maxRecDepth 100000 in
set_option maxHeartbeats 2000000 in
theorem great_any (A : Option Addr) (c : Nat) (L : List AModel) (w : World) (F : Nat → Prop) (hF : ∀ b, F b → b < w.heap.size) (h : RowOf 2 EModel w F A L) (hz : ∀ m ∈ L, ModAll m) (hl : L.length ≤ 9223372036854775807) :
    Calls Try.prog 10 #[.slice A L.length c] w fun e w' => SomeBool e ∧ Below w.heap.size w w' := by
  have HH := Lib.hid h
  have HZ := Lib.hid hz
  clear h hz
  go_enter Try.func10, Try.ntmps10
  go_wp2_with fail
  go_loopg [3, 4, 5, 6] L.length (fun g s3 s4 s5 s6 wx => ∃ i n : Nat, s3 = .int .i64 n ∧ s4 = .int .i64 i ∧ g = L.length - i ∧ i ≤ L.length ∧ i ≤ 1000 ∧ (n : Int) ≤ 1001000 * (i : Int) ∧ Below w.heap.size w wx)
  case atStart => exact ⟨0, 0, rfl, rfl, rfl, Nat.zero_le _, Nat.zero_le _, by omega, Below.refl _ _⟩
  case round =>
    obtain ⟨i, n, rfl, rfl, rfl, hil, hi1, hn, hb⟩ := hrel
    obtain ⟨wo, hwo⟩ : ∃ x, x = wr := ⟨_, rfl⟩
    subst hwo
    have HB := Lib.hid hb
    have HN := Lib.hid hn
    clear hb hn
    have i0 : (0 : Int) ≤ i := by omega
    by_cases hlt : i < L.length
    · have hlt' : (i : Int) < L.length := by omega
      have hd1 : decide ((i : Int) < L.length) = true := decide_eq_true hlt'
      by_cases h1 : i < 1000
      · have hd2 : decide ((i : Int) < 1000) = true := decide_eq_true (by omega)
        obtain ⟨b, off, S, cs, hA, hbF, d0, d1, hs1, hs2, hrow⟩ := model_at (RowOf.keep EModel.stays (Keep.below HB.out hF) (F' := F) (fun _ h => h) HH.out) hlt
        have HZX := Lib.hid (HZ.out _ (List.getElem_mem hlt))
        obtain ⟨m, hm⟩ : ∃ m, L[i] = m := ⟨_, rfl⟩
        rw [hm] at HZX d0 d1 hrow
        have HROW := Lib.hid hrow
        have hbw : b < w.heap.size := hF b hbF
        have HD : Hid (∀ w', Below wo.heap.size wo w' → w'.cell? ⟨b, off + i * 2 + 1, none⟩ = some (.slice S m.nodes.length cs)) := Lib.hid (fun w' hb' => (hb'.cell (p := ⟨b, _, none⟩) (Nat.lt_of_lt_of_le hbw HB.out.size)).trans d1)
        clear hm d0 d1 hrow hs1 hs2
        subst hA
        go_wp2_with fail
        go_loopg [3, 5, 6] m.nodes.length (fun g s3 s5 s6 wx => ∃ k n : Nat, s3 = .int .i64 n ∧ s5 = .int .i64 k ∧ g = m.nodes.length - k ∧ k ≤ m.nodes.length ∧ k ≤ 1000 ∧ (n : Int) ≤ 1001000 * (i : Int) + 1001 * (k : Int) ∧ Below wo.heap.size wo wx)
        case atStart => exact ⟨0, n, rfl, rfl, rfl, Nat.zero_le _, Nat.zero_le _, by have := HN.out; omega, Below.refl _ _⟩
        case round =>
          obtain ⟨k, n2, rfl, rfl, rfl, hkl, hk1, hn2, hb2⟩ := hrel
          have HB2 := Lib.hid hb2; have HN2 := Lib.hid hn2
          have d1 := HD.out _ hb2
          clear hb2 hn2
          have k0 : (0 : Int) ≤ k := by omega
          by_cases hkt : k < m.nodes.length
          · have hkt' : (k : Int) < m.nodes.length := by omega
            have hd3 : decide ((k : Int) < m.nodes.length) = true := decide_eq_true hkt'
            by_cases h2 : k < 1000
            · have hd4 : decide ((k : Int) < 1000) = true := decide_eq_true (by omega)
              have hFw : ∀ b, F b → b < wo.heap.size := fun b hx => Nat.lt_of_lt_of_le (hF b hx) HB.out.size
              obtain ⟨nb, noff, Sp, cp, Sk, ck, Sr, cr, rfl, hbF2, e0, e1, e2, e3, e4, e5, e6, hp, hk, hr⟩ := node_at (RowOf.keep ENode.stays (Keep.below HB2.out hFw) (F' := F) (fun _ h => h) HROW.out) hkt
              have hzx := (HZX.out.1 _ (List.getElem_mem hkt)).2.1
              obtain ⟨x, hx⟩ : ∃ x, m.nodes[k] = x := ⟨_, rfl⟩
              rw [hx] at e0 e1 e2 e3 e4 e5 e6 hzx
              obtain ⟨z1, z2, z3⟩ := hzx
              clear hx hp hk hr
              have hnb : (n2 : Int) ≤ 2003000000 := by have := HN2.out; omega
              go_wp2
              · go_roundg (m.nodes.length - (k + 1))
                case measure => omega
                case rel => exact ⟨k + 1, n2 + 1 + (x.props.length + x.refs.length + x.kids.length / 8), by congr 1, by go_num, rfl, by omega, by omega, by have := HN2.out; omega, HB2.out.alloc HB2.out.size _⟩
              · go_roundg (m.nodes.length - (k + 1))
                case measure => omega
                case rel => exact ⟨k + 1, n2 + 1 + 1000, by congr 1, by go_num, rfl, by omega, by omega, by have := HN2.out; omega, HB2.out.alloc HB2.out.size _⟩
            · have hd4 : decide ((k : Int) < 1000) = false := decide_eq_false (by omega)
              go_wp2
              go_roundg (L.length - (i + 1))
              case measure => omega
              case rel => exact ⟨i + 1, n2, rfl, by go_num, rfl, by omega, by omega, by have := HN2.out; omega, HB.out.trans (HB2.out.mono HB.out.size)⟩
          · have hkt' : ¬ (k : Int) < m.nodes.length := by omega
            have hd3 : decide ((k : Int) < m.nodes.length) = false := decide_eq_false hkt'
            go_wp2
            go_roundg (L.length - (i + 1))
            case measure => omega
            case rel => exact ⟨i + 1, n2, rfl, by go_num, rfl, by omega, by omega, by have := HN2.out; omega, HB.out.trans (HB2.out.mono HB.out.size)⟩
      · have hd2 : decide ((i : Int) < 1000) = false := decide_eq_false (by omega)
        go_wp2
        go_ret
        exact ⟨⟨_, rfl⟩, HB.out⟩
    · have hlt' : ¬ (i : Int) < L.length := by omega
      have hd1 : decide ((i : Int) < L.length) = false := decide_eq_false hlt'
      go_wp2
      go_ret
      exact ⟨⟨_, rfl⟩, HB.out⟩
end Go.Proofs.Ytpjkifbicfcajaa
