import Derived.Test.YtgcbnndbeoekgaaNumber
import Derived.Test.YtgcbnndbeoekgaaNums
import Derived.Test.YtgcbnndbeoekgaaNodes
import Derived.Deep.RegionHeld3
set_option linter.unusedSimpArgs false
set_option linter.unusedVariables false
namespace Go.Proofs.Ytgcbnndbeoekgaa
open Go Go.RowKit

/-- the reader in block B, at a place, with the nodes that it has read -/
def Rd (w : World) (B : Nat) (s : ByteArray) (i : Nat) (ts : List TN) : Prop := i ≤ s.size ∧ ∃ v, Blk w B 62 #[.string s, .int .i64 i, v] ∧ OwnNodes 66 3 w B v ts

theorem Rd.drewN {w : World} {B : Nat} {s : ByteArray} {i : Nat} {ts : List TN} (h : Rd w B s i ts) (n : Nat) : Rd (w.drewN n) B s i ts := h
theorem Rd.to {w : World} {B : Nat} {s : ByteArray} {i : Nat} {ts : List TN} (h : Rd w B s i ts) {j : Nat} (hj : j ≤ s.size) {x : Int} (hx : x = j) : Rd (w.setCell ⟨B, 1, none⟩ (.int .i64 x)) B s j ts := by
  subst hx
  obtain ⟨_, v, hb, ho⟩ := h
  exact ⟨hj, v, by simpa using hb.set_ 1 (.int .i64 j), ho.other hb (by decide) (by decide) _⟩

theorem tn_info : (Try.prog.info? 66).map (fun i => (i.zero, i.size, i.bytes)) = some (some (.agg #[.int .i64 0, .string { data := #[] }, .slice none 0 0]), 3, 48) := by kernel_rfl
theorem int_info : (Try.prog.info? 3).map (fun i => (i.zero, i.size, i.bytes)) = some (some (.int .i64 0), 1, 8) := by kernel_rfl
def TN.zero : TN := ⟨0, ByteArray.empty, []⟩
/-- behind the append of a node, its slice stored into the reader -/
theorem Rd.pushed {w w1 : World} {B : Nat} {s : ByteArray} {i : Nat} {ts ts' : List TN} {v v' : Value} (hi : i ≤ s.size) (hb : Blk w B 62 #[.string s, .int .i64 i, v]) (ho : OwnNodes 66 3 w B v ts) (hg : w.grownBy w1 v.ownBlock)
    (ho1 : OwnNodes 66 3 w1 B v' ts') : Blk w1 B 62 #[.string s, .int .i64 i, v] ∧ Rd (w1.setCell ⟨B, 2, none⟩ v') B s i ts' := by
  have hb1 : Blk w1 B 62 #[.string s, .int .i64 i, v] := hb.grown hg (fun e => ho.ne_blk hb (by decide) e.symm)
  exact ⟨hb1, hi, v', by simpa using hb1.set_ 2 v', ho1.other hb1 (by decide) (by decide) _⟩

def IsPost (B : Nat) (s : ByteArray) (i : Nat) (ts : List TN) (c : Int) (w : World) (e : Ending) (w' : World) : Prop :=
  Below B w w' ∧ ((e = .returned (.bool true) ∧ (∃ h : i < s.size, (s[i].toNat : Int) = c) ∧ Rd w' B s (i + 1) ts) ∨ (e = .returned (.bool false) ∧ (∀ h : i < s.size, (s[i].toNat : Int) ≠ c) ∧ Rd w' B s i ts))

set_option maxHeartbeats 1000000 in
theorem is_any (B : Nat) (s : ByteArray) (i : Nat) (ts : List TN) (c : Int) (w : World) (hs : s.size ≤ 9223372036854775807) (h : Rd w B s i ts) :
    Calls Try.prog 39 #[.pointer (some ⟨B, 0, none⟩), .int .u8 c] w (IsPost B s i ts c w) := by
  have H := Lib.hid h
  obtain ⟨hi, v, hb, ho⟩ := h
  have c0 := hb.cell 0; have c1 := hb.cell 1; have f1 := hb.frozen 1
  simp at c0 c1
  clear ho
  by_cases hlt : i < s.size
  · have hl' : (i : Int) < s.size := by omega
    by_cases hc : (s[i].toNat : Int) = c
    · have hc' : ((s[i].toNat : Int) == c) = true := beq_iff_eq.2 hc
      have HC := Lib.hid hc; clear hc
      go_enter Try.func39, Try.ntmps39
      go_wp2
      go_quiet (fail)
      go_wp2
      go_ret
      refine ⟨((below_drewN (Below.refl _ _) _).setCell (p := ⟨B, 1, none⟩) (Nat.le_refl _) _), .inl ⟨rfl, ⟨hlt, HC.out⟩, ?_⟩⟩
      exact (H.out.drewN _).to (j := i + 1) (by omega) (by simp)
    · have hc' : ((s[i].toNat : Int) == c) = false := beq_eq_false_iff_ne.2 hc
      have HC := Lib.hid hc; clear hc
      go_enter Try.func39, Try.ntmps39
      go_wp2
      go_quiet (fail)
      go_wp2
      go_ret
      exact ⟨below_drewN (Below.refl _ _) _, .inr ⟨rfl, fun _ => HC.out, H.out.drewN _⟩⟩
  · have hl' : decide ((i : Int) < s.size) = false := decide_eq_false (by omega)
    go_enter Try.func39, Try.ntmps39
    go_wp2
    go_quiet (fail)
    go_wp2
    go_ret
    exact ⟨below_drewN (Below.refl _ _) _, .inr ⟨rfl, fun h => absurd h hlt, H.out.drewN _⟩⟩
end Go.Proofs.Ytgcbnndbeoekgaa
