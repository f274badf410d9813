/- the two models of 'two', and what is done with them: plain -/
import Derived.Test.YtpjkifbicfcajaaTwoM
import Derived.Test.YtpjkifbicfcajaaHTouch
set_option linter.unusedSimpArgs false
set_option linter.unusedVariables false
namespace Go.Proofs.Ytpjkifbicfcajaa
open Go Go.RowKit

def wA : ByteArray := ⟨#[65]⟩
def wR : ByteArray := ⟨#[114]⟩
def wE : ByteArray := ⟨#[]⟩
def n1K (k : Int) : ANode := ⟨1, wA, 0, wE, [], [k], []⟩
def n2K (k : Int) : ANode := ⟨k, wA, 1, wR, [], [], []⟩
def mK (k : Int) : AModel := ⟨4, [n1K k, n2K k]⟩
theorem mK_check {k : Int} (h1 : 2 ≤ k) (h2 : k ≤ 3) : CheckM (mK k) := by
  have wa : wordA wA = true := by kernel_rfl
  have wr : wordA wR = true := by kernel_rfl
  have p0 : PropsOK [] := fun i h => absurd h (Nat.not_lt_zero _)
  have r0 : RefsOK 4 [] := fun i h => absurd h (Nat.not_lt_zero _)
  refine ⟨⟨⟨by show (1 : Int) ≤ 4; omega, by show (4 : Int) ≤ 1048577; omega, by show 2 ≤ 4096; omega⟩, fun i h => ?_⟩, ?_, ?_, ?_, ?_⟩
  · rcases i with _ | _ | i
    · exact ⟨by show (1 : Int) ≤ 1; omega, by show (1 : Int) < 4; omega, fun h => absurd h (Nat.lt_irrefl _)⟩
    · exact ⟨by show (1 : Int) ≤ k; omega, by show k < 4; omega, fun _ => by show (1 : Int) < k; omega⟩
    · exact absurd h (by show ¬ i + 1 + 1 < 2; omega)
  · intro n hn
    rcases List.mem_cons.1 hn with rfl | hn
    · exact ⟨wa, ⟨fun _ => rfl, fun _ => rfl⟩, fun h => absurd rfl h, by show 1 ≤ 2; omega, p0, r0⟩
    · rcases List.mem_cons.1 hn with rfl | hn
      · exact ⟨wa, ⟨fun h => absurd h (by show ¬ (1 : Int) = 0; omega), fun h => absurd h (by show ¬ 1 = 0; omega)⟩, fun _ => wr, by show 0 ≤ 2; omega, p0, r0⟩
      · cases hn
  · intro n hn
    rcases List.mem_cons.1 hn with rfl | hn
    · intro x hx
      have hx : x = k := by simpa [n1K] using hx
      subst hx
      exact ⟨n2K x, by simp [mK], rfl, rfl⟩
    · rcases List.mem_cons.1 hn with rfl | hn
      · intro x hx; cases hx
      · cases hn
  · intro n hn
    have hc : ∀ i, cnt (mK k).nodes i = [k].count i := fun i => rfl
    rcases List.mem_cons.1 hn with rfl | hn
    · refine ⟨fun _ => ?_, fun h => absurd rfl h⟩
      rw [hc]
      show List.count (1 : Int) [k] = 0
      rw [List.count_eq_zero]; simp; omega
    · rcases List.mem_cons.1 hn with rfl | hn
      · refine ⟨fun h => absurd h (by show ¬ (1 : Int) = 0; omega), fun _ => ?_⟩
        rw [hc]
        show List.count k [k] = 1
        simp
      · cases hn
  · intro n hn
    rcases List.mem_cons.1 hn with rfl | hn
    · exact .inl rfl
    · rcases List.mem_cons.1 hn with rfl | hn
      · exact .inr ⟨n1K k, by simp [mK], rfl, .inl rfl⟩
      · cases hn
open Classical in
theorem mK_yes {k : Int} (h1 : 2 ≤ k) (h2 : k ≤ 3) : checkI (mK k) = 0 := by unfold checkI; rw [decide_eq_true (mK_check h1 h2)]; rfl
theorem m0_no : checkI ⟨0, []⟩ = 29 := checkI_no (fun h => by have : (1 : Int) ≤ 0 := h.1.1.1; omega)
theorem wA_size : wA.size = 1 := rfl
theorem mK_all {k : Int} (h1 : 2 ≤ k) (h2 : k ≤ 3) : ModAll (mK k) := by
  have ha : wA.size ≤ 9223372036854775807 := by show 1 ≤ _; omega
  have hr : wR.size ≤ 9223372036854775807 := by show 1 ≤ _; omega
  have he : wE.size ≤ 9223372036854775807 := by show 0 ≤ _; omega
  have i0 : ∀ x : Int, -9 ≤ x → x ≤ 9 → InR x := fun x h1 h2 => by unfold InR; omega
  refine ⟨fun y hy => ?_, i0 4 (by omega) (by omega), by show 2 ≤ _; omega⟩
  rcases List.mem_cons.1 hy with rfl | hy
  · exact ⟨⟨⟨ha, he, by simp [n1K], by simp [n1K]⟩, i0 0 (by omega) (by omega), fun x hx => by
      have hx : x = k := by simpa [n1K] using hx
      exact i0 x (by omega) (by omega)⟩, ⟨by show 0 * 32 ≤ _; omega, by show 1 * 8 ≤ _; omega, by show 0 * 24 ≤ _; omega⟩, i0 1 (by omega) (by omega), by simp [n1K]⟩
  · rcases List.mem_cons.1 hy with rfl | hy
    · exact ⟨⟨⟨ha, hr, by simp [n2K], by simp [n2K]⟩, i0 1 (by omega) (by omega), by simp [n2K]⟩, ⟨by show 0 * 32 ≤ _; omega, by show 0 * 8 ≤ _; omega, by show 0 * 24 ≤ _; omega⟩, i0 k (by omega) (by omega), by simp [n2K]⟩
    · cases hy
theorem mK_ne : mK 3 ≠ mK 2 := fun h => by
  have := congrArg (fun m => m.nodes.map ANode.id) h
  simp [mK, n1K, n2K] at this
theorem mK_touchE : touchE (mK 2) (mK 3) = 0 := by unfold touchE; rw [if_pos ⟨mK_yes (by omega) (by omega), mK_yes (by omega) (by omega)⟩]
theorem mK_touchL : touchL (mK 2) (mK 3) = [1, 2, 3] := by
  unfold touchL
  rw [if_pos ⟨mK_yes (by omega) (by omega), mK_yes (by omega) (by omega)⟩]
  show mergeT [n1K 2, n2K 2] [n1K 3, n2K 3] = _
  rw [mergeT_diff (x := n1K 2) (y := n1K 3) [n2K 2] [n2K 3] rfl (fun h => by have := congrArg ANode.kids h; simp [n1K] at this), mergeT_lt (x := n2K 2) (y := n2K 3) [] [] (by show (2 : Int) < 3; omega), mergeT_right, mergeT_nil]
  rfl
theorem pushK1 : pushP ⟨[], mK 2, []⟩ (mK 3) = (0, ⟨[mK 2], mK 3, []⟩) := by
  unfold pushP
  rw [if_neg (by rw [mK_yes (by omega) (by omega)]; simp), if_neg mK_ne]
  rfl
theorem pushK2 : pushP ⟨[mK 2], mK 3, []⟩ (mK 3) = (0, ⟨[mK 2], mK 3, []⟩) := by
  unfold pushP
  rw [if_neg (by rw [mK_yes (by omega) (by omega)]; simp), if_pos rfl]
section
variable {w : World} {q : Nat} {F : Nat → Prop}
theorem two_nodes {x y : LN} (hb : Blk w q 79 (x.cells ++ y.cells).toArray) (hx : x.Reads w F) (hy : y.Reads w F) (hq : F q) : RowOf 7 ENode w F (some ⟨q, 0, none⟩) [x.n, y.n] := by
  refine ⟨fun _ => ⟨q, 0, rfl, hq⟩, fun i hi => ?_⟩
  rcases i with _ | i
  · refine ⟨x.cells, LN.cells_len _, ⟨x.p, x.k, x.r, rfl, hx.1, hx.2.1, hx.2.2⟩, fun b off e j hj => ?_⟩
    cases e
    rw [hb.cell]
    rcases j with _ | _ | _ | _ | _ | _ | _ | j <;> first | rfl | omega
  · have hi0 : i = 0 := by simp at hi; omega
    subst hi0
    refine ⟨y.cells, LN.cells_len _, ⟨y.p, y.k, y.r, rfl, hy.1, hy.2.1, hy.2.2⟩, fun b off e j hj => ?_⟩
    cases e
    rw [hb.cell]
    rcases j with _ | _ | _ | _ | _ | _ | _ | j <;> first | rfl | omega
theorem one_int {n : Int} (hb : Blk w q 3 #[.int .i64 n]) (hq : F q) : IsRow 1 EInt w F (.slice (some ⟨q, 0, none⟩) 1 1) [n] := by
  refine ⟨_, _, rfl, Nat.le_refl _, by unfold maxLen; omega, fun _ => ⟨q, 0, rfl, hq⟩, fun i hi => ?_⟩
  have hi0 : i = 0 := by simp at hi; omega
  subst hi0
  refine ⟨[.int .i64 n], rfl, rfl, fun b off e j hj => ?_⟩
  cases e
  have : j = 0 := by omega
  subst this
  rw [hb.cell]; rfl
theorem reads0 {n : ANode} (hp : n.props = []) (hk : n.kids = []) (hr : n.refs = []) : LN.Reads w F ⟨n, .slice none 0 0, .slice none 0 0, .slice none 0 0⟩ := by
  refine ⟨?_, ?_, ?_⟩
  · show IsRow 2 EProp w F _ n.props; rw [hp]; exact IsRow.nil
  · show IsRow 1 EInt w F _ n.kids; rw [hk]; exact IsRow.nil
  · show IsRow 2 ERef w F _ n.refs; rw [hr]; exact IsRow.nil
end
/-- one of the two, in memory -/
theorem mK_row {w : World} {p q : Nat} {F : Nat → Prop} (k : Int) (hp : Blk w p 3 #[.int .i64 k]) (hq : Blk w q 79 #[.int .i64 1, .string wA, .int .i64 0, .string wE, .slice none 0 0, .slice (some ⟨p, 0, none⟩) 1 1, .slice none 0 0, .int .i64 k, .string wA, .int .i64 1, .string wR, .slice none 0 0, .slice none 0 0, .slice none 0 0]) (hFp : F p) (hFq : F q) :
    RowOf 7 ENode w F (some ⟨q, 0, none⟩) (mK k).nodes :=
  two_nodes (x := ⟨n1K k, .slice none 0 0, .slice (some ⟨p, 0, none⟩) 1 1, .slice none 0 0⟩) (y := ⟨n2K k, .slice none 0 0, .slice none 0 0, .slice none 0 0⟩) hq ⟨IsRow.nil, one_int hp hFp, IsRow.nil⟩ (reads0 rfl rfl rfl) hFq
end Go.Proofs.Ytpjkifbicfcajaa
