import Derived.Test.YtpjkifbicfcajaaTwoM
import Derived.Test.YtpjkifbicfcajaaHTouch
import Derived.Test.YtpjkifbicfcajaaRegY
import Derived.Test.YtpjkifbicfcajaaHPush
import Derived.Test.YtpjkifbicfcajaaHTo
import Derived.Test.YtpjkifbicfcajaaHNew
import Derived.Test.YtpjkifbicfcajaaRowM
import Derived.Test.YtpjkifbicfcajaaASameOwn
set_option linter.unusedSimpArgs false
set_option linter.unusedVariables false
section
/- the two models of 'two', and what is done with them: plain -/
namespace Go.Proofs.Ytpjkifbicfcajaa
open Go Go.RowKit

def wA : ByteArray := ⟨#[65]⟩
def wR : ByteArray := ⟨#[114]⟩
def wE : ByteArray := ⟨#[]⟩
def n1K (k : Int) : ANode := ⟨1, wA, 0, wE, [], [k], []⟩
def n2K (k : Int) : ANode := ⟨k, wA, 1, wR, [], [], []⟩
def mK (k : Int) : AModel := ⟨4, [n1K k, n2K k]⟩
theorem mK_check {k : Int} (h1 : 2 ≤ k) (h2 : k ≤ 3) : CheckM (mK k) := by
  have wa : wordA wA = true := by kernel_rfl
  have wr : wordA wR = true := by kernel_rfl
  have p0 : PropsOK [] := fun i h => absurd h (Nat.not_lt_zero _)
  have r0 : RefsOK 4 [] := fun i h => absurd h (Nat.not_lt_zero _)
  refine ⟨⟨⟨by show (1 : Int) ≤ 4; omega, by show (4 : Int) ≤ 1048577; omega, by show 2 ≤ 4096; omega⟩, fun i h => ?_⟩, ?_, ?_, ?_, ?_⟩
  · rcases i with _ | _ | i
    · exact ⟨by show (1 : Int) ≤ 1; omega, by show (1 : Int) < 4; omega, fun h => absurd h (Nat.lt_irrefl _)⟩
    · exact ⟨by show (1 : Int) ≤ k; omega, by show k < 4; omega, fun _ => by show (1 : Int) < k; omega⟩
    · exact absurd h (by show ¬ i + 1 + 1 < 2; omega)
  · intro n hn
    rcases List.mem_cons.1 hn with rfl | hn
    · exact ⟨wa, ⟨fun _ => rfl, fun _ => rfl⟩, fun h => absurd rfl h, by show 1 ≤ 2; omega, p0, r0⟩
    · rcases List.mem_cons.1 hn with rfl | hn
      · exact ⟨wa, ⟨fun h => absurd h (by show ¬ (1 : Int) = 0; omega), fun h => absurd h (by show ¬ 1 = 0; omega)⟩, fun _ => wr, by show 0 ≤ 2; omega, p0, r0⟩
      · cases hn
  · intro n hn
    rcases List.mem_cons.1 hn with rfl | hn
    · intro x hx
      have hx : x = k := by simpa [n1K] using hx
      subst hx
      exact ⟨n2K x, by simp [mK], rfl, rfl⟩
    · rcases List.mem_cons.1 hn with rfl | hn
      · intro x hx; cases hx
      · cases hn
  · intro n hn
    have hc : ∀ i, cnt (mK k).nodes i = [k].count i := fun i => rfl
    rcases List.mem_cons.1 hn with rfl | hn
    · refine ⟨fun _ => ?_, fun h => absurd rfl h⟩
      rw [hc]
      show List.count (1 : Int) [k] = 0
      rw [List.count_eq_zero]; simp; omega
    · rcases List.mem_cons.1 hn with rfl | hn
      · refine ⟨fun h => absurd h (by show ¬ (1 : Int) = 0; omega), fun _ => ?_⟩
        rw [hc]
        show List.count k [k] = 1
        simp
      · cases hn
  · intro n hn
    rcases List.mem_cons.1 hn with rfl | hn
    · exact .inl rfl
    · rcases List.mem_cons.1 hn with rfl | hn
      · exact .inr ⟨n1K k, by simp [mK], rfl, .inl rfl⟩
      · cases hn
open Classical in
theorem mK_yes {k : Int} (h1 : 2 ≤ k) (h2 : k ≤ 3) : checkI (mK k) = 0 := by unfold checkI; rw [decide_eq_true (mK_check h1 h2)]; rfl
theorem m0_no : checkI ⟨0, []⟩ = 29 := checkI_no (fun h => by have : (1 : Int) ≤ 0 := h.1.1.1; omega)
theorem wA_size : wA.size = 1 := rfl
theorem mK_all {k : Int} (h1 : 2 ≤ k) (h2 : k ≤ 3) : ModAll (mK k) := by
  have ha : wA.size ≤ 9223372036854775807 := by show 1 ≤ _; omega
  have hr : wR.size ≤ 9223372036854775807 := by show 1 ≤ _; omega
  have he : wE.size ≤ 9223372036854775807 := by show 0 ≤ _; omega
  have i0 : ∀ x : Int, -9 ≤ x → x ≤ 9 → InR x := fun x h1 h2 => by unfold InR; omega
  refine ⟨fun y hy => ?_, i0 4 (by omega) (by omega), by show 2 ≤ _; omega⟩
  rcases List.mem_cons.1 hy with rfl | hy
  · exact ⟨⟨⟨ha, he, by simp [n1K], by simp [n1K]⟩, i0 0 (by omega) (by omega), fun x hx => by
      have hx : x = k := by simpa [n1K] using hx
      exact i0 x (by omega) (by omega)⟩, ⟨by show 0 * 32 ≤ _; omega, by show 1 * 8 ≤ _; omega, by show 0 * 24 ≤ _; omega⟩, i0 1 (by omega) (by omega), by simp [n1K]⟩
  · rcases List.mem_cons.1 hy with rfl | hy
    · exact ⟨⟨⟨ha, hr, by simp [n2K], by simp [n2K]⟩, i0 1 (by omega) (by omega), by simp [n2K]⟩, ⟨by show 0 * 32 ≤ _; omega, by show 0 * 8 ≤ _; omega, by show 0 * 24 ≤ _; omega⟩, i0 k (by omega) (by omega), by simp [n2K]⟩
    · cases hy
theorem mK_ne : mK 3 ≠ mK 2 := fun h => by
  have := congrArg (fun m => m.nodes.map ANode.id) h
  simp [mK, n1K, n2K] at this
theorem mK_touchE : touchE (mK 2) (mK 3) = 0 := by unfold touchE; rw [if_pos ⟨mK_yes (by omega) (by omega), mK_yes (by omega) (by omega)⟩]
theorem mK_touchL : touchL (mK 2) (mK 3) = [1, 2, 3] := by
  unfold touchL
  rw [if_pos ⟨mK_yes (by omega) (by omega), mK_yes (by omega) (by omega)⟩]
  show mergeT [n1K 2, n2K 2] [n1K 3, n2K 3] = _
  rw [mergeT_diff (x := n1K 2) (y := n1K 3) [n2K 2] [n2K 3] rfl (fun h => by have := congrArg ANode.kids h; simp [n1K] at this), mergeT_lt (x := n2K 2) (y := n2K 3) [] [] (by show (2 : Int) < 3; omega), mergeT_right, mergeT_nil]
  rfl
theorem pushK1 : pushP ⟨[], mK 2, []⟩ (mK 3) = (0, ⟨[mK 2], mK 3, []⟩) := by
  unfold pushP
  rw [if_neg (by rw [mK_yes (by omega) (by omega)]; simp), if_neg mK_ne]
  rfl
theorem pushK2 : pushP ⟨[mK 2], mK 3, []⟩ (mK 3) = (0, ⟨[mK 2], mK 3, []⟩) := by
  unfold pushP
  rw [if_neg (by rw [mK_yes (by omega) (by omega)]; simp), if_pos rfl]
section
variable {w : World} {q : Nat} {F : Nat → Prop}
theorem two_nodes {x y : LN} (hb : Blk w q 79 (x.cells ++ y.cells).toArray) (hx : x.Reads w F) (hy : y.Reads w F) (hq : F q) : RowOf 7 ENode w F (some ⟨q, 0, none⟩) [x.n, y.n] := by
  refine ⟨fun _ => ⟨q, 0, rfl, hq⟩, fun i hi => ?_⟩
  rcases i with _ | i
  · refine ⟨x.cells, LN.cells_len _, ⟨x.p, x.k, x.r, rfl, hx.1, hx.2.1, hx.2.2⟩, fun b off e j hj => ?_⟩
    cases e
    rw [hb.cell]
    rcases j with _ | _ | _ | _ | _ | _ | _ | j <;> first | rfl | omega
  · have hi0 : i = 0 := by simp at hi; omega
    subst hi0
    refine ⟨y.cells, LN.cells_len _, ⟨y.p, y.k, y.r, rfl, hy.1, hy.2.1, hy.2.2⟩, fun b off e j hj => ?_⟩
    cases e
    rw [hb.cell]
    rcases j with _ | _ | _ | _ | _ | _ | _ | j <;> first | rfl | omega
theorem one_int {n : Int} (hb : Blk w q 3 #[.int .i64 n]) (hq : F q) : IsRow 1 EInt w F (.slice (some ⟨q, 0, none⟩) 1 1) [n] := by
  refine ⟨_, _, rfl, Nat.le_refl _, by unfold maxLen; omega, fun _ => ⟨q, 0, rfl, hq⟩, fun i hi => ?_⟩
  have hi0 : i = 0 := by simp at hi; omega
  subst hi0
  refine ⟨[.int .i64 n], rfl, rfl, fun b off e j hj => ?_⟩
  cases e
  have : j = 0 := by omega
  subst this
  rw [hb.cell]; rfl
theorem reads0 {n : ANode} (hp : n.props = []) (hk : n.kids = []) (hr : n.refs = []) : LN.Reads w F ⟨n, .slice none 0 0, .slice none 0 0, .slice none 0 0⟩ := by
  refine ⟨?_, ?_, ?_⟩
  · show IsRow 2 EProp w F _ n.props; rw [hp]; exact IsRow.nil
  · show IsRow 1 EInt w F _ n.kids; rw [hk]; exact IsRow.nil
  · show IsRow 2 ERef w F _ n.refs; rw [hr]; exact IsRow.nil
end
/-- one of the two, in memory -/
theorem mK_row {w : World} {p q : Nat} {F : Nat → Prop} (k : Int) (hp : Blk w p 3 #[.int .i64 k]) (hq : Blk w q 79 #[.int .i64 1, .string wA, .int .i64 0, .string wE, .slice none 0 0, .slice (some ⟨p, 0, none⟩) 1 1, .slice none 0 0, .int .i64 k, .string wA, .int .i64 1, .string wR, .slice none 0 0, .slice none 0 0, .slice none 0 0]) (hFp : F p) (hFq : F q) :
    RowOf 7 ENode w F (some ⟨q, 0, none⟩) (mK k).nodes :=
  two_nodes (x := ⟨n1K k, .slice none 0 0, .slice (some ⟨p, 0, none⟩) 1 1, .slice none 0 0⟩) (y := ⟨n2K k, .slice none 0 0, .slice none 0 0, .slice none 0 0⟩) hq ⟨IsRow.nil, one_int hp hFp, IsRow.nil⟩ (reads0 rfl rfl rfl) hFq
end Go.Proofs.Ytpjkifbicfcajaa
end
section
/- the two models -/
namespace Go.Proofs.Ytpjkifbicfcajaa
open Go Go.RowKit

set_option maxRecDepth 100000 in
set_option maxHeartbeats 8000000 in
theorem two_any (w : World) : Calls Try.prog 46 #[] w fun e w' => ∃ Aa Ab, e = .returned (.tuple #[.agg #[.int .i64 4, .slice Aa 2 2], .agg #[.int .i64 4, .slice Ab 2 2]]) ∧ Below w.heap.size w w' ∧
    RowOf 7 ENode w' (fun b => w.heap.size ≤ b ∧ b < w'.heap.size) Aa (mK 2).nodes ∧ RowOf 7 ENode w' (fun b => w.heap.size ≤ b ∧ b < w'.heap.size) Ab (mK 3).nodes := by
  obtain ⟨u, hu⟩ : ∃ u : World, ((((((((w.alloc (.cells #[.int .i64 0, .slice none 0 0] 27)).alloc (.cells #[.int .i64 0, .slice none 0 0] 27)).alloc (.cells #[.int .i64 2] 3)).alloc (.cells #[.int .i64 1, .string wA, .int .i64 0, .string wE, .slice none 0 0, .slice (some ⟨w.heap.size + 1 + 1, 0, none⟩) 1 1, .slice none 0 0, .int .i64 2, .string wA, .int .i64 1, .string wR, .slice none 0 0, .slice none 0 0, .slice none 0 0] 79)).alloc (.cells #[.int .i64 4, .slice (some ⟨w.heap.size + 1 + 1 + 1, 0, none⟩) 2 2] 27)).alloc (.cells #[.int .i64 3] 3)).alloc (.cells #[.int .i64 1, .string wA, .int .i64 0, .string wE, .slice none 0 0, .slice (some ⟨w.heap.size + 1 + 1 + 1 + 1 + 1, 0, none⟩) 1 1, .slice none 0 0, .int .i64 3, .string wA, .int .i64 1, .string wR, .slice none 0 0, .slice none 0 0, .slice none 0 0] 79)).alloc (.cells #[.int .i64 4, .slice (some ⟨w.heap.size + 1 + 1 + 1 + 1 + 1 + 1, 0, none⟩) 2 2] 27)) = u := ⟨_, rfl⟩
  have HB : Hid (Below w.heap.size w u) := Lib.hid (by rw [← hu]; exact (((((((((Below.refl w.heap.size w).alloc (Nat.le_refl _) (.cells #[.int .i64 0, .slice none 0 0] 27)).alloc (by simp) (.cells #[.int .i64 0, .slice none 0 0] 27)).alloc (by simp; omega) (.cells #[.int .i64 2] 3)).alloc (by simp; omega) (.cells #[.int .i64 1, .string wA, .int .i64 0, .string wE, .slice none 0 0, .slice (some ⟨w.heap.size + 1 + 1, 0, none⟩) 1 1, .slice none 0 0, .int .i64 2, .string wA, .int .i64 1, .string wR, .slice none 0 0, .slice none 0 0, .slice none 0 0] 79)).alloc (by simp; omega) (.cells #[.int .i64 4, .slice (some ⟨w.heap.size + 1 + 1 + 1, 0, none⟩) 2 2] 27)).alloc (by simp; omega) (.cells #[.int .i64 3] 3)).alloc (by simp; omega) (.cells #[.int .i64 1, .string wA, .int .i64 0, .string wE, .slice none 0 0, .slice (some ⟨w.heap.size + 1 + 1 + 1 + 1 + 1, 0, none⟩) 1 1, .slice none 0 0, .int .i64 3, .string wA, .int .i64 1, .string wR, .slice none 0 0, .slice none 0 0, .slice none 0 0] 79)).alloc (by simp; omega) (.cells #[.int .i64 4, .slice (some ⟨w.heap.size + 1 + 1 + 1 + 1 + 1 + 1, 0, none⟩) 2 2] 27)))
  have H0 : Hid (Blk u (w.heap.size) 27 #[.int .i64 0, .slice none 0 0]) := Lib.hid (by rw [← hu]; exact ((((((((Blk.new _ _ _).alloc _).alloc _).alloc _).alloc _).alloc _).alloc _).alloc _))
  have H1 : Hid (Blk u (w.heap.size + 1) 27 #[.int .i64 0, .slice none 0 0]) := Lib.hid (by rw [← hu]; exact (((((((Blk.new' (by simp)).alloc _).alloc _).alloc _).alloc _).alloc _).alloc _))
  have H2 : Hid (Blk u (w.heap.size + 1 + 1) 3 #[.int .i64 2]) := Lib.hid (by rw [← hu]; exact ((((((Blk.new' (by simp)).alloc _).alloc _).alloc _).alloc _).alloc _))
  have H3 : Hid (Blk u (w.heap.size + 1 + 1 + 1) 79 #[.int .i64 1, .string wA, .int .i64 0, .string wE, .slice none 0 0, .slice (some ⟨w.heap.size + 1 + 1, 0, none⟩) 1 1, .slice none 0 0, .int .i64 2, .string wA, .int .i64 1, .string wR, .slice none 0 0, .slice none 0 0, .slice none 0 0]) := Lib.hid (by rw [← hu]; exact (((((Blk.new' (by simp)).alloc _).alloc _).alloc _).alloc _))
  have H4 : Hid (Blk u (w.heap.size + 1 + 1 + 1 + 1) 27 #[.int .i64 4, .slice (some ⟨w.heap.size + 1 + 1 + 1, 0, none⟩) 2 2]) := Lib.hid (by rw [← hu]; exact ((((Blk.new' (by simp)).alloc _).alloc _).alloc _))
  have H5 : Hid (Blk u (w.heap.size + 1 + 1 + 1 + 1 + 1) 3 #[.int .i64 3]) := Lib.hid (by rw [← hu]; exact (((Blk.new' (by simp)).alloc _).alloc _))
  have H6 : Hid (Blk u (w.heap.size + 1 + 1 + 1 + 1 + 1 + 1) 79 #[.int .i64 1, .string wA, .int .i64 0, .string wE, .slice none 0 0, .slice (some ⟨w.heap.size + 1 + 1 + 1 + 1 + 1, 0, none⟩) 1 1, .slice none 0 0, .int .i64 3, .string wA, .int .i64 1, .string wR, .slice none 0 0, .slice none 0 0, .slice none 0 0]) := Lib.hid (by rw [← hu]; exact ((Blk.new' (by simp)).alloc _))
  have H7 : Hid (Blk u (w.heap.size + 1 + 1 + 1 + 1 + 1 + 1 + 1) 27 #[.int .i64 4, .slice (some ⟨w.heap.size + 1 + 1 + 1 + 1 + 1 + 1, 0, none⟩) 2 2]) := Lib.hid (by rw [← hu]; exact (Blk.new' (by simp)))
  have HSZ : Hid (u.heap.size = w.heap.size + 1 + 1 + 1 + 1 + 1 + 1 + 1 + 1) := Lib.hid (by rw [← hu]; simp)
  go_enter Try.func46, Try.ntmps46
  go_upto_region 3 with fail
  have hu2 := hu
  unfold wA wE wR at hu2
  rw [hu2]
  clear hu hu2
  obtain ⟨v, hv⟩ : ∃ v : World, u.drew = v := ⟨_, rfl⟩
  have hb : Below u.heap.size u v := by rw [← hv]; exact (Below.refl _ _).drew
  have HB2 := Lib.hid (HB.out.trans (hb.mono HB.out.size))
  have G0 := Lib.hid (H0.out.below hb H0.out.lt)
  have G1 := Lib.hid (H1.out.below hb H1.out.lt)
  have G2 := Lib.hid (H2.out.below hb H2.out.lt)
  have G3 := Lib.hid (H3.out.below hb H3.out.lt)
  have G4 := Lib.hid (H4.out.below hb H4.out.lt)
  have G5 := Lib.hid (H5.out.below hb H5.out.lt)
  have G6 := Lib.hid (H6.out.below hb H6.out.lt)
  have G7 := Lib.hid (H7.out.below hb H7.out.lt)
  have GSZ : Hid (v.heap.size = w.heap.size + 1 + 1 + 1 + 1 + 1 + 1 + 1 + 1) := Lib.hid (by rw [← hv]; exact HSZ.out)
  clear hb HB HSZ H0 H1 H2 H3 H4 H5 H6 H7
  have HSS : Hid (∀ w', Blk w' (w.heap.size + 1 + 1 + 1 + 1) 27 #[.int .i64 4, .slice (some ⟨w.heap.size + 1 + 1 + 1, 0, none⟩) 2 2] → Blk w' (w.heap.size + 1 + 1 + 1 + 1 + 1 + 1 + 1) 27 #[.int .i64 4, .slice (some ⟨w.heap.size + 1 + 1 + 1 + 1 + 1 + 1, 0, none⟩) 2 2] → (fun w' : World => w'.cell? ⟨w.heap.size + 1 + 1 + 1 + 1, 0, none⟩ = some (.int .i64 4) ∧ w'.cell? ⟨w.heap.size + 1 + 1 + 1 + 1, 1, none⟩ = some (.slice (some ⟨w.heap.size + 1 + 1 + 1, 0, none⟩) 2 2) ∧ w'.cell? ⟨w.heap.size + 1 + 1 + 1 + 1 + 1 + 1 + 1, 0, none⟩ = some (.int .i64 4) ∧ w'.cell? ⟨w.heap.size + 1 + 1 + 1 + 1 + 1 + 1 + 1, 1, none⟩ = some (.slice (some ⟨w.heap.size + 1 + 1 + 1 + 1 + 1 + 1, 0, none⟩) 2 2)) w') := Lib.hid (fun w' h1 h2 => by
    have m0 := h1.cell 0; have m1 := h1.cell 1; have n0 := h2.cell 0; have n1 := h2.cell 1
    simp at m0 m1 n0 n1
    exact ⟨m0, m1, n0, n1⟩)
  refine wp_region_Y (S := (fun w' : World => w'.cell? ⟨w.heap.size + 1 + 1 + 1 + 1, 0, none⟩ = some (.int .i64 4) ∧ w'.cell? ⟨w.heap.size + 1 + 1 + 1 + 1, 1, none⟩ = some (.slice (some ⟨w.heap.size + 1 + 1 + 1, 0, none⟩) 2 2) ∧ w'.cell? ⟨w.heap.size + 1 + 1 + 1 + 1 + 1 + 1 + 1, 0, none⟩ = some (.int .i64 4) ∧ w'.cell? ⟨w.heap.size + 1 + 1 + 1 + 1 + 1 + 1 + 1, 1, none⟩ = some (.slice (some ⟨w.heap.size + 1 + 1 + 1 + 1 + 1 + 1, 0, none⟩) 2 2))) 3 (by kernel_rfl) (by rw [hv]; exact HSS.out _ G4.out G7.out) (fun hHeld => ?_)
  rw [hv] at hHeld ⊢
  clear hv
  refine wpAnyY_take (i := 0) (v := ?_) rfl (by kernel_rfl) (by kernel_rfl) (by kernel_rfl) (by kernel_rfl) (fun _ _ _ h => h) (Or.inl ⟨by rfl, ?_⟩) (by assumption) ?_
  rotate_left 1
  · (intro w' hSw; obtain ⟨s0, s1, s2, s3⟩ := hSw; go_simp); try with_reducible rfl
  try simp only [Act.put, List.setIfInBounds_toArray, List.set_cons_zero, List.set_cons_succ, Nat.zero_add]
  refine wpAnyY_take (i := 1) (v := ?_) rfl (by kernel_rfl) (by kernel_rfl) (by kernel_rfl) (by kernel_rfl) (fun _ _ _ h => h) (Or.inl ⟨by rfl, ?_⟩) (by assumption) ?_
  rotate_left 1
  · (intro w' hSw; obtain ⟨s0, s1, s2, s3⟩ := hSw; go_simp); try with_reducible rfl
  try simp only [Act.put, List.setIfInBounds_toArray, List.set_cons_zero, List.set_cons_succ, Nat.zero_add]
  refine wpAnyY_one (i := 2) rfl (by kernel_rfl) (fun K hK => ?_)
  have c0 := G0.out.cell 0; have c1 := G0.out.cell 1; have f0 := G0.out.frozen 0; have f1 := G0.out.frozen 1
  simp at c0 c1
  go_simp
  clear c0 c1 f0 f1
  have K0 : Hid (Blk ((v.setCell ⟨w.heap.size, 0, none⟩ (.int .i64 4)).setCell ⟨w.heap.size, 1, none⟩ (.slice (some ⟨w.heap.size + 1 + 1 + 1, 0, none⟩) 2 2)) w.heap.size 27 #[.int .i64 4, .slice (some ⟨w.heap.size + 1 + 1 + 1, 0, none⟩) 2 2]) := Lib.hid (by simpa using (G0.out.set_ 0 (.int .i64 4)).set_ 1 (.slice (some ⟨w.heap.size + 1 + 1 + 1, 0, none⟩) 2 2))
  have K1 := Lib.hid ((G1.out.far (p := ⟨w.heap.size, 0, none⟩) (show w.heap.size + 1 ≠ w.heap.size by omega) (.int .i64 4)).far (p := ⟨w.heap.size, 1, none⟩) (show w.heap.size + 1 ≠ w.heap.size by omega) (.slice (some ⟨w.heap.size + 1 + 1 + 1, 0, none⟩) 2 2))
  have K2 := Lib.hid ((G2.out.far (p := ⟨w.heap.size, 0, none⟩) (show w.heap.size + 1 + 1 ≠ w.heap.size by omega) (.int .i64 4)).far (p := ⟨w.heap.size, 1, none⟩) (show w.heap.size + 1 + 1 ≠ w.heap.size by omega) (.slice (some ⟨w.heap.size + 1 + 1 + 1, 0, none⟩) 2 2))
  have K3 := Lib.hid ((G3.out.far (p := ⟨w.heap.size, 0, none⟩) (show w.heap.size + 1 + 1 + 1 ≠ w.heap.size by omega) (.int .i64 4)).far (p := ⟨w.heap.size, 1, none⟩) (show w.heap.size + 1 + 1 + 1 ≠ w.heap.size by omega) (.slice (some ⟨w.heap.size + 1 + 1 + 1, 0, none⟩) 2 2))
  have K4 := Lib.hid ((G4.out.far (p := ⟨w.heap.size, 0, none⟩) (show w.heap.size + 1 + 1 + 1 + 1 ≠ w.heap.size by omega) (.int .i64 4)).far (p := ⟨w.heap.size, 1, none⟩) (show w.heap.size + 1 + 1 + 1 + 1 ≠ w.heap.size by omega) (.slice (some ⟨w.heap.size + 1 + 1 + 1, 0, none⟩) 2 2))
  have K5 := Lib.hid ((G5.out.far (p := ⟨w.heap.size, 0, none⟩) (show w.heap.size + 1 + 1 + 1 + 1 + 1 ≠ w.heap.size by omega) (.int .i64 4)).far (p := ⟨w.heap.size, 1, none⟩) (show w.heap.size + 1 + 1 + 1 + 1 + 1 ≠ w.heap.size by omega) (.slice (some ⟨w.heap.size + 1 + 1 + 1, 0, none⟩) 2 2))
  have K6 := Lib.hid ((G6.out.far (p := ⟨w.heap.size, 0, none⟩) (show w.heap.size + 1 + 1 + 1 + 1 + 1 + 1 ≠ w.heap.size by omega) (.int .i64 4)).far (p := ⟨w.heap.size, 1, none⟩) (show w.heap.size + 1 + 1 + 1 + 1 + 1 + 1 ≠ w.heap.size by omega) (.slice (some ⟨w.heap.size + 1 + 1 + 1, 0, none⟩) 2 2))
  have K7 := Lib.hid ((G7.out.far (p := ⟨w.heap.size, 0, none⟩) (show w.heap.size + 1 + 1 + 1 + 1 + 1 + 1 + 1 ≠ w.heap.size by omega) (.int .i64 4)).far (p := ⟨w.heap.size, 1, none⟩) (show w.heap.size + 1 + 1 + 1 + 1 + 1 + 1 + 1 ≠ w.heap.size by omega) (.slice (some ⟨w.heap.size + 1 + 1 + 1, 0, none⟩) 2 2))
  have HB3 := Lib.hid ((HB2.out.setCell (p := ⟨w.heap.size, 0, none⟩) (Nat.le_refl _) (.int .i64 4)).setCell (p := ⟨w.heap.size, 1, none⟩) (Nat.le_refl _) (.slice (some ⟨w.heap.size + 1 + 1 + 1, 0, none⟩) 2 2))
  have KSZ : Hid (((v.setCell ⟨w.heap.size, 0, none⟩ (.int .i64 4)).setCell ⟨w.heap.size, 1, none⟩ (.slice (some ⟨w.heap.size + 1 + 1 + 1, 0, none⟩) 2 2)).heap.size = w.heap.size + 1 + 1 + 1 + 1 + 1 + 1 + 1 + 1) := Lib.hid (by simp; exact GSZ.out)
  obtain ⟨v2, hv2⟩ : ∃ v2 : World, (v.setCell ⟨w.heap.size, 0, none⟩ (.int .i64 4)).setCell ⟨w.heap.size, 1, none⟩ (.slice (some ⟨w.heap.size + 1 + 1 + 1, 0, none⟩) 2 2) = v2 := ⟨_, rfl⟩
  rw [hv2] at K0 K1 K2 K3 K4 K5 K6 K7 HB3 KSZ
  rw [hv2]
  clear hv2 G0 G1 G2 G3 G4 G5 G6 G7 GSZ HB2
  refine hK.out _ _ (fun _ => HSS.out _ K4.out K7.out) ?_
  have hHeld2 := HSS.out _ K4.out K7.out
  clear hK K
  try simp only [Act.put, List.setIfInBounds_toArray, List.set_cons_zero, List.set_cons_succ, Nat.zero_add]
  refine wpAnyY_one0 (i := 3) rfl (by kernel_rfl) (by kernel_rfl) (fun K hK => ?_)
  have c0 := K1.out.cell 0; have c1 := K1.out.cell 1; have f0 := K1.out.frozen 0; have f1 := K1.out.frozen 1
  simp at c0 c1
  go_simp
  clear c0 c1 f0 f1
  refine hK.out _ _ ?_
  clear hK K
  try simp only [Act.put, List.setIfInBounds_toArray, List.set_cons_zero, List.set_cons_succ, Nat.zero_add]
  refine wpAnyY_done (by kernel_rfl) ?_ _
  have L1 : Hid (Blk ((v2.setCell ⟨w.heap.size + 1, 0, none⟩ (.int .i64 4)).setCell ⟨w.heap.size + 1, 1, none⟩ (.slice (some ⟨w.heap.size + 1 + 1 + 1 + 1 + 1 + 1, 0, none⟩) 2 2)) (w.heap.size + 1) 27 #[.int .i64 4, .slice (some ⟨w.heap.size + 1 + 1 + 1 + 1 + 1 + 1, 0, none⟩) 2 2]) := Lib.hid (by simpa using (K1.out.set_ 0 (.int .i64 4)).set_ 1 (.slice (some ⟨w.heap.size + 1 + 1 + 1 + 1 + 1 + 1, 0, none⟩) 2 2))
  have L0 := Lib.hid ((K0.out.far (p := ⟨w.heap.size + 1, 0, none⟩) (show w.heap.size ≠ w.heap.size + 1 by omega) (.int .i64 4)).far (p := ⟨w.heap.size + 1, 1, none⟩) (show w.heap.size ≠ w.heap.size + 1 by omega) (.slice (some ⟨w.heap.size + 1 + 1 + 1 + 1 + 1 + 1, 0, none⟩) 2 2))
  have L2 := Lib.hid ((K2.out.far (p := ⟨w.heap.size + 1, 0, none⟩) (show w.heap.size + 1 + 1 ≠ w.heap.size + 1 by omega) (.int .i64 4)).far (p := ⟨w.heap.size + 1, 1, none⟩) (show w.heap.size + 1 + 1 ≠ w.heap.size + 1 by omega) (.slice (some ⟨w.heap.size + 1 + 1 + 1 + 1 + 1 + 1, 0, none⟩) 2 2))
  have L3 := Lib.hid ((K3.out.far (p := ⟨w.heap.size + 1, 0, none⟩) (show w.heap.size + 1 + 1 + 1 ≠ w.heap.size + 1 by omega) (.int .i64 4)).far (p := ⟨w.heap.size + 1, 1, none⟩) (show w.heap.size + 1 + 1 + 1 ≠ w.heap.size + 1 by omega) (.slice (some ⟨w.heap.size + 1 + 1 + 1 + 1 + 1 + 1, 0, none⟩) 2 2))
  have L4 := Lib.hid ((K4.out.far (p := ⟨w.heap.size + 1, 0, none⟩) (show w.heap.size + 1 + 1 + 1 + 1 ≠ w.heap.size + 1 by omega) (.int .i64 4)).far (p := ⟨w.heap.size + 1, 1, none⟩) (show w.heap.size + 1 + 1 + 1 + 1 ≠ w.heap.size + 1 by omega) (.slice (some ⟨w.heap.size + 1 + 1 + 1 + 1 + 1 + 1, 0, none⟩) 2 2))
  have L5 := Lib.hid ((K5.out.far (p := ⟨w.heap.size + 1, 0, none⟩) (show w.heap.size + 1 + 1 + 1 + 1 + 1 ≠ w.heap.size + 1 by omega) (.int .i64 4)).far (p := ⟨w.heap.size + 1, 1, none⟩) (show w.heap.size + 1 + 1 + 1 + 1 + 1 ≠ w.heap.size + 1 by omega) (.slice (some ⟨w.heap.size + 1 + 1 + 1 + 1 + 1 + 1, 0, none⟩) 2 2))
  have L6 := Lib.hid ((K6.out.far (p := ⟨w.heap.size + 1, 0, none⟩) (show w.heap.size + 1 + 1 + 1 + 1 + 1 + 1 ≠ w.heap.size + 1 by omega) (.int .i64 4)).far (p := ⟨w.heap.size + 1, 1, none⟩) (show w.heap.size + 1 + 1 + 1 + 1 + 1 + 1 ≠ w.heap.size + 1 by omega) (.slice (some ⟨w.heap.size + 1 + 1 + 1 + 1 + 1 + 1, 0, none⟩) 2 2))
  have L7 := Lib.hid ((K7.out.far (p := ⟨w.heap.size + 1, 0, none⟩) (show w.heap.size + 1 + 1 + 1 + 1 + 1 + 1 + 1 ≠ w.heap.size + 1 by omega) (.int .i64 4)).far (p := ⟨w.heap.size + 1, 1, none⟩) (show w.heap.size + 1 + 1 + 1 + 1 + 1 + 1 + 1 ≠ w.heap.size + 1 by omega) (.slice (some ⟨w.heap.size + 1 + 1 + 1 + 1 + 1 + 1, 0, none⟩) 2 2))
  have HB4 := Lib.hid ((HB3.out.setCell (p := ⟨w.heap.size + 1, 0, none⟩) (Nat.le_succ _) (.int .i64 4)).setCell (p := ⟨w.heap.size + 1, 1, none⟩) (Nat.le_succ _) (.slice (some ⟨w.heap.size + 1 + 1 + 1 + 1 + 1 + 1, 0, none⟩) 2 2))
  have LSZ : Hid (((v2.setCell ⟨w.heap.size + 1, 0, none⟩ (.int .i64 4)).setCell ⟨w.heap.size + 1, 1, none⟩ (.slice (some ⟨w.heap.size + 1 + 1 + 1 + 1 + 1 + 1, 0, none⟩) 2 2)).heap.size = w.heap.size + 1 + 1 + 1 + 1 + 1 + 1 + 1 + 1) := Lib.hid (by simp; exact KSZ.out)
  obtain ⟨v3, hv3⟩ : ∃ v3 : World, (v2.setCell ⟨w.heap.size + 1, 0, none⟩ (.int .i64 4)).setCell ⟨w.heap.size + 1, 1, none⟩ (.slice (some ⟨w.heap.size + 1 + 1 + 1 + 1 + 1 + 1, 0, none⟩) 2 2) = v3 := ⟨_, rfl⟩
  rw [hv3] at L0 L1 L2 L3 L4 L5 L6 L7 HB4 LSZ
  rw [hv3]
  clear hv3 K0 K1 K2 K3 K4 K5 K6 K7 KSZ HB3 hHeld hHeld2
  have m0 := L0.out.cell 0; have m1 := L0.out.cell 1; have n0 := L1.out.cell 0; have n1 := L1.out.cell 1
  simp at m0 m1 n0 n1
  go_wp2
  refine bodyPost_ret (v := .tuple #[.agg #[.int .i64 4, .slice (some ⟨w.heap.size + 1 + 1 + 1, 0, none⟩) 2 2], .agg #[.int .i64 4, .slice (some ⟨w.heap.size + 1 + 1 + 1 + 1 + 1 + 1, 0, none⟩) 2 2]]) (by simp [results, Try.results46, go_sem, m0, m1, n0, n1]) rfl ⟨_, _, rfl, HB4.out, ?_, ?_⟩
  · exact mK_row 2 L2.out L3.out ⟨by omega, by rw [LSZ.out]; omega⟩ ⟨by omega, by rw [LSZ.out]; omega⟩
  · exact mK_row 3 L5.out L6.out ⟨by omega, by rw [LSZ.out]; omega⟩ ⟨by omega, by rw [LSZ.out]; omega⟩
end Go.Proofs.Ytpjkifbicfcajaa
end
section
/- a past alone: what is done with it, its blocks all but its box -/
namespace Go.Proofs.Ytpjkifbicfcajaa
open Go Go.RowKit

/-- all there is but a past's box -/
def FP (w : World) (p b : Nat) : Prop := b < w.heap.size ∧ b ≠ p
/-- a past -/
def Pst (w : World) (p : Nat) (P : APast) : Prop := IsPast w (FP w p) p P
/-- a model's nodes, none in a past's box -/
def Mdl (w : World) (p : Nat) (A : Option Addr) (m : AModel) : Prop := RowOf 7 ENode w (FP w p) A m.nodes
section
variable {w w' : World} {p : Nat} {P : APast} {A : Option Addr} {m : AModel} {F : Nat → Prop}
theorem keepO_below {O : Nat → Prop} (hb : Below w.heap.size w w') : KeepO O w w' := (KeepO.refl O w).below hb
theorem IsPast.fp (h : IsPast w F p P) (hF : ∀ b, F b → b < w.heap.size ∧ b ≠ p) : Pst w p P := h.keep (Keep.refl _ _) hF rfl
theorem Pst.up (h : Pst w p P) (hb : Below w.heap.size w w') : Pst w' p P := (IsPast.below h hb (fun _ h => h.1)).fp (fun _ h => ⟨Nat.lt_of_lt_of_le h.1 hb.size, h.2⟩)
theorem Pst.lt (h : Pst w p P) : p < w.heap.size := IsPast.lt h
theorem Mdl.step (h : Mdl w p A m) (hk : KeepO (· = p) w w') : Mdl w' p A m := RowOf.keep ENode.stays (hk.keep (fun _ h => h)) (fun _ h => ⟨Nat.lt_of_lt_of_le h.1 hk.size, h.2⟩) h
theorem RowOf.mdl (h : RowOf 7 ENode w F A m.nodes) (hF : ∀ b, F b → b < w.heap.size ∧ b ≠ p) : Mdl w p A m := RowOf.keep ENode.stays (Keep.refl _ _) hF h
theorem own_mdl {base : Nat} {v : Value} {l : List LN} (h : OwnM w base v l) (hm : l.map LN.n = m.nodes) (hp : p < base) : ∃ A c, v = .slice A m.nodes.length c ∧ Mdl w p A m := by
  have h1 := h.isRow (F := FP w p) (fun b h1 h2 => ⟨h2, by omega⟩)
  rw [hm] at h1
  obtain ⟨A, c, e, _, _, h2⟩ := h1
  exact ⟨A, c, e, h2⟩
/-- what undo and redo leave -/
def TPst (w w' : World) (p : Nat) (E : Int × APast) (e : Ending) : Prop :=
  ∃ mv, e = .returned (.tuple #[mv, .int .i64 E.1]) ∧ KeepO (· = p) w w' ∧ Pst w' p E.2 ∧ (E.1 ≠ 0 → mv = .agg #[.int .i64 0, .slice none 0 0]) ∧
    (E.1 = 0 → ∃ A c, mv = .agg #[.int .i64 E.2.here.next, .slice A E.2.here.nodes.length c] ∧ Mdl w' p A E.2.here)
theorem ToPost.tpst {E : Int × APast} {e : Ending} (hw : p < w.heap.size) (h : ToPost w w' (FP w p) p E e) : TPst w w' p E e := by
  obtain ⟨mv, he, hk, hp, h1, h2⟩ := h
  refine ⟨mv, he, hk, hp.fp (fun _ h => ⟨Nat.lt_of_lt_of_le h.1 hk.size, h.2⟩), h1, fun h0 => ?_⟩
  obtain ⟨v, l, e1, ho, hm⟩ := h2 h0
  obtain ⟨A, c, rfl, h3⟩ := own_mdl ho hm hw
  exact ⟨A, c, e1, h3⟩
theorem undo_fp (h : Pst w p P) (hfit : P.Fits) (hz : ∀ m ∈ P.list, ModAll m) : Calls Try.prog 18 #[.pointer (some ⟨p, 0, none⟩)] w fun e w' => TPst w w' p (undoP P) e :=
  (undo_any p P w (FP w p) (fun _ h => h.1) (fun h => h.2 rfl) h hfit hz).mono fun _ _ h2 => h2.tpst h.lt
theorem redo_fp (h : Pst w p P) (hfit : P.Fits) (hz : ∀ m ∈ P.list, ModAll m) : Calls Try.prog 21 #[.pointer (some ⟨p, 0, none⟩)] w fun e w' => TPst w w' p (redoP P) e :=
  (redo_any p P w (FP w p) (fun _ h => h.1) (fun h => h.2 rfl) h hfit hz).mono fun _ _ h2 => h2.tpst h.lt
theorem push_fp {F2 : Nat → Prop} (c : Nat) (h : Pst w p P) (hfit : P.Fits) (hF2 : ∀ b, F2 b → b < w.heap.size) (hm : RowOf 7 ENode w F2 A m.nodes) (hzm : ModAll m) :
    Calls Try.prog 16 #[.pointer (some ⟨p, 0, none⟩), .agg #[.int .i64 m.next, .slice A m.nodes.length c]] w fun e w' => e = .returned (.int .i64 (pushP P m).1) ∧ KeepO (· = p) w w' ∧ Pst w' p (pushP P m).2 :=
  (push_any p P A c m w (FP w p) F2 (fun _ h => h.1) hF2 (fun h => h.2 rfl) h hfit hm hzm).mono fun _ _ ⟨h1, h2, h3⟩ => ⟨h1, h2, h3.fp (fun b hb => by
    have := h2.size; have := h.lt
    rcases hb with hb | hb
    · exact ⟨Nat.lt_of_lt_of_le hb.1 h2.size, hb.2⟩
    · exact ⟨hb.2, by omega⟩)⟩
theorem new_fp (c : Nat) (hF : ∀ b, F b → b < w.heap.size) (h : RowOf 7 ENode w F A m.nodes) (hz : ModAll m) :
    Calls Try.prog 12 #[.agg #[.int .i64 m.next, .slice A m.nodes.length c]] w fun e w' => ∃ pv, e = .returned (.tuple #[pv, .int .i64 (checkI m)]) ∧ Below w.heap.size w w' ∧ (checkI m ≠ 0 → pv = .pointer none) ∧
      (checkI m = 0 → ∃ p, pv = .pointer (some ⟨p, 0, none⟩) ∧ w.heap.size ≤ p ∧ Pst w' p ⟨[], m, []⟩) :=
  (new_any A c m w F hF h hz).mono fun _ _ ⟨pv, h1, h2, h3, h4⟩ => ⟨pv, h1, h2, h3, fun h0 => by
    obtain ⟨p, e, hp, h5⟩ := h4 h0
    exact ⟨p, e, hp, h5.fp (fun b hb => ⟨by have := h5.lt; omega, by omega⟩)⟩⟩
theorem depth_fp (h : Pst w p P) (hfit : P.Fits) : Calls Try.prog 33 #[.pointer (some ⟨p, 0, none⟩)] w fun e w' => e = .returned (.tuple #[.int .i64 P.ahead.length, .int .i64 P.behind.length]) ∧ Below w.heap.size w w' := by
  obtain ⟨A, c, hb, _, _, _⟩ := h
  have hl := P.list_len
  have := depth_any p P.list.length c P.ahead.length A w hb (by omega) hfit
  rw [show P.list.length - 1 - P.ahead.length = P.behind.length by omega] at this
  exact this
theorem now_fp (h : Pst w p P) (hz : ModAll P.here) : Calls Try.prog 32 #[.pointer (some ⟨p, 0, none⟩)] w fun e w' => ∃ A c, e = .returned (.agg #[.int .i64 P.here.next, .slice A P.here.nodes.length c]) ∧ Mdl w' p A P.here ∧ Below w.heap.size w w' :=
  (now_any p P w (FP w p) (fun _ h => h.1) h hz).mono fun _ _ ⟨v, h1, l, ho, hm, hb⟩ => by
    obtain ⟨A, c, rfl, h3⟩ := own_mdl ho hm h.lt
    exact ⟨A, c, h1, h3, hb⟩
theorem TPst.ok {e : Ending} {a b : List AModel} (h : TPst w w' p (0, ⟨a, m, b⟩) e) : ∃ A c, e = .returned (.tuple #[.agg #[.int .i64 m.next, .slice A m.nodes.length c], .int .i64 0]) ∧ KeepO (· = p) w w' ∧ Pst w' p ⟨a, m, b⟩ ∧ Mdl w' p A m := by
  obtain ⟨mv, he, hk, hp, _, h2⟩ := h
  obtain ⟨A, c, rfl, h3⟩ := h2 rfl
  exact ⟨A, c, he, hk, hp, h3⟩
theorem TPst.no {e : Ending} {n : Int} (hn : n ≠ 0) (h : TPst w w' p (n, P) e) : e = .returned (.tuple #[.agg #[.int .i64 0, .slice none 0 0], .int .i64 n]) ∧ KeepO (· = p) w w' ∧ Pst w' p P := by
  obtain ⟨mv, he, hk, hp, h1, _⟩ := h
  obtain rfl := h1 hn
  exact ⟨he, hk, hp⟩
theorem undo_ok {a b : List AModel} (h : Pst w p P) (hfit : P.Fits) (hz : ∀ m ∈ P.list, ModAll m) (hE : undoP P = (0, ⟨a, m, b⟩)) : Calls Try.prog 18 #[.pointer (some ⟨p, 0, none⟩)] w fun e w' => ∃ A c, e = .returned (.tuple #[.agg #[.int .i64 m.next, .slice A m.nodes.length c], .int .i64 0]) ∧ KeepO (· = p) w w' ∧ Pst w' p ⟨a, m, b⟩ ∧ Mdl w' p A m :=
  (undo_fp h hfit hz).mono fun _ _ h2 => by rw [hE] at h2; exact h2.ok
theorem redo_ok {a b : List AModel} (h : Pst w p P) (hfit : P.Fits) (hz : ∀ m ∈ P.list, ModAll m) (hE : redoP P = (0, ⟨a, m, b⟩)) : Calls Try.prog 21 #[.pointer (some ⟨p, 0, none⟩)] w fun e w' => ∃ A c, e = .returned (.tuple #[.agg #[.int .i64 m.next, .slice A m.nodes.length c], .int .i64 0]) ∧ KeepO (· = p) w w' ∧ Pst w' p ⟨a, m, b⟩ ∧ Mdl w' p A m :=
  (redo_fp h hfit hz).mono fun _ _ h2 => by rw [hE] at h2; exact h2.ok
theorem undo_no (h : Pst w p P) (hfit : P.Fits) (hz : ∀ m ∈ P.list, ModAll m) (hE : undoP P = (270, P)) : Calls Try.prog 18 #[.pointer (some ⟨p, 0, none⟩)] w fun e w' => e = .returned (.tuple #[.agg #[.int .i64 0, .slice none 0 0], .int .i64 270]) ∧ KeepO (· = p) w w' ∧ Pst w' p P :=
  (undo_fp h hfit hz).mono fun _ _ h2 => by rw [hE] at h2; exact h2.no (by decide)
theorem redo_no (h : Pst w p P) (hfit : P.Fits) (hz : ∀ m ∈ P.list, ModAll m) (hE : redoP P = (270, P)) : Calls Try.prog 21 #[.pointer (some ⟨p, 0, none⟩)] w fun e w' => e = .returned (.tuple #[.agg #[.int .i64 0, .slice none 0 0], .int .i64 270]) ∧ KeepO (· = p) w w' ∧ Pst w' p P :=
  (redo_fp h hfit hz).mono fun _ _ h2 => by rw [hE] at h2; exact h2.no (by decide)
/-- two models are the same -/
theorem same_fp {F2 : Nat → Prop} {A' : Option Addr} {m' : AModel} (c c' : Nat) (h : Mdl w p A m) (hF2 : ∀ b, F2 b → b < w.heap.size) (h' : RowOf 7 ENode w F2 A' m'.nodes) (hl : m.nodes.length ≤ 9223372036854775807) :
    Calls Try.prog 31 #[.agg #[.int .i64 m.next, .slice A m.nodes.length c], .agg #[.int .i64 m'.next, .slice A' m'.nodes.length c']] w fun e w' => e = .returned (.bool (eqB m m')) ∧ Below w.heap.size w w' :=
  asame_any A A' c c' m m' w (FP w p) F2 (fun _ h => h.1) hF2 h h' hl
end
end Go.Proofs.Ytpjkifbicfcajaa
end
section
/- back, and on again -/
namespace Go.Proofs.Ytpjkifbicfcajaa
open Go Go.RowKit

def m00 : AModel := ⟨0, []⟩
theorem m00_all : ModAll m00 := ⟨fun y hy => (by cases hy), ⟨by show (-9223372036854775808 : Int) ≤ 0; omega, by show (0 : Int) ≤ _; omega⟩, Nat.zero_le _⟩
theorem m00_no : checkI m00 = 29 := m0_no
theorem all2 : ∀ m ∈ [mK 2, mK 3], ModAll m := fun m hm => by
  rcases List.mem_cons.1 hm with rfl | hm
  · exact mK_all (by omega) (by omega)
  · rcases List.mem_cons.1 hm with rfl | hm
    · exact mK_all (by omega) (by omega)
    · cases hm
set_option maxRecDepth 100000 in
set_option maxHeartbeats 8000000 in
theorem awake_any (w : World) : Calls Try.prog 29 #[] w fun e w' => e = .returned (.bool true) ∧ Below w.heap.size w w' := by
  go_enter Try.func29, Try.ntmps29
  go_wp2_with fail
  refine (two_any w).mono ?_
  rintro _ w2 ⟨Aa, Ab, rfl, hb2, ra, rb⟩
  have HBW := Lib.hid hb2
  have HRA : Hid (∀ V, Below w2.heap.size w2 V → RowOf 7 ENode V (fun b => b < w2.heap.size) Aa (mK 2).nodes) := Lib.hid (fun V hb => ra.keep ENode.stays (Keep.below hb (fun b h => h.2)) (fun b h => h.2))
  have HRB : Hid (∀ V, Below w2.heap.size w2 V → RowOf 7 ENode V (fun b => b < w2.heap.size) Ab (mK 3).nodes) := Lib.hid (fun V hb => rb.keep ENode.stays (Keep.below hb (fun b h => h.2)) (fun b h => h.2))
  clear ra rb hb2
  obtain ⟨pa, hpa⟩ : ∃ x, w2.heap.size = x := ⟨_, rfl⟩
  have HWE : Hid (∃ z, (w2.alloc (.cells #[.int .i64 4, .slice Aa 2 2] 27)).alloc (.cells #[.int .i64 4, .slice Ab 2 2] 27) = z) := Lib.hid ⟨_, rfl⟩
  go_upto_region 2 with fail
  obtain ⟨w3, hw3⟩ := HWE.out
  have HX3 : Hid (Blk w3 pa 27 #[.int .i64 4, .slice Aa 2 2]) := Lib.hid (by rw [← hw3, ← hpa]; exact (Blk.new _ _ _).alloc _)
  have HY3 : Hid (Blk w3 (pa + 1) 27 #[.int .i64 4, .slice Ab 2 2]) := Lib.hid (by rw [← hw3, ← hpa]; exact Blk.new' (by simp))
  have HC3 : Hid (Below w2.heap.size w2 w3) := Lib.hid (by rw [← hw3]; exact ((Below.refl _ _).alloc (Nat.le_refl _) _).alloc (by simp) _)
  have HPA : Hid (w2.heap.size = pa) := Lib.hid hpa
  (try rw [hpa])
  (try rw [hw3])
  clear HWE hw3 hpa
  have x0 := HX3.out.cell 0; have x1 := HX3.out.cell 1
  have hxlt := HX3.out.lt
  simp at x0 x1
  go_wp2_with fail
  clear x0 x1 hxlt
  refine (new_fp (m := mK 2) 2 (F := fun b => b < w2.heap.size) (fun b h => Nat.lt_of_lt_of_le h HC3.out.size) (HRA.out _ HC3.out) (mK_all (k := 2) (by omega) (by omega))).mono ?_
  rintro _ w4 ⟨pv, rfl, hb4, hno, hyes⟩
  obtain ⟨p, rfl, hpl, hP⟩ := hyes (mK_yes (k := 2) (by omega) (by omega))
  clear hno hyes
  rw [(mK_yes (k := 2) (by omega) (by omega))]
  have HC4 := Lib.hid (HC3.out.trans (hb4.mono HC3.out.size))
  have HX4 := Lib.hid (HX3.out.below hb4 HX3.out.lt); have HY4 := Lib.hid (HY3.out.below hb4 HY3.out.lt)
  have HP4 := Lib.hid hP
  have HPL : Hid (w2.heap.size ≤ p ∧ pa ≠ p ∧ pa + 1 ≠ p) := Lib.hid (by have := HX3.out.lt; have := HY3.out.lt; have := HC3.out.size; omega)
  clear hP hpl hb4 HC3 HX3 HY3
  have y0 := HY4.out.cell 0; have y1 := HY4.out.cell 1
  have hylt := HY4.out.lt
  simp at y0 y1
  go_wp2_with fail
  clear y0 y1 hylt
  have hpu := push_fp (m := mK 3) (P := ⟨[], mK 2, []⟩) (F2 := fun b => b < w2.heap.size) 2 HP4.out (by unfold APast.Fits APast.list; simp) (fun b h => Nat.lt_of_lt_of_le h HC4.out.size) (HRB.out _ HC4.out) (mK_all (k := 3) (by omega) (by omega))
  rw [pushK1] at hpu
  refine hpu.mono ?_
  rintro _ w5 ⟨rfl, hk, hp⟩
  clear hpu
  have HP5 := Lib.hid hp
  have HC5 := Lib.hid (HC4.out.trans (hk.toBelow HC4.out.size (fun b e => by subst e; exact HPL.out.1)))
  have HX5 := Lib.hid (hk.blk HX4.out (by have := HPL.out; omega))
  have HY5 := Lib.hid (hk.blk HY4.out (by have := HPL.out; omega))
  clear hk hp HP4
  clear HC4 HX4 HY4
  have y0 := HY5.out.cell 0; have y1 := HY5.out.cell 1
  have hylt := HY5.out.lt
  simp at y0 y1
  go_wp2_with fail
  clear y0 y1 hylt
  have hpu := push_fp (m := mK 3) (P := ⟨[mK 2], mK 3, []⟩) (F2 := fun b => b < w2.heap.size) 2 HP5.out (by unfold APast.Fits APast.list; simp) (fun b h => Nat.lt_of_lt_of_le h HC5.out.size) (HRB.out _ HC5.out) (mK_all (k := 3) (by omega) (by omega))
  rw [pushK2] at hpu
  refine hpu.mono ?_
  rintro _ w6 ⟨rfl, hk, hp⟩
  clear hpu
  have HP6 := Lib.hid hp
  have HC6 := Lib.hid (HC5.out.trans (hk.toBelow HC5.out.size (fun b e => by subst e; exact HPL.out.1)))
  have HX6 := Lib.hid (hk.blk HX5.out (by have := HPL.out; omega))
  have HY6 := Lib.hid (hk.blk HY5.out (by have := HPL.out; omega))
  clear hk hp HP5
  clear HC5 HX5 HY5
  go_wp2_with fail
  have hun := undo_ok (P := ⟨[mK 2], mK 3, []⟩) (m := mK 2) HP6.out (by unfold APast.Fits APast.list; simp) all2 rfl
  refine hun.mono ?_
  rintro _ w7 ⟨Am, cm, rfl, hk, hp, hm⟩
  have Hm7 := Lib.hid hm
  clear hun
  have HP7 : Hid (Pst w7 p ⟨[], mK 2, [mK 3]⟩) := Lib.hid hp
  have HC7 := Lib.hid (HC6.out.trans (hk.toBelow HC6.out.size (fun b e => by subst e; exact HPL.out.1)))
  have HX7 := Lib.hid (hk.blk HX6.out (by have := HPL.out; omega))
  have HY7 := Lib.hid (hk.blk HY6.out (by have := HPL.out; omega))
  clear hk hp hm HP6
  clear HC6 HX6 HY6
  obtain ⟨pM, hpM⟩ : ∃ x, w7.heap.size = x := ⟨_, rfl⟩
  have HWE : Hid (∃ z, w7.alloc (.cells #[.int .i64 (mK 2).next, .slice Am (mK 2).nodes.length cm] 27) = z) := Lib.hid ⟨_, rfl⟩
  go_upto_region 8 with fail
  obtain ⟨w8, hw8⟩ := HWE.out
  have HM8 : Hid (Blk w8 pM 27 #[.int .i64 (mK 2).next, .slice Am (mK 2).nodes.length cm]) := Lib.hid (by rw [← hw8]; exact Blk.new' hpM.symm)
  have hb : Below w7.heap.size w7 w8 := by rw [← hw8]; exact (Below.refl _ _).alloc (Nat.le_refl _) _
  have HNM : Hid (pM ≠ p) := Lib.hid (by have := HP7.out.lt; omega)
  (try rw [hpM])
  (try rw [hw8])
  clear HWE hw8 hpM
  have hk : KeepO (· = p) w7 w8 := keepO_below hb
  have HP8 := Lib.hid (HP7.out.up hb)
  have HC8 := Lib.hid (HC7.out.trans (hk.toBelow HC7.out.size (fun b e => by subst e; exact HPL.out.1)))
  have HX8 := Lib.hid (hk.blk HX7.out (by have := HPL.out; omega))
  have HY8 := Lib.hid (hk.blk HY7.out (by have := HPL.out; omega))
  have Hm8 := Lib.hid (Hm7.out.step hk)
  clear hk hb HP7
  clear HC7 HX7 HY7 Hm7
  go_wp2_with fail
  have hun := undo_no (P := ⟨[], mK 2, [mK 3]⟩) HP8.out (by unfold APast.Fits APast.list; simp) all2 rfl
  refine hun.mono ?_
  rintro _ w9 ⟨rfl, hk, hp⟩
  clear hun
  have HP9 : Hid (Pst w9 p ⟨[], mK 2, [mK 3]⟩) := Lib.hid hp
  have HC9 := Lib.hid (HC8.out.trans (hk.toBelow HC8.out.size (fun b e => by subst e; exact HPL.out.1)))
  have HX9 := Lib.hid (hk.blk HX8.out (by have := HPL.out; omega))
  have HY9 := Lib.hid (hk.blk HY8.out (by have := HPL.out; omega))
  have HM9 := Lib.hid (hk.blk HM8.out (by have := HPL.out; have := HNM.out; omega))
  have Hm9 := Lib.hid (Hm8.out.step hk)
  clear hk hp  HP8
  clear HC8 HX8 HY8 HM8 Hm8
  obtain ⟨pZ, hpZ⟩ : ∃ x, w9.heap.size = x := ⟨_, rfl⟩
  have HWE : Hid (∃ z, w9.alloc (.cells #[.int .i64 0, .slice none 0 0] 27) = z) := Lib.hid ⟨_, rfl⟩
  go_upto_region 9 with fail
  obtain ⟨w10, hw10⟩ := HWE.out
  have HZ10 : Hid (Blk w10 pZ 27 #[.int .i64 0, .slice none 0 0]) := Lib.hid (by rw [← hw10]; exact Blk.new' hpZ.symm)
  have hb : Below w9.heap.size w9 w10 := by rw [← hw10]; exact (Below.refl _ _).alloc (Nat.le_refl _) _
  have HNZ : Hid (pZ ≠ p) := Lib.hid (by have := HP9.out.lt; omega)
  (try rw [hpZ])
  (try rw [hw10])
  clear HWE hw10 hpZ
  have hk : KeepO (· = p) w9 w10 := keepO_below hb
  have HP10 := Lib.hid (HP9.out.up hb)
  have HC10 := Lib.hid (HC9.out.trans (hk.toBelow HC9.out.size (fun b e => by subst e; exact HPL.out.1)))
  have HX10 := Lib.hid (hk.blk HX9.out (by have := HPL.out; omega))
  have HY10 := Lib.hid (hk.blk HY9.out (by have := HPL.out; omega))
  have HM10 := Lib.hid (hk.blk HM9.out (by have := HPL.out; have := HNM.out; omega))
  have Hm10 := Lib.hid (Hm9.out.step hk)
  clear hk hb HP9
  clear HC9 HX9 HY9 HM9 Hm9
  go_wp2_with fail
  have hun := redo_ok (P := ⟨[], mK 2, [mK 3]⟩) (m := mK 3) HP10.out (by unfold APast.Fits APast.list; simp) all2 rfl
  refine hun.mono ?_
  rintro _ w11 ⟨An, cn, rfl, hk, hp, hm⟩
  have Hn11 := Lib.hid hm
  clear hun
  have HP11 : Hid (Pst w11 p ⟨[mK 2], mK 3, []⟩) := Lib.hid hp
  have HC11 := Lib.hid (HC10.out.trans (hk.toBelow HC10.out.size (fun b e => by subst e; exact HPL.out.1)))
  have HX11 := Lib.hid (hk.blk HX10.out (by have := HPL.out; omega))
  have HY11 := Lib.hid (hk.blk HY10.out (by have := HPL.out; omega))
  have HM11 := Lib.hid (hk.blk HM10.out (by have := HPL.out; have := HNM.out; omega))
  have HZ11 := Lib.hid (hk.blk HZ10.out (by have := HPL.out; have := HNZ.out; omega))
  have Hm11 := Lib.hid (Hm10.out.step hk)
  clear hk hp hm HP10
  clear HC10 HX10 HY10 HM10 HZ10 Hm10
  obtain ⟨pW, hpW⟩ : ∃ x, w11.heap.size = x := ⟨_, rfl⟩
  have HWE : Hid (∃ z, w11.alloc (.cells #[.int .i64 (mK 3).next, .slice An (mK 3).nodes.length cn] 27) = z) := Lib.hid ⟨_, rfl⟩
  go_upto_region 10 with fail
  obtain ⟨w12, hw12⟩ := HWE.out
  have HW12 : Hid (Blk w12 pW 27 #[.int .i64 (mK 3).next, .slice An (mK 3).nodes.length cn]) := Lib.hid (by rw [← hw12]; exact Blk.new' hpW.symm)
  have hb : Below w11.heap.size w11 w12 := by rw [← hw12]; exact (Below.refl _ _).alloc (Nat.le_refl _) _
  have HNW : Hid (pW ≠ p) := Lib.hid (by have := HP11.out.lt; omega)
  (try rw [hpW])
  (try rw [hw12])
  clear HWE hw12 hpW
  have hk : KeepO (· = p) w11 w12 := keepO_below hb
  have HP12 := Lib.hid (HP11.out.up hb)
  have HC12 := Lib.hid (HC11.out.trans (hk.toBelow HC11.out.size (fun b e => by subst e; exact HPL.out.1)))
  have HX12 := Lib.hid (hk.blk HX11.out (by have := HPL.out; omega))
  have HY12 := Lib.hid (hk.blk HY11.out (by have := HPL.out; omega))
  have HM12 := Lib.hid (hk.blk HM11.out (by have := HPL.out; have := HNM.out; omega))
  have HZ12 := Lib.hid (hk.blk HZ11.out (by have := HPL.out; have := HNZ.out; omega))
  have Hm12 := Lib.hid (Hm11.out.step hk)
  have Hn12 := Lib.hid (Hn11.out.step hk)
  clear hk hb HP11
  clear HC11 HX11 HY11 HM11 HZ11 Hm11 Hn11
  go_wp2_with fail
  refine (depth_fp (P := ⟨[mK 2], mK 3, []⟩) HP12.out (by unfold APast.Fits APast.list; simp)).mono ?_
  rintro _ w13 ⟨rfl, hb⟩
  have hk : KeepO (· = p) w12 w13 := keepO_below hb
  have HP13 := Lib.hid (HP12.out.up hb)
  have HC13 := Lib.hid (HC12.out.trans (hk.toBelow HC12.out.size (fun b e => by subst e; exact HPL.out.1)))
  have HX13 := Lib.hid (hk.blk HX12.out (by have := HPL.out; omega))
  have HY13 := Lib.hid (hk.blk HY12.out (by have := HPL.out; omega))
  have HM13 := Lib.hid (hk.blk HM12.out (by have := HPL.out; have := HNM.out; omega))
  have HZ13 := Lib.hid (hk.blk HZ12.out (by have := HPL.out; have := HNZ.out; omega))
  have HW13 := Lib.hid (hk.blk HW12.out (by have := HPL.out; have := HNW.out; omega))
  have Hm13 := Lib.hid (Hm12.out.step hk)
  have Hn13 := Lib.hid (Hn12.out.step hk)
  clear hk hb HP12
  clear HC12 HX12 HY12 HM12 HZ12 HW12 Hm12 Hn12
  have x0 := HX13.out.cell 0; have x1 := HX13.out.cell 1
  have hxlt := HX13.out.lt
  simp at x0 x1
  have y0 := HY13.out.cell 0; have y1 := HY13.out.cell 1
  have hylt := HY13.out.lt
  simp at y0 y1
  go_wp2_with fail
  clear x0 x1 hxlt y0 y1 hylt
  have htu := htouched_any Aa Ab 2 2 (mK 2) (mK 3) w13 (fun b => b < w2.heap.size) (fun b h => Nat.lt_of_lt_of_le h HC13.out.size) (HRA.out _ HC13.out) (HRB.out _ HC13.out) (mK_all (k := 2) (by omega) (by omega)) (mK_all (k := 3) (by omega) (by omega))
  refine htu.mono ?_
  rintro _ w14 ⟨v14, rfl, ho, hb⟩
  clear htu
  rw [mK_touchL] at ho
  rw [mK_touchE]
  obtain ⟨Al, cl, rfl⟩ := ho.shape
  have HL14 := Lib.hid ho
  clear ho
  have hk : KeepO (· = p) w13 w14 := keepO_below hb
  have HP14 := Lib.hid (HP13.out.up hb)
  have HC14 := Lib.hid (HC13.out.trans (hk.toBelow HC13.out.size (fun b e => by subst e; exact HPL.out.1)))
  have HX14 := Lib.hid (hk.blk HX13.out (by have := HPL.out; omega))
  have HY14 := Lib.hid (hk.blk HY13.out (by have := HPL.out; omega))
  have HM14 := Lib.hid (hk.blk HM13.out (by have := HPL.out; have := HNM.out; omega))
  have HZ14 := Lib.hid (hk.blk HZ13.out (by have := HPL.out; have := HNZ.out; omega))
  have HW14 := Lib.hid (hk.blk HW13.out (by have := HPL.out; have := HNW.out; omega))
  have Hm14 := Lib.hid (Hm13.out.step hk)
  have Hn14 := Lib.hid (Hn13.out.step hk)
  clear hk hb HP13
  clear HC13 HX13 HY13 HM13 HZ13 HW13 Hm13 Hn13
  go_wp2_with fail
  refine (new_fp (m := m00) (A := none) 0 (F := fun b => b < w2.heap.size) (fun b h => Nat.lt_of_lt_of_le h HC14.out.size) (RowOf.nil _) m00_all).mono ?_
  rintro _ w15 ⟨pv, rfl, hb, hno, hyes⟩
  obtain rfl := hno (by rw [m00_no]; decide)
  rw [m00_no]
  clear hno hyes
  have HL15 := Lib.hid (HL14.out.below hb)
  clear HL14
  have hk : KeepO (· = p) w14 w15 := keepO_below hb
  have HP15 := Lib.hid (HP14.out.up hb)
  have HC15 := Lib.hid (HC14.out.trans (hk.toBelow HC14.out.size (fun b e => by subst e; exact HPL.out.1)))
  have HX15 := Lib.hid (hk.blk HX14.out (by have := HPL.out; omega))
  have HY15 := Lib.hid (hk.blk HY14.out (by have := HPL.out; omega))
  have HM15 := Lib.hid (hk.blk HM14.out (by have := HPL.out; have := HNM.out; omega))
  have HZ15 := Lib.hid (hk.blk HZ14.out (by have := HPL.out; have := HNZ.out; omega))
  have HW15 := Lib.hid (hk.blk HW14.out (by have := HPL.out; have := HNW.out; omega))
  have Hm15 := Lib.hid (Hm14.out.step hk)
  have Hn15 := Lib.hid (Hn14.out.step hk)
  clear hk hb HP14
  clear HC14 HX14 HY14 HM14 HZ14 HW14 Hm14 Hn14
  have m0 := HM15.out.cell 0; have m1 := HM15.out.cell 1
  have hmlt := HM15.out.lt
  simp at m0 m1
  have x0 := HX15.out.cell 0; have x1 := HX15.out.cell 1
  have hxlt := HX15.out.lt
  simp at x0 x1
  go_wp2_with fail
  clear m0 m1 hmlt
  clear x0 x1 hxlt
  refine (res_is (eqB_yes rfl) (same_fp (m := mK 2) (m' := mK 2) (p := p) (F2 := fun b => b < w2.heap.size) cm 2 Hm15.out (fun b h => Nat.lt_of_lt_of_le h HC15.out.size) (HRA.out _ HC15.out) (by show 2 ≤ _; omega))).mono ?_
  rintro _ w16 ⟨rfl, hb⟩
  have HL16 := Lib.hid (HL15.out.below hb)
  clear HL15
  have hk : KeepO (· = p) w15 w16 := keepO_below hb
  have HP16 := Lib.hid (HP15.out.up hb)
  have HC16 := Lib.hid (HC15.out.trans (hk.toBelow HC15.out.size (fun b e => by subst e; exact HPL.out.1)))
  have HX16 := Lib.hid (hk.blk HX15.out (by have := HPL.out; omega))
  have HY16 := Lib.hid (hk.blk HY15.out (by have := HPL.out; omega))
  have HM16 := Lib.hid (hk.blk HM15.out (by have := HPL.out; have := HNM.out; omega))
  have HZ16 := Lib.hid (hk.blk HZ15.out (by have := HPL.out; have := HNZ.out; omega))
  have HW16 := Lib.hid (hk.blk HW15.out (by have := HPL.out; have := HNW.out; omega))
  have Hm16 := Lib.hid (Hm15.out.step hk)
  have Hn16 := Lib.hid (Hn15.out.step hk)
  clear hk hb HP15
  clear HC15 HX15 HY15 HM15 HZ15 HW15 Hm15 Hn15
  have m0 := HW16.out.cell 0; have m1 := HW16.out.cell 1
  have hmlt := HW16.out.lt
  simp at m0 m1
  have y0 := HY16.out.cell 0; have y1 := HY16.out.cell 1
  have hylt := HY16.out.lt
  simp at y0 y1
  go_wp2_with fail
  clear m0 m1 hmlt
  clear y0 y1 hylt
  refine (res_is (eqB_yes rfl) (same_fp (m := mK 3) (m' := mK 3) (p := p) (F2 := fun b => b < w2.heap.size) cn 2 Hn16.out (fun b h => Nat.lt_of_lt_of_le h HC16.out.size) (HRB.out _ HC16.out) (by show 2 ≤ _; omega))).mono ?_
  rintro _ w17 ⟨rfl, hb⟩
  have HL17 := Lib.hid (HL16.out.below hb)
  clear HL16
  have hk : KeepO (· = p) w16 w17 := keepO_below hb
  have HP17 := Lib.hid (HP16.out.up hb)
  have HC17 := Lib.hid (HC16.out.trans (hk.toBelow HC16.out.size (fun b e => by subst e; exact HPL.out.1)))
  have HX17 := Lib.hid (hk.blk HX16.out (by have := HPL.out; omega))
  have HY17 := Lib.hid (hk.blk HY16.out (by have := HPL.out; omega))
  have HM17 := Lib.hid (hk.blk HM16.out (by have := HPL.out; have := HNM.out; omega))
  have HZ17 := Lib.hid (hk.blk HZ16.out (by have := HPL.out; have := HNZ.out; omega))
  have HW17 := Lib.hid (hk.blk HW16.out (by have := HPL.out; have := HNW.out; omega))
  have Hm17 := Lib.hid (Hm16.out.step hk)
  have Hn17 := Lib.hid (Hn16.out.step hk)
  clear hk hb HP16
  clear HC16 HX16 HY16 HM16 HZ16 HW16 Hm16 Hn16
  have hr := HL17.out.isRow (F := fun b => b < w17.heap.size) (fun b _ h => h)
  obtain ⟨A', c', e', hc1, hc2, hr⟩ := hr
  injection e' with e1 e2 e3
  subst e1 e3
  obtain ⟨bl, offl, rfl, _, l0⟩ := int_at hr (i := 0) (by simp)
  obtain ⟨bl2, offl2, e4, _, l2⟩ := int_at hr (i := 2) (by simp)
  injection e4 with e4
  injection e4 with e5 e6
  subst e5 e6
  simp at l0 l2
  have HBE := Lib.hid (HBW.out.trans (HC17.out.mono HBW.out.size))
  clear hr hc1 hc2 HC17 HX17 HY17 HM17 HZ17 HW17 Hm17 Hn17 HP17 HL17 HRA HRB HPL HPA HNM HNZ HNW
  go_wp2
  go_ret
  exact ⟨by simp, HBE.out⟩
end Go.Proofs.Ytpjkifbicfcajaa
end
