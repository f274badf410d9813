import Derived.Test.YtpjkifbicfcajaaTwinR
import Derived.Test.YtpjkifbicfcajaaHNew
import Derived.Test.YtpjkifbicfcajaaRegX
import Derived.Test.YtpjkifbicfcajaaHTouch
set_option linter.unusedSimpArgs false
set_option linter.unusedVariables false
section
/- two models that are made, in whatever order memory is laid -/
namespace Go.Proofs.Ytpjkifbicfcajaa
open Go Go.RowKit

theorem two_models {w : World} {q : Nat} {F : Nat → Prop} {a b : AModel} {va vb : Value} (hb : Blk w q 27 #[.int .i64 a.next, va, .int .i64 b.next, vb]) (hva : IsRow 7 ENode w F va a.nodes) (hvb : IsRow 7 ENode w F vb b.nodes) (hq : F q) : RowOf 2 EModel w F (some ⟨q, 0, none⟩) [a, b] := by
  refine ⟨fun _ => ⟨q, 0, rfl, hq⟩, fun i hi => ?_⟩
  rcases i with _ | i
  · refine ⟨[.int .i64 a.next, va], rfl, ⟨va, rfl, hva⟩, fun b' off e j hj => ?_⟩
    cases e
    rw [hb.cell]
    rcases j with _ | _ | j
    · rfl
    · rfl
    · omega
  · have hi0 : i = 0 := by simp at hi; omega
    subst hi0
    refine ⟨[.int .i64 b.next, vb], rfl, ⟨vb, rfl, hvb⟩, fun b' off e j hj => ?_⟩
    cases e
    rw [hb.cell]
    rcases j with _ | _ | j
    · rfl
    · rfl
    · omega
theorem twinM_any (A : Option Addr) (c : Nat) (m : AModel) (w : World) (F : Nat → Prop) (hF : ∀ b, F b → b < w.heap.size) (h : RowOf 7 ENode w F A m.nodes) (hz : ModAll m) :
    Calls Try.prog 11 #[.agg #[.int .i64 m.next, .slice A m.nodes.length c]] w fun e w' => ∃ v, e = .returned v ∧ IsModel w' (fun b => w.heap.size ≤ b ∧ b < w'.heap.size) v m ∧ Below w.heap.size w w' :=
  (twinR_any A c m w F hF h (fun x hx => (hz.1 x hx).2.1) hz.2.2).mono fun e w' ⟨v, he, l, ho, hm, hb⟩ => by
    refine ⟨_, he, ⟨v, rfl, ?_⟩, hb⟩
    have := ho.isRow (F := fun b => w.heap.size ≤ b ∧ b < w'.heap.size) (fun b h1 h2 => ⟨h1, h2⟩)
    rw [hm] at this
    exact this

/-! ### Two models that are made, in whatever order memory is laid -/
def zModelT : Array Value := #[.int .i64 0, .slice none 0 0]
structure JT (W0 w : World) (x7 x8 : Option Nat) (vx vy : Option Value) (a b : AModel) : Prop where
  below : Below W0.heap.size W0 w
  b7 : ∀ p, x7 = some p → W0.heap.size ≤ p ∧ Blk w p 27 zModelT
  b8 : ∀ p, x8 = some p → W0.heap.size ≤ p ∧ Blk w p 27 zModelT
  ne : ∀ p q, x7 = some p → x8 = some q → p ≠ q
  mx : ∀ v, vx = some v → ∃ F : Nat → Prop, IsModel w F v a ∧ ∀ c, F c → W0.heap.size ≤ c ∧ c < w.heap.size ∧ x7 ≠ some c ∧ x8 ≠ some c
  my : ∀ v, vy = some v → ∃ F : Nat → Prop, IsModel w F v b ∧ ∀ c, F c → W0.heap.size ≤ c ∧ c < w.heap.size ∧ x7 ≠ some c ∧ x8 ≠ some c
section
variable {W0 w w' : World} {x7 x8 : Option Nat} {vx vy : Option Value} {a b : AModel}
theorem JT.start (W0 : World) (a b : AModel) : JT W0 W0 none none none none a b :=
  ⟨Below.refl _ _, fun _ h => (by cases h), fun _ h => (by cases h), fun _ _ h => (by cases h), fun _ h => (by cases h), fun _ h => (by cases h)⟩
theorem JT.alloc7 (h : JT W0 w none x8 vx vy a b) : JT W0 (w.alloc (.cells zModelT 27)) (some w.heap.size) x8 vx vy a b := by
  have hs := h.below.size
  refine ⟨h.below.alloc hs _, fun p e => by cases e; exact ⟨hs, Blk.new _ _ _⟩, fun p e => ⟨(h.b8 p e).1, (h.b8 p e).2.alloc _⟩, fun p q e1 e2 => by cases e1; have := (h.b8 q e2).2.lt; omega, fun v e => ?_, fun v e => ?_⟩
  · obtain ⟨F, h1, h2⟩ := h.mx v e
    exact ⟨F, h1.keep (Keep.alloc _ _ (fun b hb => (h2 b hb).2.1)) (fun _ h => h), fun c hc => by have := h2 c hc; refine ⟨this.1, by simp; omega, fun e => by injection e; omega, this.2.2.2⟩⟩
  · obtain ⟨F, h1, h2⟩ := h.my v e
    exact ⟨F, h1.keep (Keep.alloc _ _ (fun b hb => (h2 b hb).2.1)) (fun _ h => h), fun c hc => by have := h2 c hc; refine ⟨this.1, by simp; omega, fun e => by injection e; omega, this.2.2.2⟩⟩
theorem JT.alloc8 (h : JT W0 w x7 none vx vy a b) : JT W0 (w.alloc (.cells zModelT 27)) x7 (some w.heap.size) vx vy a b := by
  have hs := h.below.size
  refine ⟨h.below.alloc hs _, fun p e => ⟨(h.b7 p e).1, (h.b7 p e).2.alloc _⟩, fun p e => by cases e; exact ⟨hs, Blk.new _ _ _⟩, fun p q e1 e2 => by cases e2; have := (h.b7 p e1).2.lt; omega, fun v e => ?_, fun v e => ?_⟩
  · obtain ⟨F, h1, h2⟩ := h.mx v e
    exact ⟨F, h1.keep (Keep.alloc _ _ (fun b hb => (h2 b hb).2.1)) (fun _ h => h), fun c hc => by have := h2 c hc; refine ⟨this.1, by simp; omega, this.2.2.1, fun e => by injection e; omega⟩⟩
  · obtain ⟨F, h1, h2⟩ := h.my v e
    exact ⟨F, h1.keep (Keep.alloc _ _ (fun b hb => (h2 b hb).2.1)) (fun _ h => h), fun c hc => by have := h2 c hc; refine ⟨this.1, by simp; omega, this.2.2.1, fun e => by injection e; omega⟩⟩
theorem JT.behind (h : JT W0 w x7 x8 vx vy a b) (hb : Below w.heap.size w w') : JT W0 w' x7 x8 vx vy a b := by
  refine ⟨h.below.trans (hb.mono h.below.size), fun p e => ⟨(h.b7 p e).1, (h.b7 p e).2.below hb (h.b7 p e).2.lt⟩, fun p e => ⟨(h.b8 p e).1, (h.b8 p e).2.below hb (h.b8 p e).2.lt⟩, h.ne, fun v e => ?_, fun v e => ?_⟩
  · obtain ⟨F, h1, h2⟩ := h.mx v e
    exact ⟨F, h1.keep (Keep.below hb (fun b hb => (h2 b hb).2.1)) (fun _ h => h), fun c hc => ⟨(h2 c hc).1, Nat.lt_of_lt_of_le (h2 c hc).2.1 hb.size, (h2 c hc).2.2⟩⟩
  · obtain ⟨F, h1, h2⟩ := h.my v e
    exact ⟨F, h1.keep (Keep.below hb (fun b hb => (h2 b hb).2.1)) (fun _ h => h), fun c hc => ⟨(h2 c hc).1, Nat.lt_of_lt_of_le (h2 c hc).2.1 hb.size, (h2 c hc).2.2⟩⟩
theorem JT.callx (h : JT W0 w x7 x8 none vy a b) (hb : Below w.heap.size w w') {v : Value} (hm : IsModel w' (fun b => w.heap.size ≤ b ∧ b < w'.heap.size) v a) : JT W0 w' x7 x8 (some v) vy a b := by
  have h' := h.behind hb
  refine ⟨h'.below, h'.b7, h'.b8, h'.ne, fun u e => ?_, h'.my⟩
  cases e
  refine ⟨_, hm, fun c hc => ⟨Nat.le_trans h.below.size hc.1, hc.2, fun e => by have := (h.b7 _ e).2.lt; have := hc.1; omega, fun e => by have := (h.b8 _ e).2.lt; have := hc.1; omega⟩⟩
theorem JT.cally (h : JT W0 w x7 x8 vx none a b) (hb : Below w.heap.size w w') {v : Value} (hm : IsModel w' (fun b => w.heap.size ≤ b ∧ b < w'.heap.size) v b) : JT W0 w' x7 x8 vx (some v) a b := by
  have h' := h.behind hb
  refine ⟨h'.below, h'.b7, h'.b8, h'.ne, h'.mx, fun u e => ?_⟩
  cases e
  refine ⟨_, hm, fun c hc => ⟨Nat.le_trans h.below.size hc.1, hc.2, fun e => by have := (h.b7 _ e).2.lt; have := hc.1; omega, fun e => by have := (h.b8 _ e).2.lt; have := hc.1; omega⟩⟩
/-- behind the stores -/
theorem JT.done {p q : Nat} {nx ny : Int} {sx sy : Value} (h : JT W0 w (some p) (some q) (some (.agg #[.int .i64 nx, sx])) (some (.agg #[.int .i64 ny, sy])) a b) :
    Below W0.heap.size W0 ((((w.setCell ⟨p, 0, none⟩ (.int .i64 nx)).setCell ⟨p, 1, none⟩ sx).setCell ⟨q, 0, none⟩ (.int .i64 ny)).setCell ⟨q, 1, none⟩ sy) ∧
    Blk ((((w.setCell ⟨p, 0, none⟩ (.int .i64 nx)).setCell ⟨p, 1, none⟩ sx).setCell ⟨q, 0, none⟩ (.int .i64 ny)).setCell ⟨q, 1, none⟩ sy) p 27 #[.int .i64 nx, sx] ∧
    Blk ((((w.setCell ⟨p, 0, none⟩ (.int .i64 nx)).setCell ⟨p, 1, none⟩ sx).setCell ⟨q, 0, none⟩ (.int .i64 ny)).setCell ⟨q, 1, none⟩ sy) q 27 #[.int .i64 ny, sy] ∧
    (∃ F : Nat → Prop, IsModel ((((w.setCell ⟨p, 0, none⟩ (.int .i64 nx)).setCell ⟨p, 1, none⟩ sx).setCell ⟨q, 0, none⟩ (.int .i64 ny)).setCell ⟨q, 1, none⟩ sy) F (.agg #[.int .i64 nx, sx]) a ∧ ∀ c, F c → c < w.heap.size) ∧
    (∃ F : Nat → Prop, IsModel ((((w.setCell ⟨p, 0, none⟩ (.int .i64 nx)).setCell ⟨p, 1, none⟩ sx).setCell ⟨q, 0, none⟩ (.int .i64 ny)).setCell ⟨q, 1, none⟩ sy) F (.agg #[.int .i64 ny, sy]) b ∧ ∀ c, F c → c < w.heap.size) := by
  obtain ⟨hp, hbp⟩ := h.b7 p rfl
  obtain ⟨hq, hbq⟩ := h.b8 q rfl
  have hne := h.ne p q rfl rfl
  have hK : ∀ F : Nat → Prop, (∀ c, F c → c ≠ p ∧ c ≠ q) → Keep F w ((((w.setCell ⟨p, 0, none⟩ (.int .i64 nx)).setCell ⟨p, 1, none⟩ sx).setCell ⟨q, 0, none⟩ (.int .i64 ny)).setCell ⟨q, 1, none⟩ sy) := fun F hF r hr => World.cell?_of_block
    ((((Below.heap_setCell _ _ _ _ (by show r.block ≠ q; exact (hF _ hr).2)).trans (Below.heap_setCell _ _ _ _ (by show r.block ≠ q; exact (hF _ hr).2))).trans (Below.heap_setCell _ _ _ _ (by show r.block ≠ p; exact (hF _ hr).1))).trans (Below.heap_setCell _ _ _ _ (by show r.block ≠ p; exact (hF _ hr).1)))
  refine ⟨(((h.below.setCell (p := ⟨p, 0, none⟩) hp _).setCell (p := ⟨p, 1, none⟩) hp _).setCell (p := ⟨q, 0, none⟩) hq _).setCell (p := ⟨q, 1, none⟩) hq _, ?_, ?_, ?_, ?_⟩
  · have := (((hbp.set_ 0 (.int .i64 nx)).set_ 1 sx).far (p := ⟨q, 0, none⟩) hne (.int .i64 ny)).far (p := ⟨q, 1, none⟩) hne sy
    simpa [zModelT] using this
  · have := (((hbq.far (p := ⟨p, 0, none⟩) (Ne.symm hne) (.int .i64 nx)).far (p := ⟨p, 1, none⟩) (Ne.symm hne) sx).set_ 0 (.int .i64 ny)).set_ 1 sy
    simpa [zModelT] using this
  · obtain ⟨F, h1, h2⟩ := h.mx _ rfl
    exact ⟨F, h1.keep (hK F (fun c hc => ⟨fun e => (h2 c hc).2.2.1 (by rw [e]), fun e => (h2 c hc).2.2.2 (by rw [e])⟩)) (fun _ h => h), fun c hc => (h2 c hc).2.1⟩
  · obtain ⟨F, h1, h2⟩ := h.my _ rfl
    exact ⟨F, h1.keep (hK F (fun c hc => ⟨fun e => (h2 c hc).2.2.1 (by rw [e]), fun e => (h2 c hc).2.2.2 (by rw [e])⟩)) (fun _ h => h), fun c hc => (h2 c hc).2.1⟩
end
end Go.Proofs.Ytpjkifbicfcajaa
end
section
/- the two models of 'two', and what is done with them: plain -/
namespace Go.Proofs.Ytpjkifbicfcajaa
open Go Go.RowKit

def wA : ByteArray := ⟨#[65]⟩
def wR : ByteArray := ⟨#[114]⟩
def wE : ByteArray := ⟨#[]⟩
def n1K (k : Int) : ANode := ⟨1, wA, 0, wE, [], [k], []⟩
def n2K (k : Int) : ANode := ⟨k, wA, 1, wR, [], [], []⟩
def mK (k : Int) : AModel := ⟨4, [n1K k, n2K k]⟩
theorem mK_check {k : Int} (h1 : 2 ≤ k) (h2 : k ≤ 3) : CheckM (mK k) := by
  have wa : wordA wA = true := by kernel_rfl
  have wr : wordA wR = true := by kernel_rfl
  have p0 : PropsOK [] := fun i h => absurd h (Nat.not_lt_zero _)
  have r0 : RefsOK 4 [] := fun i h => absurd h (Nat.not_lt_zero _)
  refine ⟨⟨⟨by show (1 : Int) ≤ 4; omega, by show (4 : Int) ≤ 1048577; omega, by show 2 ≤ 4096; omega⟩, fun i h => ?_⟩, ?_, ?_, ?_, ?_⟩
  · rcases i with _ | _ | i
    · exact ⟨by show (1 : Int) ≤ 1; omega, by show (1 : Int) < 4; omega, fun h => absurd h (Nat.lt_irrefl _)⟩
    · exact ⟨by show (1 : Int) ≤ k; omega, by show k < 4; omega, fun _ => by show (1 : Int) < k; omega⟩
    · exact absurd h (by show ¬ i + 1 + 1 < 2; omega)
  · intro n hn
    rcases List.mem_cons.1 hn with rfl | hn
    · exact ⟨wa, ⟨fun _ => rfl, fun _ => rfl⟩, fun h => absurd rfl h, by show 1 ≤ 2; omega, p0, r0⟩
    · rcases List.mem_cons.1 hn with rfl | hn
      · exact ⟨wa, ⟨fun h => absurd h (by show ¬ (1 : Int) = 0; omega), fun h => absurd h (by show ¬ 1 = 0; omega)⟩, fun _ => wr, by show 0 ≤ 2; omega, p0, r0⟩
      · cases hn
  · intro n hn
    rcases List.mem_cons.1 hn with rfl | hn
    · intro x hx
      have hx : x = k := by simpa [n1K] using hx
      subst hx
      exact ⟨n2K x, by simp [mK], rfl, rfl⟩
    · rcases List.mem_cons.1 hn with rfl | hn
      · intro x hx; cases hx
      · cases hn
  · intro n hn
    have hc : ∀ i, cnt (mK k).nodes i = [k].count i := fun i => rfl
    rcases List.mem_cons.1 hn with rfl | hn
    · refine ⟨fun _ => ?_, fun h => absurd rfl h⟩
      rw [hc]
      show List.count (1 : Int) [k] = 0
      rw [List.count_eq_zero]; simp; omega
    · rcases List.mem_cons.1 hn with rfl | hn
      · refine ⟨fun h => absurd h (by show ¬ (1 : Int) = 0; omega), fun _ => ?_⟩
        rw [hc]
        show List.count k [k] = 1
        simp
      · cases hn
  · intro n hn
    rcases List.mem_cons.1 hn with rfl | hn
    · exact .inl rfl
    · rcases List.mem_cons.1 hn with rfl | hn
      · exact .inr ⟨n1K k, by simp [mK], rfl, .inl rfl⟩
      · cases hn
open Classical in
theorem mK_yes {k : Int} (h1 : 2 ≤ k) (h2 : k ≤ 3) : checkI (mK k) = 0 := by unfold checkI; rw [decide_eq_true (mK_check h1 h2)]; rfl
theorem m0_no : checkI ⟨0, []⟩ = 29 := checkI_no (fun h => by have : (1 : Int) ≤ 0 := h.1.1.1; omega)
theorem wA_size : wA.size = 1 := rfl
theorem mK_all {k : Int} (h1 : 2 ≤ k) (h2 : k ≤ 3) : ModAll (mK k) := by
  have ha : wA.size ≤ 9223372036854775807 := by show 1 ≤ _; omega
  have hr : wR.size ≤ 9223372036854775807 := by show 1 ≤ _; omega
  have he : wE.size ≤ 9223372036854775807 := by show 0 ≤ _; omega
  have i0 : ∀ x : Int, -9 ≤ x → x ≤ 9 → InR x := fun x h1 h2 => by unfold InR; omega
  refine ⟨fun y hy => ?_, i0 4 (by omega) (by omega), by show 2 ≤ _; omega⟩
  rcases List.mem_cons.1 hy with rfl | hy
  · exact ⟨⟨⟨ha, he, by simp [n1K], by simp [n1K]⟩, i0 0 (by omega) (by omega), fun x hx => by
      have hx : x = k := by simpa [n1K] using hx
      exact i0 x (by omega) (by omega)⟩, ⟨by show 0 * 32 ≤ _; omega, by show 1 * 8 ≤ _; omega, by show 0 * 24 ≤ _; omega⟩, i0 1 (by omega) (by omega), by simp [n1K]⟩
  · rcases List.mem_cons.1 hy with rfl | hy
    · exact ⟨⟨⟨ha, hr, by simp [n2K], by simp [n2K]⟩, i0 1 (by omega) (by omega), by simp [n2K]⟩, ⟨by show 0 * 32 ≤ _; omega, by show 0 * 8 ≤ _; omega, by show 0 * 24 ≤ _; omega⟩, i0 k (by omega) (by omega), by simp [n2K]⟩
    · cases hy
theorem mK_ne : mK 3 ≠ mK 2 := fun h => by
  have := congrArg (fun m => m.nodes.map ANode.id) h
  simp [mK, n1K, n2K] at this
theorem mK_touchE : touchE (mK 2) (mK 3) = 0 := by unfold touchE; rw [if_pos ⟨mK_yes (by omega) (by omega), mK_yes (by omega) (by omega)⟩]
theorem mK_touchL : touchL (mK 2) (mK 3) = [1, 2, 3] := by
  unfold touchL
  rw [if_pos ⟨mK_yes (by omega) (by omega), mK_yes (by omega) (by omega)⟩]
  show mergeT [n1K 2, n2K 2] [n1K 3, n2K 3] = _
  rw [mergeT_diff (x := n1K 2) (y := n1K 3) [n2K 2] [n2K 3] rfl (fun h => by have := congrArg ANode.kids h; simp [n1K] at this), mergeT_lt (x := n2K 2) (y := n2K 3) [] [] (by show (2 : Int) < 3; omega), mergeT_right, mergeT_nil]
  rfl
theorem pushK1 : pushP ⟨[], mK 2, []⟩ (mK 3) = (0, ⟨[mK 2], mK 3, []⟩) := by
  unfold pushP
  rw [if_neg (by rw [mK_yes (by omega) (by omega)]; simp), if_neg mK_ne]
  rfl
theorem pushK2 : pushP ⟨[mK 2], mK 3, []⟩ (mK 3) = (0, ⟨[mK 2], mK 3, []⟩) := by
  unfold pushP
  rw [if_neg (by rw [mK_yes (by omega) (by omega)]; simp), if_pos rfl]
section
variable {w : World} {q : Nat} {F : Nat → Prop}
theorem two_nodes {x y : LN} (hb : Blk w q 79 (x.cells ++ y.cells).toArray) (hx : x.Reads w F) (hy : y.Reads w F) (hq : F q) : RowOf 7 ENode w F (some ⟨q, 0, none⟩) [x.n, y.n] := by
  refine ⟨fun _ => ⟨q, 0, rfl, hq⟩, fun i hi => ?_⟩
  rcases i with _ | i
  · refine ⟨x.cells, LN.cells_len _, ⟨x.p, x.k, x.r, rfl, hx.1, hx.2.1, hx.2.2⟩, fun b off e j hj => ?_⟩
    cases e
    rw [hb.cell]
    rcases j with _ | _ | _ | _ | _ | _ | _ | j <;> first | rfl | omega
  · have hi0 : i = 0 := by simp at hi; omega
    subst hi0
    refine ⟨y.cells, LN.cells_len _, ⟨y.p, y.k, y.r, rfl, hy.1, hy.2.1, hy.2.2⟩, fun b off e j hj => ?_⟩
    cases e
    rw [hb.cell]
    rcases j with _ | _ | _ | _ | _ | _ | _ | j <;> first | rfl | omega
theorem one_int {n : Int} (hb : Blk w q 3 #[.int .i64 n]) (hq : F q) : IsRow 1 EInt w F (.slice (some ⟨q, 0, none⟩) 1 1) [n] := by
  refine ⟨_, _, rfl, Nat.le_refl _, by unfold maxLen; omega, fun _ => ⟨q, 0, rfl, hq⟩, fun i hi => ?_⟩
  have hi0 : i = 0 := by simp at hi; omega
  subst hi0
  refine ⟨[.int .i64 n], rfl, rfl, fun b off e j hj => ?_⟩
  cases e
  have : j = 0 := by omega
  subst this
  rw [hb.cell]; rfl
theorem reads0 {n : ANode} (hp : n.props = []) (hk : n.kids = []) (hr : n.refs = []) : LN.Reads w F ⟨n, .slice none 0 0, .slice none 0 0, .slice none 0 0⟩ := by
  refine ⟨?_, ?_, ?_⟩
  · show IsRow 2 EProp w F _ n.props; rw [hp]; exact IsRow.nil
  · show IsRow 1 EInt w F _ n.kids; rw [hk]; exact IsRow.nil
  · show IsRow 2 ERef w F _ n.refs; rw [hr]; exact IsRow.nil
end
/-- one of the two, in memory -/
theorem mK_row {w : World} {p q : Nat} {F : Nat → Prop} (k : Int) (hp : Blk w p 3 #[.int .i64 k]) (hq : Blk w q 79 #[.int .i64 1, .string wA, .int .i64 0, .string wE, .slice none 0 0, .slice (some ⟨p, 0, none⟩) 1 1, .slice none 0 0, .int .i64 k, .string wA, .int .i64 1, .string wR, .slice none 0 0, .slice none 0 0, .slice none 0 0]) (hFp : F p) (hFq : F q) :
    RowOf 7 ENode w F (some ⟨q, 0, none⟩) (mK k).nodes :=
  two_nodes (x := ⟨n1K k, .slice none 0 0, .slice (some ⟨p, 0, none⟩) 1 1, .slice none 0 0⟩) (y := ⟨n2K k, .slice none 0 0, .slice none 0 0, .slice none 0 0⟩) hq ⟨IsRow.nil, one_int hp hFp, IsRow.nil⟩ (reads0 rfl rfl rfl) hFq
end Go.Proofs.Ytpjkifbicfcajaa
end
