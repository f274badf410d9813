import Derived.Test.YtgcbnndbeoekgaaDoorTermB
import Derived.Deep.AppendLies
import Derived.Deep.LoopGhost
import Derived.Deep.DeepCutAuto
import Derived.Test.YtgcbnndbeoekgaaDoorRegX
set_option linter.unusedSimpArgs false
set_option linter.unusedVariables false
namespace Go.Proofs.YtgcbnndbeoekgaaDoor
open Go Go.RowKit

/-- what holds at the head of the loop over a name's bytes -/
def NameL (B : Nat) (s : ByteArray) (i j : Nat) (ts : List TN) (w wr : World) : Prop := Rd wr B s j ts ∧ Below B w wr ∧ i ≤ j ∧ ∀ k, i ≤ k → k < j → nameP s i k = true
/-- what holds at the head of the loop over a name's arguments -/
def ArgL (B : Nat) (s : ByteArray) (i : Nat) (ts : List TN) (w wr : World) : Prop := ∃ j t r, Rd wr B s j (ts ++ t :: r) ∧ Below B w wr ∧ ArgR s i ts j t r
/-- a block of another type than an owned row's is no block of the row -/
theorem own_ne_blk {w : World} {base : Nat} {e : TypeId} {size n : Nat} {v : Value} {xs : List Value} (h : w.ownsRow base e size v n xs) {g : Nat} {t : TypeId} {cs : Array Value} (hb : Blk w g t cs) (hne : t ≠ e) : some g ≠ v.ownBlock := by
  rcases h.2 with ⟨rfl, _⟩ | ⟨g', cap, cur, rfl, _, hh, _⟩
  · simp [Value.ownBlock]
  · intro he
    simp [Value.ownBlock] at he
    subst he
    unfold Blk at hb
    rw [hh] at hb
    injection hb with hb
    injection hb with _ hb
    exact hne hb.symm
/-- the nodes' row is no row of arguments -/
theorem OwnNodes.ne_arg {w : World} {eN eI : TypeId} {B g cap n : Nat} {ts : List TN} (h : OwnNodes eN eI w B (.slice (some ⟨g, 0, none⟩) n cap) ts) (hne : eN ≠ eI) {base m : Nat} {v : Value} {xs : List Value} (ho : w.ownsRow base eI 1 v m xs) : some g ≠ v.ownBlock := by
  obtain ⟨avs, h1, h2, _⟩ := h
  exact fun e => own_type_ne h2 ho hne g rfl e.symm
theorem own_below {w w' : World} {base : Nat} {e : TypeId} {size n : Nat} {v : Value} {xs : List Value} (h : w.ownsRow base e size v n xs) (hb : Below w.heap.size w w') : w'.ownsRow base e size v n xs := by
  refine h.kept (row := none) ⟨hb.os, hb.tape, hb.output, hb.size, fun k hk _ => hb.block k hk⟩ ?_
  cases v.ownBlock <;> simp
theorem own_lo {w : World} {base : Nat} {e : TypeId} {size n : Nat} {v : Value} {xs : List Value} (h : w.ownsRow base e size v n xs) : ∀ b, v.ownBlock = some b → base ≤ b := fun b hb => (h.lt b hb).1
theorem far_cell {w w0 w1 : World} {row : Option Nat} (h0 : Below w.heap.size w w0) (hg : w0.grownBy w1 row) {b i : Nat} (hb : b < w.heap.size) (hne : some b ≠ row) : w1.cell? ⟨b, i, none⟩ = w.cell? ⟨b, i, none⟩ :=
  (hg.cell_far ⟨b, i, none⟩ (Nat.lt_of_lt_of_le hb h0.size) hne).trans (h0.cell hb)
theorem far_frozen {w w0 w1 : World} {row : Option Nat} (h0 : Below w.heap.size w w0) (hg : w0.grownBy w1 row) {b i : Nat} (hb : b < w.heap.size) (hne : some b ≠ row) : w1.frozen? ⟨b, i, none⟩ = w.frozen? ⟨b, i, none⟩ := by
  rw [hg.frozen_far ⟨b, i, none⟩ (Nat.lt_of_lt_of_le hb h0.size) hne]
  simp only [World.frozen?, h0.block b hb]
theorem below_frozen {w w0 : World} (h0 : Below w.heap.size w w0) {b i : Nat} (hb : b < w.heap.size) : w0.frozen? ⟨b, i, none⟩ = w.frozen? ⟨b, i, none⟩ := by
  simp only [World.frozen?, h0.block b hb]
theorem meas5 {w w' : World} {B : Nat} {s : ByteArray} {j k : Nat} {ts ts' : List TN} (h : Rd w B s k ts) (h' : Rd w' B s j ts') (hk : k ≤ s.size) (hj : j < k) : s.size - YtgcbnndbeoekgaaDoor.atOf B w < s.size - YtgcbnndbeoekgaaDoor.atOf B w' := by
  rw [h.atOf, h'.atOf]; omega
theorem arg_lt {s : ByteArray} {i j : Nat} {ts r : List TN} {t : TN} (h : ArgR s i ts j t r) : j ≤ s.size := h.2.1
theorem nameP_first {s : ByteArray} {i : Nat} (hlt : i < s.size) (hl : letterB s[i] = true) : nameP s i i = true := by
  simp only [nameP, cut, cut_one hlt, right_one, hl, hlt, decide_true, Bool.and_true]
theorem names_next {p : Nat → Bool} {i j : Nat} (h : ∀ k, i ≤ k → k < j → p k = true) (hp : p j = true) : ∀ k, i ≤ k → k < j + 1 → p k = true := by
  intro k h1 h2
  rcases Nat.lt_succ_iff_lt_or_eq.1 h2 with h3 | rfl
  · exact h k h1 h3
  · exact hp
/-- one node's arguments are one more: the reader behind it -/
theorem Rd.argued {w w0 w1 : World} {B : Nat} {s : ByteArray} {j : Nat} {ts : List TN} {g cap n : Nat} (hj : j ≤ s.size) (hb : Blk w B 74 #[.string s, .int .i64 j, .slice (some ⟨g, 0, none⟩) n cap]) (ho : OwnNodes 58 3 w B (.slice (some ⟨g, 0, none⟩) n cap) ts)
    (h0 : Below w.heap.size w w0) {k : Nat} (hi : k < ts.length) {av av' : Value} (hav : w.cell? ⟨g, k * 3 + 2, none⟩ = some av) (hrow : w.ownsRow B 3 1 av ts[k].args.length (ts[k].args.map (.int .i64))) {x : Nat}
    (h1 : w1.ownsRow B 3 1 av' (ts[k].args.length + 1) (ts[k].args.map (.int .i64) ++ [.int .i64 x])) (hg : w0.grownBy w1 av.ownBlock) (hat : av'.ownBlock = av.ownBlock ∨ av'.ownBlock = some w0.heap.size) :
    Rd (w1.setCell ⟨g, k * 3 + 2, none⟩ av') B s j (addArg ts k x) := by
  have hb0 : Blk w0 B 74 #[.string s, .int .i64 j, .slice (some ⟨g, 0, none⟩) n cap] := hb.below h0 hb.lt
  have ho0 := ho.below h0
  have hgl := ((ho.at_ hi))
  obtain ⟨g', cap', _, e, _, hg', _⟩ := hgl
  have eg : g = g' := by injection e with e; injection e with e; injection e
  subst eg
  have hav0 : w0.cell? ⟨g, k * 3 + 2, none⟩ = some av := (h0.cell hg').trans hav
  have hb1 := hb0.grown hg (own_ne_blk hrow hb (by decide))
  rw [addArg_at hi]
  refine ⟨hj, _, hb1.far ?_ _, ho0.moreArg (by decide) hi hav0 h1 hg hat⟩
  exact fun e => ho.ne_blk hb (by decide) (by rw [e]; rfl)

set_option maxRecDepth 100000 in
set_option maxHeartbeats 4000000 in
theorem term_name (B : Nat) (s : ByteArray) (i : Nat) (ts : List TN) (w : World) (hs : s.size ≤ 9223372036854775807) (h : Rd w B s i ts) (hlt : i < s.size) (h63 : ((s[i].toNat : Int) == 63) = false) (hl : letterB s[i] = true) (hlen : ts.length < 256) (hB : B < w.heap.size)
    (IH : ∀ j ts' w', i < j → ts'.length ≤ 256 → Rd w' B s j ts' → Calls Tryd.prog 31 #[.pointer (some ⟨B, 0, none⟩)] w' (TermPost B s j ts' w')) :
    Calls Tryd.prog 31 #[.pointer (some ⟨B, 0, none⟩)] w (TermPost B s i ts w) := by
  have H := Lib.hid h
  obtain ⟨hi, v, hb, ho⟩ := h
  have c0 := hb.cell 0; have c1 := hb.cell 1; have c2 := hb.cell 2
  simp at c0 c1 c2
  obtain ⟨A, c, rfl⟩ := ho.shape
  have hl256 : ((ts.length : Int) == 256) = false := beq_eq_false_iff_ne.2 (by omega)
  have f2 := hb.frozen 2
  have HIH := Lib.hid IH; clear IH
  have hl' : ((i : Int) == s.size) = false := beq_eq_false_iff_ne.2 (by omega)
  have hl2 : (i : Int) < s.size := by omega
  obtain ⟨t, ht⟩ : ∃ t, s.extract i (i + 1) = t := ⟨_, rfl⟩
  have hc : Hid (rightB t.data.toList = true) := Lib.hid (by rw [← ht, cut_one hlt, right_one]; exact hl)
  have htz : t.size ≤ 9223372036854775807 := by rw [← ht, ByteArray.size_extract]; omega
  have h63' : ((s[i].toNat : Int) != 63) = true := by rw [bne_iff_ne]; exact beq_eq_false_iff_ne.1 h63
  have k1 : IntKind.i64.wrap ((i : Int) + 1) = (i : Int) + 1 := IntWalk.i64_in _ ⟨by omega, by omega⟩
  have k2 : (0 : Int) ≤ (i : Int) + 1 := by omega
  have k3 : ((i : Int) + 1).toNat = i + 1 := by omega
  have k4 : (i : Int) + 1 ≤ s.size := by omega
  have k5 : (i : Int) ≤ (i : Int) + 1 := by omega
  go_enter Tryd.func31, Tryd.ntmps31
  go_wp2
  go_quiet ((go_at_call 23; exact quiet_left (right_any t _ htz)))
  rw [hc.out]
  clear k1 k2 k3 k4 k5 ht
  go_wp2_with (at_builtin; go_loud (refine wpList_pushNode _ (by decide) rfl _ _ 22 rfl B Tryd.underlying22 tn_info rfl _ ts rfl ((ho.drewN _).alloc _) TN.zero rfl ⟨w.heap.size, 0, none⟩ 1 rfl (news_cells (cs := #[.int .i64 0, .string { data := #[] }, .slice none 0 0]) (Blk.new' (by rfl))) (by unfold maxLen; omega) (by omega) (by simp; omega) ?_))
  intro A1 c1' w1 own1 hg1
  obtain ⟨hb1, hR1⟩ := Rd.pushed hi ((hb.drewN _).alloc _) ((ho.drewN _).alloc _) hg1 own1
  have hbel1 : Below B w w1 := ((below_drewN (Below.refl _ _) _).alloc (by simp; omega) _).grown hg1 (by simp; omega) (fun b e => (ho.ownLt b e).1)
  have HB1 := Lib.hid hbel1
  have d0 := hb1.cell 0; have d1 := hb1.cell 1; have d2 := hb1.cell 2; have g2 := hb1.frozen 2
  simp at d0 d1 d2
  clear own1 hg1 hb1 hbel1 c0 c1 c2 f2 ho hb
  go_wp2_with fail
  refine (is_any B s i (ts ++ [TN.zero]) 63 _ hs hR1).mono ?_
  rintro e w2 ⟨hb2, hcase⟩
  rcases hcase with ⟨rfl, hyes, _⟩ | ⟨rfl, hno, hR2⟩
  · exact absurd hyes (fun ⟨_, h⟩ => absurd (beq_iff_eq.2 h) (by rw [h63]; decide))
  have hb2' : Below B w w2 := (HB1.out.setCell (p := ⟨B, 2, none⟩) (Nat.le_refl _) _).trans hb2
  have HB2 := Lib.hid hb2'
  have HR2 := Lib.hid hR2
  obtain ⟨_, v, hb, ho⟩ := hR2
  have c1 := hb.cell 1
  simp at c1
  clear hb2 hb2' hR1 d0 d1 d2 g2 hno hb ho
  go_wp2_with fail
  go_loopw [] (fun wr => ∃ j : Nat, NameL B s i j (ts ++ [TN.zero]) w wr) (fun wr => s.size - atOf B wr)
  case atStart => exact ⟨i, HR2.out, HB2.out, Nat.le_refl _, fun k h1 h2 => by omega⟩
  case round =>
    obtain ⟨j, hL⟩ := hrel
    have HL := Lib.hid hL
    obtain ⟨⟨hj, v', hb, ho⟩, hbel, hij, hD⟩ := hL
    obtain ⟨A3, c3, rfl⟩ := ho.shape
    have c0 := hb.cell 0; have c1' := hb.cell 1; have c2 := hb.cell 2; have f1 := hb.frozen 1
    simp at c0 c1' c2
    clear hbel hD hb ho c1
    by_cases hjt : j < s.size
    · have hj2 : (j : Int) < s.size := by omega
      obtain ⟨t', ht⟩ : ∃ t', s.extract i (j + 1) = t' := ⟨_, rfl⟩
      have hcut : Hid (nameP s i j = rightB t'.data.toList) := Lib.hid (by simp [nameP, cut, hjt, ht])
      have htz' : t'.size ≤ 9223372036854775807 := by rw [← ht, ByteArray.size_extract]; omega
      have k1 : IntKind.i64.wrap ((j : Int) + 1) = (j : Int) + 1 := IntWalk.i64_in _ ⟨by omega, by omega⟩
      have k2 : (0 : Int) ≤ (j : Int) + 1 := by omega
      have k3 : ((j : Int) + 1).toNat = j + 1 := by omega
      have k4 : (j : Int) + 1 ≤ s.size := by omega
      have k5 : (i : Int) ≤ (j : Int) + 1 := by omega
      have hrd : ∀ nq : Nat, Rd ((wr.drewN nq).setCell ⟨B, 1, none⟩ (.int .i64 ((j : Int) + 1))) B s (j + 1) (ts ++ [TN.zero]) := fun nq => (HL.out.1.drewN nq).to hjt (by simp)
      have hbl : ∀ nq : Nat, Below B w ((wr.drewN nq).setCell ⟨B, 1, none⟩ (.int .i64 ((j : Int) + 1))) := fun nq => (below_drewN HL.out.2.1 nq).setCell (p := ⟨B, 1, none⟩) (Nat.le_refl _) _
      have HRD := Lib.hid hrd; have HBL := Lib.hid hbl
      clear hrd hbl
      cases hr : rightB t'.data.toList
      · have hp : Hid (nameP s i j = false) := Lib.hid (by rw [hcut.out, hr])
        go_wp2
        go_quiet ((go_at_call 23; exact quiet_left (right_any t' _ htz')))
        rw [hr]
        clear k1 k2 k3 k4 k5 ht hr
        have he := Lib.hid (name_end HL.out.2.2.1 hj HL.out.2.2.2 hp.out)
        have hij' : i < j := by
          rcases Nat.lt_or_eq_of_le hij with h | h
          · exact h
          · exact absurd (nameP_first hlt hl) (by subst h; rw [hp.out]; decide)
        obtain ⟨nm, hnm⟩ : ∃ nm, s.extract i j = nm := ⟨_, rfl⟩
        have HNM := Lib.hid hnm
        obtain ⟨_, v4, hb, ho⟩ := HL.out.1
        obtain ⟨g, cap, av, rfl, hBg, hg, e0, e1, e2, q0, q1, q2, _, _, hcap, hcap2⟩ := ho.at_ (i := ts.length) (by simp)
        have c2' := hb.cell 2
        simp at c2' e0 e1 e2
        have k1 : (0 : Int) ≤ (j : Int) := by omega
        have k2 : (i : Int) ≤ j := by omega
        have k3 : (j : Int) ≤ s.size := by omega
        have HST := Lib.hid (fun nq : Nat => Rd.stored (k := 1) (u := .string nm) (t := ⟨0, nm, []⟩) HL.out.1.1 (hb.drewN nq) (ho.drewN nq) (i := ts.length) (by simp) (by decide) (by simp [TN.zero]) (by intro a; simp [nodeCells, TN.zero]))
        have HBL2 := Lib.hid (fun nq : Nat => (below_drewN HL.out.2.1 nq).setCell (p := ⟨g, ts.length * 3 + 1, none⟩) hBg (.string nm))
        have m1 : (0 : Int) ≤ ts.length := by omega
        have m2 : (ts.length : Int) < (ts.length : Int) + 1 := by omega
        have hgB : g ≠ B := fun e => ho.ne_blk hb (by decide) (by rw [e]; rfl)
        have hgB' : B ≠ g := fun e => hgB e.symm
        clear ho hb c2
        go_wp2
        go_region_held3 (fun w' => w'.cell? ⟨B, 0, none⟩ = some (.string s) ∧ w'.cell? ⟨B, 1, none⟩ = some (.int .i64 j) ∧ w'.cell? ⟨B, 2, none⟩ = some (.slice (some ⟨g, 0, none⟩) (ts.length + 1) cap) ∧ w'.frozen? ⟨g, ts.length * 3 + 1, none⟩ = false) (go_keep) (fail)
        go_wp2_with fail
        have hR4 := HST.out (nq + 1)
        rw [set_last rfl] at hR4
        clear e0 e1 e2 q0 q1 q2 k1 k2 k3 m1 m2 hgB hgB' c0 c1' c2' f1
        refine (is_any B s j (ts ++ [⟨0, nm, []⟩]) 40 _ hs hR4).mono ?_
        rintro e w5 ⟨hb5, hcase⟩
        have hbel5 : Below B w w5 := (HBL2.out (nq + 1)).trans hb5
        have HB5 := Lib.hid hbel5
        clear hbel5 hb5 hR4
        rcases hcase with ⟨rfl, hyes, hR5⟩ | ⟨rfl, hno, hR5⟩
        · have hA := arg_start hlt h63 hl hlen he.out hij' (byte_some (n := 40) (by omega) hyes)
          rw [HNM.out] at hA
          have HA := Lib.hid hA; have HR5 := Lib.hid hR5
          clear hA hyes hR5 hnm HL HST HBL2
          go_wp2_with fail
          go_loopg [] s.size (fun g wr => s.size - atOf B wr ≤ g ∧ ArgL B s i ts w wr)
          case atStart => exact ⟨Nat.sub_le _ _, j + 1, _, [], HR5.out, HB5.out, HA.out⟩
          case round =>
            clear HA HR5 HB5 he hp HNM
            obtain ⟨hg0, j5, t5, r5, hRd, hbl5, hA⟩ := hrel
            have Hg0 := Lib.hid hg0; clear hg0
            obtain ⟨l5, hl5⟩ : ∃ l5, ts ++ t5 :: r5 = l5 := ⟨_, rfl⟩
            rw [hl5] at hRd
            have hown5 : ts.length < l5.length := by rw [← hl5]; simp
            have hn5 : l5.length ≤ 256 := by rw [← hl5]; exact hA.2.2.1
            have ha5 : l5[ts.length].args.length < 256 := by
              have h1 := hA.2.2.1; have h2 := hA.2.2.2.1
              subst hl5; simp at h1 ⊢; omega
            have hij5 := hA.1
            have HRd := Lib.hid hRd; have HBl := Lib.hid hbl5; have HA := Lib.hid hA; have HL5 := Lib.hid hl5
            clear hA hbl5 hl5
            obtain ⟨hj5, v6, hb, ho⟩ := hRd
            obtain ⟨g5, cap5, av5, rfl, hBg5, hg5, _, _, e2', _, _, q2', hrow, ⟨A6, c6, rfl⟩, hcap5, hcap6⟩ := ho.at_ hown5
            obtain ⟨n6, hn6⟩ : ∃ n6, l5[ts.length].args.length = n6 := ⟨_, rfl⟩
            obtain ⟨x6, hx6⟩ : ∃ x6 : List Value, l5[ts.length].args.map (.int .i64) = x6 := ⟨_, rfl⟩
            rw [hn6] at ha5
            have hgB5 : g5 ≠ B := fun e => ho.ne_blk hb (by decide) (by rw [e]; rfl)
            have hgB6 : B ≠ g5 := fun e => hgB5 e.symm
            have hgav := Lib.hid (ho.ne_arg (by decide) hrow); have hBav := Lib.hid (own_ne_blk hrow hb (by decide))
            have HROW := Lib.hid hrow
            have HARG := Lib.hid (fun (w0 w1 : World) (h0 : Below wr.heap.size wr w0) (av' : Value) h1 hg hat => Rd.argued (w0 := w0) (w1 := w1) (av' := av') (x := l5.length) hj5 hb ho h0 hown5 e2' hrow h1 hg hat)
            rw [hn6, hx6] at HROW
            rw [hn6] at hgav hBav e2'
            have c2'' := hb.cell 2
            have hBlt := hb.lt
            simp at c2''
            have m1 : (0 : Int) ≤ ts.length := by omega
            have m2 : (ts.length : Int) < (l5.length : Int) := by omega
            have hbRow := Lib.hid (own_lo HROW.out)
            clear hb ho hrow
            have h06 : Below wr.heap.size wr (wr.alloc (.cells #[.int .i64 l5.length] 3)) := (Below.refl wr.heap.size wr).alloc (Nat.le_refl _) _
            go_upto_region 25 with fail
            refine wp_region_X (S := (fun w' => w'.cell? ⟨B, 2, none⟩ = some (.slice (some ⟨g5, 0, none⟩) l5.length cap5) ∧ w'.cell? ⟨g5, ts.length * 3 + 2, none⟩ = some (.slice A6 n6 c6) ∧ w'.frozen? ⟨g5, ts.length * 3 + 2, none⟩ = false)) 22 (by kernel_rfl) ⟨c2'', e2', q2'⟩ (fun hHeld => ?_)
            refine wpAnyX_take (i := 0) (v := ?_) rfl (by kernel_rfl) (by kernel_rfl) (by kernel_rfl) (by kernel_rfl) (fun _ _ _ h => h) (Or.inl ⟨by rfl, ?_⟩) (by assumption) ?_
            rotate_left 1
            · (intro w' hSw; obtain ⟨s1, s2, s3⟩ := hSw; go_simp); try with_reducible rfl
            try simp only [Act.put, List.setIfInBounds_toArray]
            refine wpAnyX_take (i := 1) (v := ?_) rfl (by kernel_rfl) (by kernel_rfl) (by kernel_rfl) (by kernel_rfl) (fun _ _ _ h => h) (Or.inl ⟨by rfl, ?_⟩) (by assumption) ?_
            rotate_left 1
            · (intro w' hSw; obtain ⟨s1, s2, s3⟩ := hSw; go_simp); try with_reducible rfl
            try simp only [Act.put]
            refine wpAnyX_take (i := 2) (v := ?_) rfl (by kernel_rfl) (by kernel_rfl) (by kernel_rfl) (by kernel_rfl) (fun _ _ _ h => h) (Or.inl ⟨by rfl, ?_⟩) (by assumption) ?_
            rotate_left 1
            · (intro w' hSw; obtain ⟨s1, s2, s3⟩ := hSw; go_simp); try with_reducible rfl
            try simp only [Act.put]
            refine wpAnyX_take (i := 3) (v := ?_) rfl (by kernel_rfl) (by kernel_rfl) (by kernel_rfl) (by kernel_rfl) (fun _ _ _ h => h) (Or.inl ⟨by rfl, ?_⟩) (by assumption) ?_
            rotate_left 1
            · (intro w' hSw; obtain ⟨s1, s2, s3⟩ := hSw; go_simp); try with_reducible rfl
            try simp only [Act.put]
            refine wpAnyX_take (i := 4) (v := ?_) rfl (by kernel_rfl) (by kernel_rfl) (by kernel_rfl) (by kernel_rfl) (fun _ _ _ h => h) (Or.inl ⟨by rfl, ?_⟩) (by assumption) ?_
            rotate_left 1
            · (intro w' hSw; obtain ⟨s1, s2, s3⟩ := hSw; go_simp); try with_reducible rfl
            try simp only [Act.put]
            refine wpAnyX_take (i := 5) (v := ?_) rfl (by kernel_rfl) (by kernel_rfl) (by kernel_rfl) (by kernel_rfl) (fun _ _ _ h => h) (Or.inl ⟨by rfl, ?_⟩) (by assumption) ?_
            rotate_left 1
            · (intro w' hSw; obtain ⟨s1, s2, s3⟩ := hSw; go_simp); try with_reducible rfl
            try simp only [Act.put]
            refine wpAnyX_take (i := 6) (v := ?_) rfl (by kernel_rfl) (by kernel_rfl) (by kernel_rfl) (by kernel_rfl) (fun _ _ _ h => h) (Or.inl ⟨by rfl, ?_⟩) (by assumption) ?_
            rotate_left 1
            · (intro w' hSw; obtain ⟨s1, s2, s3⟩ := hSw; go_simp); try with_reducible rfl
            try simp only [Act.put]
            refine wpAnyX_take (i := 7) (v := ?_) rfl (by kernel_rfl) (by kernel_rfl) (by kernel_rfl) (by kernel_rfl) (fun _ _ _ h => h) (Or.inl ⟨by rfl, ?_⟩) (by assumption) ?_
            rotate_left 1
            · (intro w' hSw; obtain ⟨s1, s2, s3⟩ := hSw; go_simp); try with_reducible rfl
            try simp only [Act.put]
            refine wpAnyX_take (i := 8) (v := ?_) rfl (by kernel_rfl) (by kernel_rfl) (by kernel_rfl) (by kernel_rfl) (fun _ _ _ h => h) (Or.inl ⟨by rfl, ?_⟩) (by assumption) ?_
            rotate_left 1
            · (intro w' hSw; obtain ⟨s1, s2, s3⟩ := hSw; go_simp); try with_reducible rfl
            try simp only [Act.put]
            refine wpAnyX_take (i := 9) (v := ?_) rfl (by kernel_rfl) (by kernel_rfl) (by kernel_rfl) (by kernel_rfl) (fun _ _ _ h => h) (Or.inl ⟨by rfl, ?_⟩) (by assumption) ?_
            rotate_left 1
            · (intro w' hSw; obtain ⟨s1, s2, s3⟩ := hSw; go_simp); try with_reducible rfl
            try simp only [Act.put]
            refine wpAnyX_take (i := 10) (v := ?_) rfl (by kernel_rfl) (by kernel_rfl) (by kernel_rfl) (by kernel_rfl) (fun _ _ _ h => h) (Or.inl ⟨by rfl, ?_⟩) (by assumption) ?_
            rotate_left 1
            · (intro w' hSw; obtain ⟨s1, s2, s3⟩ := hSw; go_simp); try with_reducible rfl
            try simp only [Act.put]
            refine wpAnyX_take (i := 11) (v := ?_) rfl (by kernel_rfl) (by kernel_rfl) (by kernel_rfl) (by kernel_rfl) (fun _ _ _ h => h) (Or.inl ⟨by rfl, ?_⟩) (by assumption) ?_
            rotate_left 1
            · (intro w' hSw; obtain ⟨s1, s2, s3⟩ := hSw; go_simp); try with_reducible rfl
            try simp only [Act.put]
            refine wpAnyX_take (i := 12) (v := ?_) rfl (by kernel_rfl) (by kernel_rfl) (by kernel_rfl) (by kernel_rfl) (fun _ _ _ h => h) (Or.inl ⟨by rfl, ?_⟩) (by assumption) ?_
            rotate_left 1
            · (intro w' hSw; obtain ⟨s1, s2, s3⟩ := hSw; go_simp); try with_reducible rfl
            try simp only [Act.put]
            refine wpAnyX_take (i := 13) (v := ?_) rfl (by kernel_rfl) (by kernel_rfl) (by kernel_rfl) (by kernel_rfl) (fun _ _ _ h => h) (Or.inl ⟨by rfl, ?_⟩) (by assumption) ?_
            rotate_left 1
            · (intro w' hSw; obtain ⟨s1, s2, s3⟩ := hSw; go_simp); try with_reducible rfl
            try simp only [Act.put]
            refine wpAnyX_take (i := 14) (v := ?_) rfl (by kernel_rfl) (by kernel_rfl) (by kernel_rfl) (by kernel_rfl) (fun _ _ _ h => h) (Or.inl ⟨by rfl, ?_⟩) (by assumption) ?_
            rotate_left 1
            · (intro w' hSw; obtain ⟨s1, s2, s3⟩ := hSw; go_simp); try with_reducible rfl
            try simp only [Act.put]
            refine wpAnyX_take (i := 15) (v := ?_) rfl (by kernel_rfl) (by kernel_rfl) (by kernel_rfl) (by kernel_rfl) (fun _ _ _ h => h) (Or.inl ⟨by rfl, ?_⟩) (by assumption) ?_
            rotate_left 1
            · (intro w' hSw; obtain ⟨s1, s2, s3⟩ := hSw; go_simp); try with_reducible rfl
            try simp only [Act.put]
            refine wpAnyX_take (i := 16) (v := ?_) rfl (by kernel_rfl) (by kernel_rfl) (by kernel_rfl) (by kernel_rfl) (fun _ _ _ h => h) (Or.inl ⟨by rfl, ?_⟩) (by assumption) ?_
            rotate_left 1
            · (intro w' hSw; obtain ⟨s1, s2, s3⟩ := hSw; go_simp); try with_reducible rfl
            try simp only [Act.put]
            refine wpAnyX_take (i := 17) (v := ?_) rfl (by kernel_rfl) (by kernel_rfl) (by kernel_rfl) (by kernel_rfl) (fun _ _ _ h => h) (Or.inl ⟨by rfl, ?_⟩) (by assumption) ?_
            rotate_left 1
            · (intro w' hSw; obtain ⟨s1, s2, s3⟩ := hSw; go_simp); try with_reducible rfl
            try simp only [Act.put]
            refine wpAnyX_one (i := 18) rfl (by kernel_rfl) (fun K hK => ?_)
            go_simp
            refine hK.out _ _ (fun _ => ⟨(h06.drew.cell hBlt).trans c2'', (h06.drew.cell hg5).trans e2', (below_frozen h06.drew hg5).trans q2'⟩) ?_
            clear hK K
            try simp only [Act.put, List.setIfInBounds_toArray]
            refine wpAnyX_one (i := 19) rfl (by kernel_rfl) (fun K hK => ?_)
            refine step_append_from _ (by rfl) (.tmp 217) (.tmp 223) _ (by rfl) B 3 Tryd.underlying51 int_info rfl (by omega) (.slice A6 n6 c6) n6 x6 (by rfl) (by first | exact own_below HROW.out ((Below.refl wr.heap.size wr).alloc (Nat.le_refl _) _).drew | exact own_below HROW.out (below_drewN ((Below.refl wr.heap.size wr).alloc (Nat.le_refl _) _) _)) (some ⟨wr.heap.size, 0, none⟩) 1 1 [.int .i64 l5.length] (by rfl) (by rfl) (by simp) (by intro ad e; cases e; exact news_cells (cs := #[.int .i64 l5.length]) (by first | exact (Blk.new _ _ _).drew | exact (Blk.new _ _ _).drewN _)) (by simp [Value.oneCell']) (by unfold maxLen; omega) (by omega) (by simp; omega) ?_
            intro A7 c7 w6 own6 hg6 hat6
            have c26 := (far_cell h06.drew hg6 hBlt hBav.out).trans c2''
            have e26 := (far_cell h06.drew hg6 hg5 hgav.out).trans e2'
            have q26 := (far_frozen h06.drew hg6 hg5 hgav.out).trans q2'
            refine hK.out _ _ (fun _ => ⟨c26, e26, q26⟩) ?_
            clear hK K
            try simp only [Act.put, List.setIfInBounds_toArray]
            refine wpAnyX_one (i := 20) rfl (by kernel_rfl) (fun K hK => ?_)
            go_simp
            refine hK.out _ _ (fun _ => ⟨c26, e26, q26⟩) ?_
            clear hK K
            try simp only [Act.put, List.setIfInBounds_toArray]
            refine wpAnyX_one (i := 21) rfl (by kernel_rfl) (fun K hK => ?_)
            go_simp
            refine hK.out _ _ (fun _ => ⟨c26, e26, q26⟩) ?_
            clear hK K
            try simp only [Act.put, List.setIfInBounds_toArray]
            refine wpAnyX_one (i := 22) rfl (by kernel_rfl) (fun K hK => ?_)
            go_simp
            refine hK.out _ _ (fun h => absurd rfl h) ?_
            clear hK K
            try simp only [Act.put, List.setIfInBounds_toArray]
            refine wpAnyX_done (by kernel_rfl) ?_ _
            all_goals
              have hR7 := HARG.out _ w6 h06.drew _ (by rw [hn6, hx6]; exact own6) (by rw [hn6]; exact hg6) (by rw [hn6]; simpa using hat6)
              have hB7 : Below B w (w6.setCell ⟨g5, ts.length * 3 + 2, none⟩ (.slice A7 (n6 + 1) c7)) := ((((HBl.out.alloc (Nat.le_of_lt hBlt) _).drew).grown hg6 (by simp; omega) (fun b e => hbRow.out b e))).setCell (p := ⟨g5, ts.length * 3 + 2, none⟩) hBg5 _
              have HB7 := Lib.hid hB7
              clear hB7 HARG h06 hg6 hat6 own6 c26 e26 q26 hHeld c2'' e2' q2' hgB5 hgB6 hgav hBav HROW hbRow m1 m2 hcap5 hcap6
              go_wp2_with fail
              refine (HIH.out j5 (addArg l5 ts.length l5.length) _ hij5 (by simp [hn5]) hR7).mono ?_
              rintro e8 w8 ⟨err, j8, l8, rfl, hR8, hb8, hS8⟩
              rw [← HL5.out] at hS8
              have HB8 := Lib.hid (HB7.out.trans hb8)
              have HR8 := Lib.hid hR8; have HS8 := Lib.hid hS8
              clear hR7 hR8 hS8 hb8 HB7
              by_cases herr : err = 0
              · subst herr
                go_wp2_with fail
                refine (is_any B s j8 l8 41 _ hs HR8.out).mono ?_
                rintro e9 w9 ⟨hb9, hcase⟩
                rcases hcase with ⟨rfl, hyes, hR9⟩ | ⟨rfl, hno, hR9⟩
                · have hfin := Lib.hid (arg_close HA.out HS8.out (byte_some (n := 41) (by omega) hyes))
                  have HR9 := Lib.hid hR9; have HB9 := Lib.hid (HB8.out.trans hb9)
                  clear hyes hR9 hb9
                  go_wp2
                  go_ret
                  exact ⟨0, j8 + 1, l8, rfl, HR9.out, HB9.out, hfin.out⟩
                · have HB9 := Lib.hid (HB8.out.trans hb9); have HN := Lib.hid hno
                  clear hno hb9
                  go_wp2_with fail
                  refine (is_any B s j8 l8 44 _ hs hR9).mono ?_
                  rintro e10 w10 ⟨hb10, hcase⟩
                  rcases hcase with ⟨rfl, hyes, hR10⟩ | ⟨rfl, hno2, hR10⟩
                  · obtain ⟨t', r', e, hlt', hA'⟩ := arg_next HA.out HS8.out (byte_none (n := 41) (by omega) HN.out) (byte_some (n := 44) (by omega) hyes)
                    have hm := Lib.hid (meas5 hR10 HRd.out (arg_lt hA') hlt')
                    rw [e] at hR10
                    have HR10 := Lib.hid hR10; have HB10 := Lib.hid (HB9.out.trans hb10); have HA' := Lib.hid hA'
                    clear hyes hR10 hb10 hR9 hA' hlt' e
                    go_wp2
                    go_roundg (s.size - atOf B w10)
                    case measure => exact Nat.lt_of_lt_of_le hm.out Hg0.out
                    case rel => exact ⟨Nat.le_refl _, j8 + 1, t', r', HR10.out, HB10.out, HA'.out⟩
                  · have hfin := Lib.hid (arg_bad HA.out HS8.out (byte_none (n := 41) (by omega) HN.out) (byte_none (n := 44) (by omega) hno2))
                    have HR10 := Lib.hid hR10; have HB10 := Lib.hid (HB9.out.trans hb10)
                    clear hno2 hR10 hb10 hR9
                    go_wp2
                    go_ret
                    exact ⟨2, j8, l8, rfl, HR10.out, HB10.out, hfin.out⟩
              · have hfin := Lib.hid (arg_err HA.out herr HS8.out)
                have he1 : (err == 0) = false := beq_eq_false_iff_ne.2 herr
                have he2 : (err != 0) = true := bne_iff_ne.2 herr
                clear herr
                go_wp2
                go_ret
                exact ⟨err, j8, l8, rfl, HR8.out, HB8.out, hfin.out⟩
        · have hS := sim_name hlt h63 hl hlen he.out hij' hj (byte_none (n := 40) (by omega) hno)
          rw [HNM.out] at hS
          have HS := Lib.hid hS; have HR5 := Lib.hid hR5
          clear hS hno hR5 hnm
          go_wp2
          go_ret
          exact ⟨0, j, _, rfl, HR5.out, HB5.out, HS.out⟩
      · have hp : Hid (nameP s i j = true) := Lib.hid (by rw [hcut.out, hr])
        go_wp2
        go_quiet ((go_at_call 23; exact quiet_left (right_any t' _ htz')))
        rw [hr]
        clear k1 k2 k3 k4 k5 ht hr
        go_wp2
        go_roundw
        case rel => exact ⟨j + 1, HRD.out _, HBL.out _, by omega, names_next HL.out.2.2.2 hp.out⟩
        case measure => exact meas_lt (HRD.out _) HL.out.1 hjt
    · have hp : Hid (nameP s i j = false) := Lib.hid (by simp [nameP, hjt])
      have hj2 : decide ((j : Int) < s.size) = false := decide_eq_false (by omega)
      go_wp2
      go_quiet (fail)
      have he := Lib.hid (name_end HL.out.2.2.1 hj HL.out.2.2.2 hp.out)
      have hij' : i < j := by
        rcases Nat.lt_or_eq_of_le hij with h | h
        · exact h
        · exact absurd (nameP_first hlt hl) (by subst h; rw [hp.out]; decide)
      obtain ⟨nm, hnm⟩ : ∃ nm, s.extract i j = nm := ⟨_, rfl⟩
      have HNM := Lib.hid hnm
      obtain ⟨_, v4, hb, ho⟩ := HL.out.1
      obtain ⟨g, cap, av, rfl, hBg, hg, e0, e1, e2, q0, q1, q2, _, _, hcap, hcap2⟩ := ho.at_ (i := ts.length) (by simp)
      have c2' := hb.cell 2
      simp at c2' e0 e1 e2
      have k1 : (0 : Int) ≤ (j : Int) := by omega
      have k2 : (i : Int) ≤ j := by omega
      have k3 : (j : Int) ≤ s.size := by omega
      have HST := Lib.hid (fun nq : Nat => Rd.stored (k := 1) (u := .string nm) (t := ⟨0, nm, []⟩) HL.out.1.1 (hb.drewN nq) (ho.drewN nq) (i := ts.length) (by simp) (by decide) (by simp [TN.zero]) (by intro a; simp [nodeCells, TN.zero]))
      have HBL2 := Lib.hid (fun nq : Nat => (below_drewN HL.out.2.1 nq).setCell (p := ⟨g, ts.length * 3 + 1, none⟩) hBg (.string nm))
      have m1 : (0 : Int) ≤ ts.length := by omega
      have m2 : (ts.length : Int) < (ts.length : Int) + 1 := by omega
      have hgB : g ≠ B := fun e => ho.ne_blk hb (by decide) (by rw [e]; rfl)
      have hgB' : B ≠ g := fun e => hgB e.symm
      clear ho hb c2
      go_wp2
      go_region_held3 (fun w' => w'.cell? ⟨B, 0, none⟩ = some (.string s) ∧ w'.cell? ⟨B, 1, none⟩ = some (.int .i64 j) ∧ w'.cell? ⟨B, 2, none⟩ = some (.slice (some ⟨g, 0, none⟩) (ts.length + 1) cap) ∧ w'.frozen? ⟨g, ts.length * 3 + 1, none⟩ = false) (go_keep) (fail)
      go_wp2_with fail
      have hR4 := HST.out (nq + 1)
      rw [set_last rfl] at hR4
      clear e0 e1 e2 q0 q1 q2 k1 k2 k3 m1 m2 hgB hgB' c0 c1' c2' f1
      refine (is_any B s j (ts ++ [⟨0, nm, []⟩]) 40 _ hs hR4).mono ?_
      rintro e w5 ⟨hb5, hcase⟩
      have hbel5 : Below B w w5 := (HBL2.out (nq + 1)).trans hb5
      have HB5 := Lib.hid hbel5
      clear hbel5 hb5 hR4
      rcases hcase with ⟨rfl, hyes, hR5⟩ | ⟨rfl, hno, hR5⟩
      · have hA := arg_start hlt h63 hl hlen he.out hij' (byte_some (n := 40) (by omega) hyes)
        rw [HNM.out] at hA
        have HA := Lib.hid hA; have HR5 := Lib.hid hR5
        clear hA hyes hR5 hnm HL HST HBL2
        go_wp2_with fail
        go_loopg [] s.size (fun g wr => s.size - atOf B wr ≤ g ∧ ArgL B s i ts w wr)
        case atStart => exact ⟨Nat.sub_le _ _, j + 1, _, [], HR5.out, HB5.out, HA.out⟩
        case round =>
          clear HA HR5 HB5 he hp HNM
          obtain ⟨hg0, j5, t5, r5, hRd, hbl5, hA⟩ := hrel
          have Hg0 := Lib.hid hg0; clear hg0
          obtain ⟨l5, hl5⟩ : ∃ l5, ts ++ t5 :: r5 = l5 := ⟨_, rfl⟩
          rw [hl5] at hRd
          have hown5 : ts.length < l5.length := by rw [← hl5]; simp
          have hn5 : l5.length ≤ 256 := by rw [← hl5]; exact hA.2.2.1
          have ha5 : l5[ts.length].args.length < 256 := by
            have h1 := hA.2.2.1; have h2 := hA.2.2.2.1
            subst hl5; simp at h1 ⊢; omega
          have hij5 := hA.1
          have HRd := Lib.hid hRd; have HBl := Lib.hid hbl5; have HA := Lib.hid hA; have HL5 := Lib.hid hl5
          clear hA hbl5 hl5
          obtain ⟨hj5, v6, hb, ho⟩ := hRd
          obtain ⟨g5, cap5, av5, rfl, hBg5, hg5, _, _, e2', _, _, q2', hrow, ⟨A6, c6, rfl⟩, hcap5, hcap6⟩ := ho.at_ hown5
          obtain ⟨n6, hn6⟩ : ∃ n6, l5[ts.length].args.length = n6 := ⟨_, rfl⟩
          obtain ⟨x6, hx6⟩ : ∃ x6 : List Value, l5[ts.length].args.map (.int .i64) = x6 := ⟨_, rfl⟩
          rw [hn6] at ha5
          have hgB5 : g5 ≠ B := fun e => ho.ne_blk hb (by decide) (by rw [e]; rfl)
          have hgB6 : B ≠ g5 := fun e => hgB5 e.symm
          have hgav := Lib.hid (ho.ne_arg (by decide) hrow); have hBav := Lib.hid (own_ne_blk hrow hb (by decide))
          have HROW := Lib.hid hrow
          have HARG := Lib.hid (fun (w0 w1 : World) (h0 : Below wr.heap.size wr w0) (av' : Value) h1 hg hat => Rd.argued (w0 := w0) (w1 := w1) (av' := av') (x := l5.length) hj5 hb ho h0 hown5 e2' hrow h1 hg hat)
          rw [hn6, hx6] at HROW
          rw [hn6] at hgav hBav e2'
          have c2'' := hb.cell 2
          have hBlt := hb.lt
          simp at c2''
          have m1 : (0 : Int) ≤ ts.length := by omega
          have m2 : (ts.length : Int) < (l5.length : Int) := by omega
          have hbRow := Lib.hid (own_lo HROW.out)
          clear hb ho hrow
          have h06 : Below wr.heap.size wr (wr.alloc (.cells #[.int .i64 l5.length] 3)) := (Below.refl wr.heap.size wr).alloc (Nat.le_refl _) _
          go_upto_region 25 with fail
          refine wp_region_X (S := (fun w' => w'.cell? ⟨B, 2, none⟩ = some (.slice (some ⟨g5, 0, none⟩) l5.length cap5) ∧ w'.cell? ⟨g5, ts.length * 3 + 2, none⟩ = some (.slice A6 n6 c6) ∧ w'.frozen? ⟨g5, ts.length * 3 + 2, none⟩ = false)) 22 (by kernel_rfl) ⟨c2'', e2', q2'⟩ (fun hHeld => ?_)
          refine wpAnyX_take (i := 0) (v := ?_) rfl (by kernel_rfl) (by kernel_rfl) (by kernel_rfl) (by kernel_rfl) (fun _ _ _ h => h) (Or.inl ⟨by rfl, ?_⟩) (by assumption) ?_
          rotate_left 1
          · (intro w' hSw; obtain ⟨s1, s2, s3⟩ := hSw; go_simp); try with_reducible rfl
          try simp only [Act.put, List.setIfInBounds_toArray]
          refine wpAnyX_take (i := 1) (v := ?_) rfl (by kernel_rfl) (by kernel_rfl) (by kernel_rfl) (by kernel_rfl) (fun _ _ _ h => h) (Or.inl ⟨by rfl, ?_⟩) (by assumption) ?_
          rotate_left 1
          · (intro w' hSw; obtain ⟨s1, s2, s3⟩ := hSw; go_simp); try with_reducible rfl
          try simp only [Act.put]
          refine wpAnyX_take (i := 2) (v := ?_) rfl (by kernel_rfl) (by kernel_rfl) (by kernel_rfl) (by kernel_rfl) (fun _ _ _ h => h) (Or.inl ⟨by rfl, ?_⟩) (by assumption) ?_
          rotate_left 1
          · (intro w' hSw; obtain ⟨s1, s2, s3⟩ := hSw; go_simp); try with_reducible rfl
          try simp only [Act.put]
          refine wpAnyX_take (i := 3) (v := ?_) rfl (by kernel_rfl) (by kernel_rfl) (by kernel_rfl) (by kernel_rfl) (fun _ _ _ h => h) (Or.inl ⟨by rfl, ?_⟩) (by assumption) ?_
          rotate_left 1
          · (intro w' hSw; obtain ⟨s1, s2, s3⟩ := hSw; go_simp); try with_reducible rfl
          try simp only [Act.put]
          refine wpAnyX_take (i := 4) (v := ?_) rfl (by kernel_rfl) (by kernel_rfl) (by kernel_rfl) (by kernel_rfl) (fun _ _ _ h => h) (Or.inl ⟨by rfl, ?_⟩) (by assumption) ?_
          rotate_left 1
          · (intro w' hSw; obtain ⟨s1, s2, s3⟩ := hSw; go_simp); try with_reducible rfl
          try simp only [Act.put]
          refine wpAnyX_take (i := 5) (v := ?_) rfl (by kernel_rfl) (by kernel_rfl) (by kernel_rfl) (by kernel_rfl) (fun _ _ _ h => h) (Or.inl ⟨by rfl, ?_⟩) (by assumption) ?_
          rotate_left 1
          · (intro w' hSw; obtain ⟨s1, s2, s3⟩ := hSw; go_simp); try with_reducible rfl
          try simp only [Act.put]
          refine wpAnyX_take (i := 6) (v := ?_) rfl (by kernel_rfl) (by kernel_rfl) (by kernel_rfl) (by kernel_rfl) (fun _ _ _ h => h) (Or.inl ⟨by rfl, ?_⟩) (by assumption) ?_
          rotate_left 1
          · (intro w' hSw; obtain ⟨s1, s2, s3⟩ := hSw; go_simp); try with_reducible rfl
          try simp only [Act.put]
          refine wpAnyX_take (i := 7) (v := ?_) rfl (by kernel_rfl) (by kernel_rfl) (by kernel_rfl) (by kernel_rfl) (fun _ _ _ h => h) (Or.inl ⟨by rfl, ?_⟩) (by assumption) ?_
          rotate_left 1
          · (intro w' hSw; obtain ⟨s1, s2, s3⟩ := hSw; go_simp); try with_reducible rfl
          try simp only [Act.put]
          refine wpAnyX_take (i := 8) (v := ?_) rfl (by kernel_rfl) (by kernel_rfl) (by kernel_rfl) (by kernel_rfl) (fun _ _ _ h => h) (Or.inl ⟨by rfl, ?_⟩) (by assumption) ?_
          rotate_left 1
          · (intro w' hSw; obtain ⟨s1, s2, s3⟩ := hSw; go_simp); try with_reducible rfl
          try simp only [Act.put]
          refine wpAnyX_take (i := 9) (v := ?_) rfl (by kernel_rfl) (by kernel_rfl) (by kernel_rfl) (by kernel_rfl) (fun _ _ _ h => h) (Or.inl ⟨by rfl, ?_⟩) (by assumption) ?_
          rotate_left 1
          · (intro w' hSw; obtain ⟨s1, s2, s3⟩ := hSw; go_simp); try with_reducible rfl
          try simp only [Act.put]
          refine wpAnyX_take (i := 10) (v := ?_) rfl (by kernel_rfl) (by kernel_rfl) (by kernel_rfl) (by kernel_rfl) (fun _ _ _ h => h) (Or.inl ⟨by rfl, ?_⟩) (by assumption) ?_
          rotate_left 1
          · (intro w' hSw; obtain ⟨s1, s2, s3⟩ := hSw; go_simp); try with_reducible rfl
          try simp only [Act.put]
          refine wpAnyX_take (i := 11) (v := ?_) rfl (by kernel_rfl) (by kernel_rfl) (by kernel_rfl) (by kernel_rfl) (fun _ _ _ h => h) (Or.inl ⟨by rfl, ?_⟩) (by assumption) ?_
          rotate_left 1
          · (intro w' hSw; obtain ⟨s1, s2, s3⟩ := hSw; go_simp); try with_reducible rfl
          try simp only [Act.put]
          refine wpAnyX_take (i := 12) (v := ?_) rfl (by kernel_rfl) (by kernel_rfl) (by kernel_rfl) (by kernel_rfl) (fun _ _ _ h => h) (Or.inl ⟨by rfl, ?_⟩) (by assumption) ?_
          rotate_left 1
          · (intro w' hSw; obtain ⟨s1, s2, s3⟩ := hSw; go_simp); try with_reducible rfl
          try simp only [Act.put]
          refine wpAnyX_take (i := 13) (v := ?_) rfl (by kernel_rfl) (by kernel_rfl) (by kernel_rfl) (by kernel_rfl) (fun _ _ _ h => h) (Or.inl ⟨by rfl, ?_⟩) (by assumption) ?_
          rotate_left 1
          · (intro w' hSw; obtain ⟨s1, s2, s3⟩ := hSw; go_simp); try with_reducible rfl
          try simp only [Act.put]
          refine wpAnyX_take (i := 14) (v := ?_) rfl (by kernel_rfl) (by kernel_rfl) (by kernel_rfl) (by kernel_rfl) (fun _ _ _ h => h) (Or.inl ⟨by rfl, ?_⟩) (by assumption) ?_
          rotate_left 1
          · (intro w' hSw; obtain ⟨s1, s2, s3⟩ := hSw; go_simp); try with_reducible rfl
          try simp only [Act.put]
          refine wpAnyX_take (i := 15) (v := ?_) rfl (by kernel_rfl) (by kernel_rfl) (by kernel_rfl) (by kernel_rfl) (fun _ _ _ h => h) (Or.inl ⟨by rfl, ?_⟩) (by assumption) ?_
          rotate_left 1
          · (intro w' hSw; obtain ⟨s1, s2, s3⟩ := hSw; go_simp); try with_reducible rfl
          try simp only [Act.put]
          refine wpAnyX_take (i := 16) (v := ?_) rfl (by kernel_rfl) (by kernel_rfl) (by kernel_rfl) (by kernel_rfl) (fun _ _ _ h => h) (Or.inl ⟨by rfl, ?_⟩) (by assumption) ?_
          rotate_left 1
          · (intro w' hSw; obtain ⟨s1, s2, s3⟩ := hSw; go_simp); try with_reducible rfl
          try simp only [Act.put]
          refine wpAnyX_take (i := 17) (v := ?_) rfl (by kernel_rfl) (by kernel_rfl) (by kernel_rfl) (by kernel_rfl) (fun _ _ _ h => h) (Or.inl ⟨by rfl, ?_⟩) (by assumption) ?_
          rotate_left 1
          · (intro w' hSw; obtain ⟨s1, s2, s3⟩ := hSw; go_simp); try with_reducible rfl
          try simp only [Act.put]
          refine wpAnyX_one (i := 18) rfl (by kernel_rfl) (fun K hK => ?_)
          go_simp
          refine hK.out _ _ (fun _ => ⟨(h06.drew.cell hBlt).trans c2'', (h06.drew.cell hg5).trans e2', (below_frozen h06.drew hg5).trans q2'⟩) ?_
          clear hK K
          try simp only [Act.put, List.setIfInBounds_toArray]
          refine wpAnyX_one (i := 19) rfl (by kernel_rfl) (fun K hK => ?_)
          refine step_append_from _ (by rfl) (.tmp 217) (.tmp 223) _ (by rfl) B 3 Tryd.underlying51 int_info rfl (by omega) (.slice A6 n6 c6) n6 x6 (by rfl) (by first | exact own_below HROW.out ((Below.refl wr.heap.size wr).alloc (Nat.le_refl _) _).drew | exact own_below HROW.out (below_drewN ((Below.refl wr.heap.size wr).alloc (Nat.le_refl _) _) _)) (some ⟨wr.heap.size, 0, none⟩) 1 1 [.int .i64 l5.length] (by rfl) (by rfl) (by simp) (by intro ad e; cases e; exact news_cells (cs := #[.int .i64 l5.length]) (by first | exact (Blk.new _ _ _).drew | exact (Blk.new _ _ _).drewN _)) (by simp [Value.oneCell']) (by unfold maxLen; omega) (by omega) (by simp; omega) ?_
          intro A7 c7 w6 own6 hg6 hat6
          have c26 := (far_cell h06.drew hg6 hBlt hBav.out).trans c2''
          have e26 := (far_cell h06.drew hg6 hg5 hgav.out).trans e2'
          have q26 := (far_frozen h06.drew hg6 hg5 hgav.out).trans q2'
          refine hK.out _ _ (fun _ => ⟨c26, e26, q26⟩) ?_
          clear hK K
          try simp only [Act.put, List.setIfInBounds_toArray]
          refine wpAnyX_one (i := 20) rfl (by kernel_rfl) (fun K hK => ?_)
          go_simp
          refine hK.out _ _ (fun _ => ⟨c26, e26, q26⟩) ?_
          clear hK K
          try simp only [Act.put, List.setIfInBounds_toArray]
          refine wpAnyX_one (i := 21) rfl (by kernel_rfl) (fun K hK => ?_)
          go_simp
          refine hK.out _ _ (fun _ => ⟨c26, e26, q26⟩) ?_
          clear hK K
          try simp only [Act.put, List.setIfInBounds_toArray]
          refine wpAnyX_one (i := 22) rfl (by kernel_rfl) (fun K hK => ?_)
          go_simp
          refine hK.out _ _ (fun h => absurd rfl h) ?_
          clear hK K
          try simp only [Act.put, List.setIfInBounds_toArray]
          refine wpAnyX_done (by kernel_rfl) ?_ _
          all_goals
            have hR7 := HARG.out _ w6 h06.drew _ (by rw [hn6, hx6]; exact own6) (by rw [hn6]; exact hg6) (by rw [hn6]; simpa using hat6)
            have hB7 : Below B w (w6.setCell ⟨g5, ts.length * 3 + 2, none⟩ (.slice A7 (n6 + 1) c7)) := ((((HBl.out.alloc (Nat.le_of_lt hBlt) _).drew).grown hg6 (by simp; omega) (fun b e => hbRow.out b e))).setCell (p := ⟨g5, ts.length * 3 + 2, none⟩) hBg5 _
            have HB7 := Lib.hid hB7
            clear hB7 HARG h06 hg6 hat6 own6 c26 e26 q26 hHeld c2'' e2' q2' hgB5 hgB6 hgav hBav HROW hbRow m1 m2 hcap5 hcap6
            go_wp2_with fail
            refine (HIH.out j5 (addArg l5 ts.length l5.length) _ hij5 (by simp [hn5]) hR7).mono ?_
            rintro e8 w8 ⟨err, j8, l8, rfl, hR8, hb8, hS8⟩
            rw [← HL5.out] at hS8
            have HB8 := Lib.hid (HB7.out.trans hb8)
            have HR8 := Lib.hid hR8; have HS8 := Lib.hid hS8
            clear hR7 hR8 hS8 hb8 HB7
            by_cases herr : err = 0
            · subst herr
              go_wp2_with fail
              refine (is_any B s j8 l8 41 _ hs HR8.out).mono ?_
              rintro e9 w9 ⟨hb9, hcase⟩
              rcases hcase with ⟨rfl, hyes, hR9⟩ | ⟨rfl, hno, hR9⟩
              · have hfin := Lib.hid (arg_close HA.out HS8.out (byte_some (n := 41) (by omega) hyes))
                have HR9 := Lib.hid hR9; have HB9 := Lib.hid (HB8.out.trans hb9)
                clear hyes hR9 hb9
                go_wp2
                go_ret
                exact ⟨0, j8 + 1, l8, rfl, HR9.out, HB9.out, hfin.out⟩
              · have HB9 := Lib.hid (HB8.out.trans hb9); have HN := Lib.hid hno
                clear hno hb9
                go_wp2_with fail
                refine (is_any B s j8 l8 44 _ hs hR9).mono ?_
                rintro e10 w10 ⟨hb10, hcase⟩
                rcases hcase with ⟨rfl, hyes, hR10⟩ | ⟨rfl, hno2, hR10⟩
                · obtain ⟨t', r', e, hlt', hA'⟩ := arg_next HA.out HS8.out (byte_none (n := 41) (by omega) HN.out) (byte_some (n := 44) (by omega) hyes)
                  have hm := Lib.hid (meas5 hR10 HRd.out (arg_lt hA') hlt')
                  rw [e] at hR10
                  have HR10 := Lib.hid hR10; have HB10 := Lib.hid (HB9.out.trans hb10); have HA' := Lib.hid hA'
                  clear hyes hR10 hb10 hR9 hA' hlt' e
                  go_wp2
                  go_roundg (s.size - atOf B w10)
                  case measure => exact Nat.lt_of_lt_of_le hm.out Hg0.out
                  case rel => exact ⟨Nat.le_refl _, j8 + 1, t', r', HR10.out, HB10.out, HA'.out⟩
                · have hfin := Lib.hid (arg_bad HA.out HS8.out (byte_none (n := 41) (by omega) HN.out) (byte_none (n := 44) (by omega) hno2))
                  have HR10 := Lib.hid hR10; have HB10 := Lib.hid (HB9.out.trans hb10)
                  clear hno2 hR10 hb10 hR9
                  go_wp2
                  go_ret
                  exact ⟨2, j8, l8, rfl, HR10.out, HB10.out, hfin.out⟩
            · have hfin := Lib.hid (arg_err HA.out herr HS8.out)
              have he1 : (err == 0) = false := beq_eq_false_iff_ne.2 herr
              have he2 : (err != 0) = true := bne_iff_ne.2 herr
              clear herr
              go_wp2
              go_ret
              exact ⟨err, j8, l8, rfl, HR8.out, HB8.out, hfin.out⟩
      · have hS := sim_name hlt h63 hl hlen he.out hij' hj (byte_none (n := 40) (by omega) hno)
        rw [HNM.out] at hS
        have HS := Lib.hid hS; have HR5 := Lib.hid hR5
        clear hS hno hR5 hnm
        go_wp2
        go_ret
        exact ⟨0, j, _, rfl, HR5.out, HB5.out, HS.out⟩
end Go.Proofs.YtgcbnndbeoekgaaDoor
