import Derived.Test.YtgcbnndbeoekgaaDoorApplyP
import Derived.Test.YtgcbnndbeoekgaaDoorWide
import Derived.Test.YtgcbnndbeoekgaaDoorNodesX
import Derived.Test.YtgcbnndbeoekgaaDoorMayU
set_option linter.unusedSimpArgs false
set_option linter.unusedVariables false
section
/- the document's copy of a term -/
namespace Go.Proofs.YtgcbnndbeoekgaaDoor
open Go Go.RowKit

end Go.Proofs.YtgcbnndbeoekgaaDoor
end
section
/- unify.put: a node is laid out, with what stands for holes -/
namespace Go.Proofs.YtgcbnndbeoekgaaDoor
open Go Go.RowKit Go.Maps

/-- a hole that is bound, or a node with its arguments -/
theorem node_form {l : List TN} {o : Nat} {T : Fo} {σ : Nat → Option Fo} (h1 : T.one) (hw : T.wf) (hs : Seg l o T) (hσ : Ones σ) :
    (∃ n Y, T = .hole n .nil ∧ σ n = some Y ∧ n ≤ 2147483647 ∧ ∃ hi : o < l.length, l[o].var = (n : Int)) ∨
    ∃ (n : Nat) (nm : ByteArray) (K : Fo), (∃ hi : o < l.length, l[o] = ⟨n, nm, K.offs (o + 1)⟩) ∧ n ≤ 2147483647 ∧ σ n = none ∧ K.wf ∧ Seg l (o + 1) K ∧ K.size < T.size ∧ (T.sub σ).size = 1 + (K.sub σ).size ∧ ∀ q, (T.sub σ).flat q = ⟨n, nm, (K.sub σ).offs (q + 1)⟩ :: (K.sub σ).flat (q + 1) := by
  rcases Fo.one_cases h1 with ⟨n, rfl⟩ | ⟨nm, K, rfl⟩
  · obtain ⟨hi, hat⟩ := hs.hole
    cases e : σ n with
    | some Y => exact .inl ⟨n, Y, rfl, e, hw.2.1, hi, by rw [hat]⟩
    | none =>
      refine .inr ⟨n, ByteArray.empty, .nil, ⟨hi, hat⟩, hw.2.1, e, trivial, ⟨l.drop (o + 1), rfl⟩, by show 0 < 1 + 0; omega, ?_, fun q => ?_⟩
      · rw [Fo.sub_hole, stood_none e]; rfl
      · rw [Fo.sub_hole, stood_none e]; rfl
  · obtain ⟨⟨hi, hat⟩, hsK⟩ := hs.app
    exact .inr ⟨0, nm, K, ⟨hi, hat⟩, by omega, hσ.1, hw.2.1, hsK, by show K.size < 1 + K.size + 0; omega, by show 1 + (K.sub σ).size + 0 = _; omega, fun q => by show _ :: ((K.sub σ).flat (q + 1) ++ []) = _; rw [List.append_nil]; rfl⟩
theorem set_mid (ts : List TN) (t t' : TN) (r : List TN) : (ts ++ t :: r).set ts.length t' = ts ++ t' :: r := by simp
theorem sub_none : ∀ T : Fo, T.sub (fun _ => none) = T
  | .nil => rfl
  | .hole n r => by show (stood (fun _ => none) n).app2 (r.sub _) = _; rw [sub_none r]; rfl
  | .app nm k r => by show Fo.app nm (k.sub _) (r.sub _) = _; rw [sub_none k, sub_none r]
/-- what is answered: the nodes laid behind those that there were -/
def PutPost (w : World) (B : Nat) (v : Value) (ts new : List TN) (X : Nat → Prop) (e : Ending) (w' : World) : Prop :=
  ∃ A' c', e = .returned (.slice A' (ts.length + new.length) c') ∧ OwnX 58 3 w' B (.slice A' (ts.length + new.length) c') (ts ++ new) X ∧ w.grownBy w' v.ownBlock ∧
    ((Value.slice A' (ts.length + new.length) c').ownBlock = v.ownBlock ∨ ∀ g, (Value.slice A' (ts.length + new.length) c').ownBlock = some g → w.heap.size ≤ g)
/-- what a map of what stands for holes answers, in all worlds that leave all below B -/
structure Stands (w0 : World) (B : Nat) (F : Nat → Prop) (v3 : Value) (σ : Nat → Option Fo) (val : Nat → Value) : Prop where
  ones : Ones σ
  run : ∀ w', Below B w0 w' → ∀ n : Nat, n ≤ 2147483647 → (Instr.lookup 77 v3 (.int .i64 n) false).run Tryd.prog w' = .ok (val n) w'
  none_ : ∀ n : Nat, σ n = none → val n = .slice none 0 0
  some_ : ∀ (n : Nat) Y, σ n = some Y → ∃ b off c, val n = .slice (some ⟨b, off, none⟩) (Y.flat 0).length c ∧ RowOf 3 ETN w0 F (some ⟨b, off, none⟩) (Y.flat 0) ∧ (Y.flat 0).length ≤ c ∧ c ≤ maxLen ∧ Y.one ∧ Y.wf ∧ Y.size ≤ 256
/-- put does what is said, of trees of at most so many nodes -/
def PutOk (w0 : World) (B : Nat) (F : Nat → Prop) (v3 : Value) (σ : Nat → Option Fo) (d : Nat) : Prop :=
  ∀ (A : Option Addr) (c : Nat) (l : List TN) (T : Fo) (o : Nat) (v : Value) (ts : List TN) (X : Nat → Prop) (w : World), T.size ≤ d → T.one → T.wf → Seg l o T → l.length ≤ c → c ≤ maxLen → RowOf 3 ETN w0 F A l → Below B w0 w → OwnX 58 3 w B v ts X → (∀ b, X b → b < w.heap.size) → ts.length + (T.sub σ).size ≤ 256 →
    Calls Tryd.prog 33 #[v, .slice A l.length c, .int .i64 o, v3] w (PutPost w B v ts ((T.sub σ).flat ts.length) X)

set_option maxRecDepth 100000 in
set_option maxHeartbeats 8000000 in
theorem put15_step (w0 : World) (B : Nat) (F : Nat → Prop) (hF : ∀ b, F b → b < B) (hB0 : B ≤ w0.heap.size) (v3 : Value) (hv3 : ∃ a, v3 = .map a) (σ : Nat → Option Fo) (val : Nat → Value) (hst : Stands w0 B F v3 σ val)
    (hsub : ∀ n Y, σ n = some Y → PutOk w0 B F (.map none) (fun _ => none) Y.size) (d : Nat) : PutOk w0 B F v3 σ d := by
  induction d with
  | zero => intro A c l T o v ts X w hd h1; have := Fo.one_size h1; omega
  | succ d ih =>
    intro A c l T o v ts X w hd h1 hw hsg hlc hc hr hb hown hX h256
    obtain ⟨a3, rfl⟩ := hv3
    have hTs := hsg.le (Fo.one_size h1)
    have hol : o < l.length := by have := Fo.one_size h1; omega
    have hF0 : ∀ b, F b → b < w0.heap.size := fun b h => Nat.lt_of_lt_of_le (hF b h) hB0
    obtain ⟨b, off, S, k, rfl, hbF, d0, d1, d2, hk1, hk2, hrow⟩ := nodes_at hr hol
    have hbB := hF b hbF
    have d0 := (hb.cell (p := ⟨b, off + o * 3, none⟩) hbB).trans d0
    have d1 := (hb.cell (p := ⟨b, off + o * 3 + 1, none⟩) hbB).trans d1
    have d2 := (hb.cell (p := ⟨b, off + o * 3 + 2, none⟩) hbB).trans d2
    have o0 : (0 : Int) ≤ o := by omega
    have o1 : (o : Int) < l.length := by omega
    have hcm := hc
    unfold maxLen at hc
    obtain ⟨Av, cv, rfl⟩ := hown.shape
    have HOWN := Lib.hid hown; have HB := Lib.hid hb; have HXX := Lib.hid hX
    have hBw : B ≤ w.heap.size := Nat.le_trans hB0 hb.size
    rcases node_form h1 hw hsg hst.ones with ⟨n, Y, rfl, hn1, hn2, hi, hvar⟩ | ⟨n, nm, K, ⟨_, hat⟩, hn2, hn1, hwK, hsK, hKT, hTsz, hTfl⟩
    · obtain ⟨b3, off3, c3, e1, e2, e3, e4, e5, e6, e7⟩ := hst.some_ n Y hn1
      rw [hvar] at d0
      have hlk := hst.run w hb n hn2
      rw [e1] at hlk
      have hYs : (fun _ => none : Nat → Option Fo) = fun _ => none := rfl
      have HRES : Hid ((Fo.hole n .nil).sub σ = Y) := Lib.hid (by rw [Fo.sub_hole, stood_some hn1])
      rw [HRES.out] at h256 ⊢
      have hYn : Y.sub (fun _ => none) = Y := sub_none Y
      have HCALL : Hid (Calls Tryd.prog 33 #[.slice Av ts.length cv, .slice (some ⟨b3, off3, none⟩) (Y.flat 0).length c3, .int .i64 ((0 : Nat) : Int), .map none] w (PutPost w B (.slice Av ts.length cv) ts (Y.flat ts.length) X)) := Lib.hid (by
        have := hsub n Y hn1 (some ⟨b3, off3, none⟩) c3 (Y.flat 0) Y 0 _ ts X w (Nat.le_refl _) e5 e6 (Seg.whole Y) e3 e4 e2 hb hown hX (by rw [hYn]; exact h256)
        rw [hYn] at this
        exact this)
      obtain ⟨yl, hyl⟩ : ∃ yl, (Y.flat 0).length = yl := ⟨_, rfl⟩
      rw [hyl] at HCALL hlk
      clear ih hst hsub hown hX hr hrow h1 hw hsg hd hTs e1 e2 e3 e4 e5 e6 e7 hn1 hn2 hyl hb hvar hYs hYn
      go_enter Tryd.func33, Tryd.ntmps33
      go_wp2_with fail
      refine HCALL.out.mono ?_
      rintro _ w2 ⟨A2, c2, rfl, p1, p2, p3⟩
      have P1 := Lib.hid p1; have P2 := Lib.hid p2; have P3 := Lib.hid p3
      clear p1 p2 p3
      go_wp2
      go_ret
      exact ⟨_, _, rfl, P1.out, P2.out, P3.out⟩
    · rw [hat] at d0 d1 d2 hk1 hrow
      simp only at d0 d1 d2 hk1 hrow
      have hlk := hst.run w hb n hn2
      rw [hst.none_ n hn1] at hlk
      have hones := hst.ones
      have HREC : Hid (∀ (T' : Fo) (o' : Nat) (v' : Value) (ts' : List TN) (X' : Nat → Prop) (w' : World), T'.size ≤ d → T'.one → T'.wf → Seg l o' T' → Below B w0 w' → OwnX 58 3 w' B v' ts' X' → (∀ b, X' b → b < w'.heap.size) → ts'.length + (T'.sub σ).size ≤ 256 →
          Calls Tryd.prog 33 #[v', .slice (some ⟨b, off, none⟩) l.length c, .int .i64 o', .map a3] w' (PutPost w' B v' ts' ((T'.sub σ).flat ts'.length) X')) := Lib.hid (fun T' o' v' ts' X' w' a1 a2 a3 a4 a5 a6 a7 a8 => ih _ c l T' o' v' ts' X' w' a1 a2 a3 a4 hlc hcm hr a5 a6 a7 a8)
      have HP0 : Hid (Part l o K .nil K 0) := Lib.hid (Part.start hwK hsK)
      have HOF : Hid ((K.offs (o + 1)).length = K.cnt) := Lib.hid (Fo.offs_len K (o + 1))
      have HNX : Hid (∀ A R k, Part l o K A R k → k < (K.offs (o + 1)).length → ∃ T r, T.one ∧ T.wf ∧ Seg l (o + 1 + A.size) T ∧ (∃ hk' : k < (K.offs (o + 1)).length, (K.offs (o + 1))[k] = ((o + 1 + A.size : Nat) : Int)) ∧ Part l o K (A.app2 T) r (k + 1) ∧ T.size + A.size ≤ K.size) := Lib.hid (fun A R k h hk => h.next (by rw [← HOF.out]; exact hk))
      have HFL := Lib.hid (hTfl ts.length)
      have hKd : K.size ≤ d := by omega
      have hK6 : ts.length + 1 + (K.sub σ).size ≤ 256 := by omega
      have HSP : Hid (∀ A R k, Part l o K A R k → (A.sub σ).size ≤ (K.sub σ).size) := Lib.hid (fun A R k h => sub_size_part h)
      have HON := Lib.hid hones
      have HD : Hid (∀ w', Below B w w' → w'.cell? ⟨b, off + o * 3, none⟩ = some (.int .i64 n) ∧ w'.cell? ⟨b, off + o * 3 + 1, none⟩ = some (.string nm)) := Lib.hid (fun w' hb' => ⟨(hb'.cell (p := ⟨b, off + o * 3, none⟩) hbB).trans d0, (hb'.cell (p := ⟨b, off + o * 3 + 1, none⟩) hbB).trans d1⟩)
      obtain ⟨la, hla⟩ : ∃ la, K.offs (o + 1) = la := ⟨_, rfl⟩
      rw [hla] at d2 hk1 hrow HOF
      have HNX : Hid (∀ A R k, Part l o K A R k → k < la.length → ∃ T r, T.one ∧ T.wf ∧ Seg l (o + 1 + A.size) T ∧ (∃ hk' : k < la.length, la[k] = ((o + 1 + A.size : Nat) : Int)) ∧ Part l o K (A.app2 T) r (k + 1) ∧ T.size + A.size ≤ K.size) := Lib.hid (by subst hla; exact HNX.out)
      have HROW := Lib.hid hrow
      have HD2 : Hid (∀ w', Below B w w' → w'.cell? ⟨b, off + o * 3 + 2, none⟩ = some (.slice S la.length k)) := Lib.hid (fun w' hb' => (hb'.cell (p := ⟨b, off + o * 3 + 2, none⟩) hbB).trans d2)
      have hkm := hk2
      unfold maxLen at hkm
      have hlal : la.length ≤ 256 := by
        have h1 := Fo.cnt_size (K.sub σ)
        rw [Fo.sub_cnt hones] at h1
        rw [HOF.out]; omega
      obtain ⟨tl, htl⟩ : ∃ tl, ts.length = tl := ⟨_, rfl⟩
      have HTL := Lib.hid htl
      rw [htl] at HFL hK6 HOWN ⊢
      clear ih hst hsub hown hX hr hrow h1 hw hsg hd hTs hn1 hn2 hb hat hla hk2 hsK hwK hKT hTsz hTfl hones h256 htl
      go_enter Tryd.func33, Tryd.ntmps33
      go_upto_region 5 with fail
      clear hlk d0 d1
      obtain ⟨u, hu⟩ : ∃ u : World, w.drew = u := ⟨_, rfl⟩
      have hbu : Below w.heap.size w u := by rw [← hu]; exact (Below.refl _ _).drew
      have HBU : Hid (Below B w u) := Lib.hid (hbu.mono hBw)
      have HOU := Lib.hid (HOWN.out.below hbu)
      have HGU : Hid (w.grownBy u (Value.slice Av tl cv).ownBlock) := Lib.hid (by rw [← hu]; exact ⟨rfl, rfl, rfl, Nat.le_refl _, fun _ _ _ => rfl⟩)
      clear hbu
      refine wp_region_Y (S := (fun w' : World => w'.cell? ⟨b, off + o * 3, none⟩ = some (.int .i64 n) ∧ w'.cell? ⟨b, off + o * 3 + 1, none⟩ = some (.string nm))) 14 (by kernel_rfl) (by rw [hu]; exact HD.out _ HBU.out) (fun hHeld => ?_)
      rw [hu] at hHeld ⊢
      clear hu
      refine wpAnyY_take (i := 0) (v := ?_) rfl (by kernel_rfl) (by kernel_rfl) (by kernel_rfl) (by kernel_rfl) (fun _ _ _ h => h) (Or.inl ⟨by rfl, ?_⟩) (by assumption) ?_
      rotate_left 1
      · (intro w' hSw; obtain ⟨s0, s1⟩ := hSw; go_simp); try with_reducible rfl
      try simp only [Act.put, List.setIfInBounds_toArray, List.set_cons_zero, List.set_cons_succ, Nat.zero_add]
      refine wpAnyY_take (i := 1) (v := ?_) rfl (by kernel_rfl) (by kernel_rfl) (by kernel_rfl) (by kernel_rfl) (fun _ _ _ h => h) (Or.inl ⟨by rfl, ?_⟩) (by assumption) ?_
      rotate_left 1
      · (intro w' hSw; obtain ⟨s0, s1⟩ := hSw; go_simp); try with_reducible rfl
      try simp only [Act.put, List.setIfInBounds_toArray, List.set_cons_zero, List.set_cons_succ, Nat.zero_add]
      refine wpAnyY_take (i := 2) (v := ?_) rfl (by kernel_rfl) (by kernel_rfl) (by kernel_rfl) (by kernel_rfl) (fun _ _ _ h => h) (Or.inl ⟨by rfl, ?_⟩) (by assumption) ?_
      rotate_left 1
      · (intro w' hSw; obtain ⟨s0, s1⟩ := hSw; go_simp); try with_reducible rfl
      try simp only [Act.put, List.setIfInBounds_toArray, List.set_cons_zero, List.set_cons_succ, Nat.zero_add]
      refine wpAnyY_take (i := 3) (v := ?_) rfl (by kernel_rfl) (by kernel_rfl) (by kernel_rfl) (by kernel_rfl) (fun _ _ _ h => h) (Or.inl ⟨by rfl, ?_⟩) (by assumption) ?_
      rotate_left 1
      · (intro w' hSw; obtain ⟨s0, s1⟩ := hSw; go_simp); try with_reducible rfl
      try simp only [Act.put, List.setIfInBounds_toArray, List.set_cons_zero, List.set_cons_succ, Nat.zero_add]
      refine wpAnyY_take (i := 4) (v := ?_) rfl (by kernel_rfl) (by kernel_rfl) (by kernel_rfl) (by kernel_rfl) (fun _ _ _ h => h) (Or.inl ⟨by rfl, ?_⟩) (by assumption) ?_
      rotate_left 1
      · (intro w' hSw; obtain ⟨s0, s1⟩ := hSw; go_simp); try with_reducible rfl
      try simp only [Act.put, List.setIfInBounds_toArray, List.set_cons_zero, List.set_cons_succ, Nat.zero_add]
      refine wpAnyY_take (i := 5) (v := ?_) rfl (by kernel_rfl) (by kernel_rfl) (by kernel_rfl) (by kernel_rfl) (fun _ _ _ h => h) (Or.inl ⟨by rfl, ?_⟩) (by assumption) ?_
      rotate_left 1
      · (intro w' hSw; obtain ⟨s0, s1⟩ := hSw; go_simp); try with_reducible rfl
      try simp only [Act.put, List.setIfInBounds_toArray, List.set_cons_zero, List.set_cons_succ, Nat.zero_add]
      refine wpAnyY_take (i := 6) (v := ?_) rfl (by kernel_rfl) (by kernel_rfl) (by kernel_rfl) (by kernel_rfl) (fun _ _ _ h => h) (Or.inl ⟨by rfl, ?_⟩) (by assumption) ?_
      rotate_left 1
      · (intro w' hSw; obtain ⟨s0, s1⟩ := hSw; go_simp); try with_reducible rfl
      try simp only [Act.put, List.setIfInBounds_toArray, List.set_cons_zero, List.set_cons_succ, Nat.zero_add]
      refine wpAnyY_take (i := 7) (v := ?_) rfl (by kernel_rfl) (by kernel_rfl) (by kernel_rfl) (by kernel_rfl) (fun _ _ _ h => h) (Or.inl ⟨by rfl, ?_⟩) (by assumption) ?_
      rotate_left 1
      · (intro w' hSw; obtain ⟨s0, s1⟩ := hSw; go_simp); try with_reducible rfl
      try simp only [Act.put, List.setIfInBounds_toArray, List.set_cons_zero, List.set_cons_succ, Nat.zero_add]
      refine wpAnyY_take (i := 8) (v := ?_) rfl (by kernel_rfl) (by kernel_rfl) (by kernel_rfl) (by kernel_rfl) (fun _ _ _ h => h) (Or.inl ⟨by rfl, ?_⟩) (by assumption) ?_
      rotate_left 1
      · (intro w' hSw; obtain ⟨s0, s1⟩ := hSw; go_simp); try with_reducible rfl
      try simp only [Act.put, List.setIfInBounds_toArray, List.set_cons_zero, List.set_cons_succ, Nat.zero_add]
      refine wpAnyY_take (i := 9) (v := ?_) rfl (by kernel_rfl) (by kernel_rfl) (by kernel_rfl) (by kernel_rfl) (fun _ _ _ h => h) (Or.inl ⟨by rfl, ?_⟩) (by assumption) ?_
      rotate_left 1
      · (intro w' hSw; obtain ⟨s0, s1⟩ := hSw; go_simp); try with_reducible rfl
      try simp only [Act.put, List.setIfInBounds_toArray, List.set_cons_zero, List.set_cons_succ, Nat.zero_add]
      refine wpAnyY_take (i := 10) (v := ?_) rfl (by kernel_rfl) (by kernel_rfl) (by kernel_rfl) (by kernel_rfl) (fun _ _ _ h => h) (Or.inl ⟨by rfl, ?_⟩) (by assumption) ?_
      rotate_left 1
      · (intro w' hSw; obtain ⟨s0, s1⟩ := hSw; go_simp); try with_reducible rfl
      try simp only [Act.put, List.setIfInBounds_toArray, List.set_cons_zero, List.set_cons_succ, Nat.zero_add]
      refine wpAnyY_take (i := 11) (v := ?_) rfl (by kernel_rfl) (by kernel_rfl) (by kernel_rfl) (by kernel_rfl) (fun _ _ _ h => h) (Or.inl ⟨by rfl, ?_⟩) (by assumption) ?_
      rotate_left 1
      · (intro w' hSw; obtain ⟨s0, s1⟩ := hSw; go_simp); try with_reducible rfl
      try simp only [Act.put, List.setIfInBounds_toArray, List.set_cons_zero, List.set_cons_succ, Nat.zero_add]
      refine wpAnyY_one (i := 12) rfl (by kernel_rfl) (fun K hK => ?_)
      go_simp
      obtain ⟨q, hq⟩ : ∃ q, u.heap.size = q := ⟨_, rfl⟩
      obtain ⟨w12, hnw⟩ : ∃ x : World, u.alloc (.cells #[.int .i64 n, .string nm, .slice none 0 0] 58) = x := ⟨_, rfl⟩
      have hb3 : Below u.heap.size u w12 := by rw [← hnw]; exact (Below.refl _ _).alloc (Nat.le_refl _) _
      have HKD : Hid (Blk w12 q 58 #[.int .i64 n, .string nm, .slice none 0 0]) := Lib.hid (by rw [← hnw]; exact Blk.new' hq.symm)
      have HG12 : Hid (w.grownBy w12 (Value.slice Av tl cv).ownBlock) := Lib.hid (HGU.out.andThen (row' := none) (by rw [← hnw]; exact World.grownBy_alloc _ _ none) (fun j e => by cases e))
      have HO12 := Lib.hid (HOU.out.below hb3)
      have HB12 := Lib.hid (HBU.out.trans (hb3.mono (Nat.le_trans hBw HGU.out.size)))
      rw [hnw]
      try rw [hq]
      clear hnw hb3 hq HGU HOU HBU
      refine hK.out _ _ (fun _ => HD.out _ HB12.out) ?_
      have hHeld12 := HD.out _ HB12.out
      clear hK K
      try simp only [Act.put, List.setIfInBounds_toArray, List.set_cons_zero, List.set_cons_succ, Nat.zero_add]
      refine wpAnyY_one (i := 13) rfl (by kernel_rfl) (fun K hK => ?_)
      rw [if_pos (by simp [Region.wanted])]
      refine wp_pushX (P := Tryd.prog) w12 (eN := 58) (eI := 3) (by decide) (.tmp 28) (.tmp 40) 22 (by rfl) B Tryd.underlying22 tn_info15 rfl (.slice Av tl cv) ts X (by rfl) HO12.out ⟨n, nm, []⟩ rfl ⟨q, 0, none⟩ 1 (by rfl) (news_cells HKD.out) (by rw [HTL.out]; unfold maxLen; omega) (by rw [HTL.out]; omega) (Nat.le_trans hBw HG12.out.size) ?_
      intro A9 c9 w9 hown9 hg9 hat9
      rw [HTL.out] at hown9 hat9 ⊢
      have HG9 : Hid (w.grownBy w9 (Value.slice Av tl cv).ownBlock) := Lib.hid (HG12.out.trans hg9)
      have HB9 : Hid (Below B w w9) := Lib.hid (HB12.out.grown hg9 (Nat.le_trans hBw HG12.out.size) (fun k e => (HO12.out.lt k e).1))
      have HO9 : Hid (OwnX 58 3 w9 B (.slice A9 (tl + 1) c9) (ts ++ [⟨n, nm, []⟩]) X) := Lib.hid hown9
      have HA9 : Hid ((Value.slice A9 (tl + 1) c9).ownBlock = (Value.slice Av tl cv).ownBlock ∨ ∀ g, (Value.slice A9 (tl + 1) c9).ownBlock = some g → w.heap.size ≤ g) := Lib.hid (hat9.imp id (fun e g e2 => by rw [e] at e2; injection e2 with e2; have := HG12.out.size; omega))
      clear hown9 hg9 hat9 HG12 HO12 HKD
      refine hK.out _ _ (fun _ => HD.out _ HB9.out) ?_
      have hHeld9 := HD.out _ HB9.out
      clear hK K
      try simp only [Act.put, List.setIfInBounds_toArray, List.set_cons_zero, List.set_cons_succ, Nat.zero_add]
      refine wpAnyY_one0 (i := 14) rfl (by kernel_rfl) (by kernel_rfl) (fun K hK => ?_)
      go_simp
      refine hK.out _ _ ?_
      clear hK K
      try simp only [Act.put, List.setIfInBounds_toArray, List.set_cons_zero, List.set_cons_succ, Nat.zero_add]
      refine wpAnyY_done (by kernel_rfl) ?_ _
      have d2 := HD2.out _ HB9.out
      go_upto_region 8 with fail
      clear d2 hHeld hHeld12 hHeld9
      go_loopg [0, 11, 48] la.length (fun g s0 s11 s48 wx => ∃ (j : Nat) (C R : Fo) (vo va : Value), s48 = .int .i64 j ∧ s0 = vo ∧ s11 = va ∧ g = la.length - j ∧ j ≤ la.length ∧ Part l o K C R j ∧ w.grownBy wx (Value.slice Av tl cv).ownBlock ∧ Below B w wx ∧
        (vo.ownBlock = (Value.slice Av tl cv).ownBlock ∨ ∀ g, vo.ownBlock = some g → w.heap.size ≤ g) ∧ (∀ g, va.ownBlock = some g → w.heap.size ≤ g) ∧ wx.ownsRow B 3 1 va j (((C.sub σ).offs (tl + 1)).map (.int .i64)) ∧
        OwnX 58 3 wx B vo (ts ++ ⟨n, nm, []⟩ :: (C.sub σ).flat (tl + 1)) (fun b => X b ∨ va.ownBlock = some b))
      case atStart => exact ⟨0, .nil, K, _, _, rfl, rfl, rfl, rfl, Nat.zero_le _, HP0.out, HG9.out, HB9.out, HA9.out, (fun g e => by cases e), World.ownsRow_nil _ _ _ _, HO9.out.widen (fun b h => h.elim .inl (fun e => by cases e))⟩
      case round =>
        clear HG9 HB9 HA9 HO9
        obtain ⟨j, C, R, vo, va, rfl, rfl, rfl, rfl, hj, hP, hg, hb, ho1, ha1, ha2, ho2⟩ := hrel
        have HG := Lib.hid hg; have HBX := Lib.hid hb; have HP := Lib.hid hP; have HO1 := Lib.hid ho1; have HA1 := Lib.hid ha1; have HA2 := Lib.hid ha2; have HO2 := Lib.hid ho2
        have hol2 : (C.sub σ).size ≤ (K.sub σ).size := HSP.out _ _ _ hP
        obtain ⟨Ao, co, ho⟩ := ho2.shape
        have hlen : (ts ++ (⟨n, nm, []⟩ : TN) :: (C.sub σ).flat (tl + 1)).length = tl + 1 + (C.sub σ).size := by
          rw [List.length_append, List.length_cons, Fo.flat_len, HTL.out]; omega
        rw [hlen] at ho
        have HLEN := Lib.hid hlen
        subst ho
        obtain ⟨Aa, ca, ha⟩ := own_shape ha2
        subst ha
        obtain ⟨m, hm⟩ : ∃ m, tl + 1 + (C.sub σ).size = m := ⟨_, rfl⟩
        have HM := Lib.hid hm
        rw [hm] at HO1 HO2 HLEN
        (try rw [hm])
        have hm6 : m ≤ 256 := by omega
        have hwx := hg.size
        clear hP hg hb ho1 ha1 ha2 ho2 hlen hm
        have j0 : (0 : Int) ≤ j := by omega
        by_cases hjl : j < la.length
        · obtain ⟨T', r, q1, q2, q3, ⟨q4, q5⟩, q6, q7⟩ := HNX.out C R j HP.out hjl
          obtain ⟨g, o2, rfl, hgF, a1⟩ := ints_at HROW.out hjl
          have a1 := ((HB.out.trans HBX.out).cell (p := ⟨g, o2 + j, none⟩) (hF g hgF)).trans a1
          rw [q5] at a1
          have HPN := Lib.hid q6
          have j1 : (j : Int) < la.length := by omega
          have hsT := sub_size_in (σ := σ) q6
          have HONE := Lib.hid q1
          have HCALL := Lib.hid (fun v' ts' X' w' h5 h6 h7 h8 => HREC.out T' (o + 1 + C.size) v' ts' X' w' (by omega) q1 q2 q3 h5 h6 h7 h8)
          clear q1 q2 q3 q4 q5 q6 q7
          have HAL := Lib.hid (HA2.out.alloc (.cells #[.int .i64 m] 3))
          go_wp2_with (at_builtin; refine wpList_append_from _ rfl (.tmp 52) (.tmp 55) 51 rfl B 3 Tryd.underlying51 int_info15 rfl (by omega) (.slice Aa j ca) j (((C.sub σ).offs (tl + 1)).map (.int .i64)) ?a1 HAL.out (some ⟨wr.heap.size, 0, none⟩) 1 1 [.int .i64 m] ?a2 rfl (fun e => by cases e) (fun ad e => by cases e; exact news_cells (Blk.new wr 3 #[.int .i64 m])) ?a3 ?a4 ?a5 ?a6 ?a7)
          try (case a1 => rfl)
          try (case a2 => rfl)
          try (case a3 => intro u hu; simp at hu; subst hu; rfl)
          try (case a4 => unfold maxLen; omega)
          try (case a5 => omega)
          try (case a6 => simp; omega)
          case a7 =>
          intro A5 c5 w5 hown5 hg5 hat5
          have HG5 : Hid (w.grownBy w5 (Value.slice Av tl cv).ownBlock) := Lib.hid ((HG.out.andThen (row' := none) (World.grownBy_alloc wr (.cells #[.int .i64 m] 3) none) (fun j e => by cases e)).andThen hg5 (fun j e => .inl (HA1.out j e)))
          have HB5 : Hid (Below B w w5) := Lib.hid ((HBX.out.alloc (Nat.le_trans hBw HG.out.size) (.cells #[.int .i64 m] 3)).grown hg5 (by simp; omega) (fun k e => Nat.le_trans hBw (HA1.out k e)))
          have HA15 : Hid (∀ g, (Value.slice A5 (j + 1) c5).ownBlock = some g → w.heap.size ≤ g) := Lib.hid (fun g e => by
            rcases hat5 with h | h
            · rw [h] at e; exact HA1.out g e
            · rw [h] at e; injection e with e; (try simp at e); omega)
          have HO25 : Hid (OwnX 58 3 w5 B (.slice Ao m co) (ts ++ ⟨n, nm, []⟩ :: (C.sub σ).flat (tl + 1)) (fun b => X b ∨ (Value.slice A5 (j + 1) c5).ownBlock = some b)) := Lib.hid (by
            have h1 := (HO2.out.widen (Y := fun b => (X b ∨ (Value.slice Aa j ca).ownBlock = some b) ∨ wr.heap.size ≤ b) (fun b h => h)).alloc (.cells #[.int .i64 m] 3)
            have h2 := h1.keptX hg5 (fun b e => .inl (.inr e)) (fun b e => HO2.out.ne_ints (by decide) HA2.out b e)
            refine h2.widen (fun b h => .inl ?_)
            rcases h with h | h
            · exact .inl (.inl h)
            · rcases hat5 with e | e
              · rw [e] at h; exact .inl (.inr h)
              · rw [e] at h; injection h with h; exact .inr (by (try simp at h); omega))
          have HX5 : Hid (∀ b, (X b ∨ (Value.slice A5 (j + 1) c5).ownBlock = some b) → b < w5.heap.size) := Lib.hid (fun b h => by
            rcases h with h | h
            · exact Nat.lt_of_lt_of_le (HXX.out b h) HG5.out.size
            · exact (hown5.lt b h).2)
          have HOW5 := Lib.hid hown5
          clear hown5 hg5 hat5 HAL a1 HO2 HA2
          go_wp2_with fail
          refine (HCALL.out _ _ _ _ (HB.out.trans HB5.out) HO25.out HX5.out (by rw [HLEN.out]; have hmm := HM.out; omega)).mono ?_
          rintro _ w6 ⟨A6, c6, rfl, p1, p2, p3⟩
          have hnl : (ts ++ (⟨n, nm, []⟩ : TN) :: (C.sub σ).flat (tl + 1)).length = m := HLEN.out
          rw [hnl] at p1 p3 ⊢
          have HFN : Hid ((ts ++ (⟨n, nm, []⟩ : TN) :: (C.sub σ).flat (tl + 1)) ++ (T'.sub σ).flat m = ts ++ ⟨n, nm, []⟩ :: ((C.app2 T').sub σ).flat (tl + 1)) := Lib.hid (by
            rw [Fo.sub_next, Fo.flat_app2, HM.out]; simp)
          have HON2 : Hid (((C.sub σ).offs (tl + 1)).map (Value.int .i64) ++ [.int .i64 m] = (((C.app2 T').sub σ).offs (tl + 1)).map (.int .i64)) := Lib.hid (by
            rw [Fo.sub_next, Fo.offs_app2, Fo.one_offs (Fo.sub_one HON.out HONE.out), HM.out]; simp)
          have HG6 : Hid (w.grownBy w6 (Value.slice Av tl cv).ownBlock) := Lib.hid (HG5.out.andThen p2 (fun j e => by
            rcases HO1.out with h | h
            · right; rw [← h]; exact e
            · exact .inl (h j e)))
          have HB6 : Hid (Below B w w6) := Lib.hid (HB5.out.grown p2 (Nat.le_trans hBw HG5.out.size) (fun k e => (HO25.out.lt k e).1))
          have HO16 : Hid ((Value.slice A6 (m + ((T'.sub σ).flat m).length) c6).ownBlock = (Value.slice Av tl cv).ownBlock ∨ ∀ g, (Value.slice A6 (m + ((T'.sub σ).flat m).length) c6).ownBlock = some g → w.heap.size ≤ g) := Lib.hid (by
            rcases p3 with h | h
            · rcases HO1.out with h2 | h2
              · exact .inl (h.trans h2)
              · exact .inr (fun g e => h2 g (by rw [← h]; exact e))
            · exact .inr (fun g e => Nat.le_trans HG5.out.size (h g e)))
          have HO26 : Hid (OwnX 58 3 w6 B (.slice A6 (m + ((T'.sub σ).flat m).length) c6) (ts ++ ⟨n, nm, []⟩ :: ((C.app2 T').sub σ).flat (tl + 1)) (fun b => X b ∨ (Value.slice A5 (j + 1) c5).ownBlock = some b)) := Lib.hid (by rw [← HFN.out]; exact p1)
          have HA26 : Hid (w6.ownsRow B 3 1 (.slice A5 (j + 1) c5) (j + 1) ((((C.app2 T').sub σ).offs (tl + 1)).map (.int .i64))) := Lib.hid (by
            rw [← HON2.out]
            refine HOW5.out.kept p2 ?_
            cases hbk : (Value.slice A5 (j + 1) c5).ownBlock with
            | none => exact .inl rfl
            | some b2 => exact .inr (fun e => HO25.out.ne_ints (by decide) HOW5.out b2 hbk e.symm))
          clear p1 p2 p3 hnl HO25 HOW5 HG5 HB5 HX5
          go_wp2
          go_roundg (la.length - (j + 1))
          case measure => omega
          case rel => exact ⟨j + 1, C.app2 T', r, _, _, by go_num, rfl, rfl, rfl, by omega, HPN.out, HG6.out, HB6.out, HO16.out, HA15.out, HA26.out, HO26.out⟩
        · have hCK : C = K := HP.out.last (by rw [← HOF.out]; exact hjl)
          have HCK := Lib.hid hCK
          have j1 : ¬ (j : Int) < la.length := by omega
          have htm : tl < m := by have := HM.out; omega
          have hmi : (tl : Int) < m := by omega
          have t0 : (0 : Int) ≤ tl := by omega
          have hti : tl < (ts ++ (⟨n, nm, []⟩ : TN) :: (C.sub σ).flat (tl + 1)).length := by rw [HLEN.out]; exact htm
          obtain ⟨g, cap, av, hvg, hgB, hgl, x0, x1, x2, f0, f1, f2, hrest⟩ := HO2.out.nodes.at_ hti
          clear x0 x1 f0 f1 hrest
          rw [HLEN.out] at hvg
          injection hvg with hv1 _ hv2
          subst hv1; subst hv2
          have HXS : Hid (((C.sub σ).offs (tl + 1)).length = j) := Lib.hid (by rw [Fo.offs_len, Fo.sub_cnt HON.out]; exact HP.out.cnt)
          have hne := HO2.out.ne_ints (by decide) HA2.out
          have hset := HO2.out.setArgs (by decide) hti (a := .slice Aa j ca) (xs := (C.sub σ).offs (tl + 1)) (Y := X) (by rw [HXS.out]; exact HA2.out) (fun b e => .inr e) (fun b h => ⟨.inl h, fun e => by have h1 := HXX.out b h; have h2 := HA1.out b e; omega⟩)
          have HFIN : Hid (OwnX 58 3 (wr.setCell ⟨g, tl * 3 + 2, none⟩ (.slice Aa j ca)) B (.slice (some ⟨g, 0, none⟩) (tl + ((T.sub σ).flat tl).length) co) (ts ++ (T.sub σ).flat tl) X) := Lib.hid (by
            have hlen2 : tl + ((T.sub σ).flat tl).length = m := by rw [HFL.out, List.length_cons, Fo.flat_len, ← HM.out, HCK.out]; omega
            rw [hlen2, HFL.out]
            have e1 : (ts ++ (⟨n, nm, []⟩ : TN) :: (C.sub σ).flat (tl + 1))[tl]'hti = ⟨n, nm, []⟩ := by
              rw [List.getElem_append_right (by rw [HTL.out]; exact Nat.le_refl _)]
              simp [HTL.out]
            have h2 := hset
            rw [e1] at h2
            have e2 := set_mid ts ⟨n, nm, []⟩ ⟨n, nm, (C.sub σ).offs (tl + 1)⟩ ((C.sub σ).flat (tl + 1))
            rw [HTL.out] at e2
            rw [show ({ (⟨n, nm, []⟩ : TN) with args := (C.sub σ).offs (tl + 1) } : TN) = ⟨n, nm, (C.sub σ).offs (tl + 1)⟩ from rfl, e2, HCK.out] at h2
            exact h2)
          have HLM : Hid (m = tl + ((T.sub σ).flat tl).length) := Lib.hid (by rw [HFL.out, List.length_cons, Fo.flat_len, ← HM.out, HCK.out]; omega)
          have HGF : Hid (w.grownBy (wr.setCell ⟨g, tl * 3 + 2, none⟩ (.slice Aa j ca)) (Value.slice Av tl cv).ownBlock) := Lib.hid (HG.out.andThen (row' := some g) ⟨rfl, rfl, rfl, by simp, fun k hk hne => Below.heap_setCell _ _ _ _ (fun e => hne (by rw [e]))⟩ (fun j e => by
            cases e
            rcases HO1.out with h | h
            · right; rw [← h]; rfl
            · exact .inl (h g rfl)))
          have HO1F : Hid ((Value.slice (some ⟨g, 0, none⟩) m co).ownBlock = (Value.slice Av tl cv).ownBlock ∨ ∀ g', (Value.slice (some ⟨g, 0, none⟩) m co).ownBlock = some g' → w.heap.size ≤ g') := HO1
          clear hne hset hti hCK HO1
          go_wp2
          go_ret
          unfold PutPost
          rw [HTL.out]
          exact ⟨some ⟨g, 0, none⟩, co, by rw [← HLM.out]; rfl, HFIN.out, HGF.out, by rw [← HLM.out]; exact HO1F.out⟩
end Go.Proofs.YtgcbnndbeoekgaaDoor
end
