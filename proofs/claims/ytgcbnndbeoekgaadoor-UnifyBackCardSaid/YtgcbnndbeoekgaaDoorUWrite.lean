/- unify's web.write: what a node stands for is laid out -/
import Derived.Test.YtgcbnndbeoekgaaDoorWriteM
import Derived.Deep.LoopGhost
import Derived.StillTailTactics
import Derived.Deep.DeepCutAuto
import Derived.IntWalk
set_option linter.unusedSimpArgs false
set_option linter.unusedVariables false
namespace Go.Proofs.YtgcbnndbeoekgaaDoor
open Go Go.RowKit Go.Maps

set_option maxRecDepth 100000 in
set_option maxHeartbeats 16000000 in
theorem uwrite_any (B p mb : Nat) (tv : Value) (hm td : List (Nat × Nat)) (W : WebT) (r : Nat → Nat) (tm : Nat → Option Nat) (lo : Nat → Nat) (E : List (Fo × Fo)) (hU : USt W r tm lo [] E) (g n c : Nat) (hn : n ≤ 17179869184) (hc : n ≤ c) (hc2 : c ≤ maxLen) (C : Nat) : ∀ (d : Nat) (T : Fo) (w : World) (l : List PN) (i : Nat) (v : Value) (ts : List TN) (X : Nat → Prop), T.size ≤ d → Lay W r tm lo (r i) T → i < n → l.length = n → WrS B p mb (.slice (some ⟨g, 0, none⟩) n c) tv hm td W r tm lo C l w l → C ≤ w.heap.size → OwnX 58 3 w C v ts X → (∀ b, X b → b < w.heap.size) → ts.length + T.size ≤ 256 →
    Calls Tryd.prog 48 #[.pointer (some ⟨p, 0, none⟩), v, .int .i64 i] w (WritePost w B p mb (.slice (some ⟨g, 0, none⟩) n c) tv hm td W r tm lo C l v ts (T.flat ts.length) X) := by
  have HU := Lib.hid hU
  unfold maxLen at hc2
  clear hU
  intro d
  induction d with
  | zero => intro T w l i v ts X hd hT; have := hT.size_pos; omega
  | succ d ih =>
  intro T w l i v ts X hd hT hi hl hws hC hown hX h256
  have HIH := Lib.hid ih; have HT := Lib.hid hT; have HL := Lib.hid hl; have HWS := Lib.hid hws; have HXX := Lib.hid hX; have HC := Lib.hid hC
  obtain ⟨Av, cv, rfl⟩ := hown.shape
  have HOWN := Lib.hid hown
  have HWN : Hid (W.n = n) := Lib.hid (by rw [hws.pw.len, hl])
  obtain ⟨tl, htl⟩ : ∃ tl, ts.length = tl := ⟨_, rfl⟩
  have HTL := Lib.hid htl
  rw [htl] at HOWN h256 ⊢
  clear ih hT hl hws hX hC hown htl
  go_enter Tryd.func48, Tryd.ntmps48
  go_wp2_with fail
  refine (find_web HWS.out.web HWS.out.pw (by rw [HL.out]; omega) i (by rw [HL.out]; exact hi)).mono ?_
  rintro _ w2 ⟨rfl, l2, hg2, hw2, hu2, hp2⟩
  have HS2 : Hid (WrS B p mb (.slice (some ⟨g, 0, none⟩) n c) tv hm td W r tm lo C l w2 l2) := Lib.hid (HWS.out.found hw2 hp2 hu2)
  have HO2 : Hid (OwnX 58 3 w2 C (.slice Av tl cv) ts X) := Lib.hid (HOWN.out.lowK hg2 HWS.out.low.lv)
  have HK2 : Hid (Kb (WrB (.slice (some ⟨g, 0, none⟩) n c) (.slice Av tl cv)) w w2) := Lib.hid (Kb.of_grown hg2 (fun n e => .inl e))
  have HL2 : Hid (l2.length = n) := Lib.hid (hu2.1.trans HL.out)
  have HR : Hid (r i < n ∧ r (r i) = r i) := Lib.hid (by
    obtain ⟨dd, hdd⟩ := hp2.uf
    rw [HL2.out] at hdd
    exact ⟨hdd.rlt i hi, hdd.idem hi⟩)
  clear hg2 hw2 hu2 hp2
  obtain ⟨x, hx⟩ : ∃ x, r i = x := ⟨_, rfl⟩
  have HXE := Lib.hid hx
  rw [hx] at HR
  have hT := HT.out
  rw [hx] at hT
  (try rw [hx])
  clear hx HT
  have hxl : x < l2.length := by rw [HL2.out]; exact HR.out.1
  have p0 := HS2.out.web.blk.cell 0
  have c5 := (HS2.out.web.nodes.rd hxl (k := 5) (by omega)).1
  have c6 := (HS2.out.web.nodes.rd hxl (k := 6) (by omega)).1
  simp only [PN.cells, List.getElem?_cons_succ, List.getElem?_cons_zero, HS2.out.pw.term x hxl HR.out.2] at c5
  simp only [PN.cells, List.getElem?_cons_succ, List.getElem?_cons_zero, HS2.out.pw.low x hxl HR.out.2] at c6
  simp at p0
  have hx0 : (0 : Int) ≤ x := by omega
  have hxn : (x : Int) < n := by have := HR.out.1; omega
  clear hxl
  cases hT with
  | hole _ e =>
    rw [e] at c5
    replace c5 : w2.cell? ⟨g, x * 9 + 5, none⟩ = some (.int .i64 (-1)) := c5
    obtain ⟨lx, hlx⟩ : ∃ z, lo x = z := ⟨_, rfl⟩
    rw [hlx] at c6 h256
    have HLX := Lib.hid hlx
    clear e hlx
    have hsz : (Fo.hole lx .nil).size = 1 := rfl
    rw [hsz] at h256
    clear hsz
    go_wp2_with (at_builtin; refine wpList_pushX _ (by decide) rfl (.tmp 26) (.tmp 36) 22 rfl C Tryd.underlying22 tn_info15 rfl (.slice Av tl cv) ts X rfl (HO2.out.alloc _) ⟨lx, ByteArray.empty, []⟩ rfl ⟨w2.heap.size, 0, none⟩ 1 rfl (news_cells (Blk.new w2 58 #[.int .i64 lx, .string ⟨#[]⟩, .slice none 0 0])) ?b3 ?b4 ?b5 ?b6)
    try (case b3 => rw [HTL.out]; unfold maxLen; omega)
    try (case b4 => rw [HTL.out]; omega)
    try (case b5 => simp; have := HK2.out.size; have := HC.out; omega)
    case b6 =>
    intro A9 c9 w9 hown9 hg9 hat9
    rw [HTL.out] at hown9 hat9
    (try rw [HTL.out])
    have HS9 : Hid (WrS B p mb (.slice (some ⟨g, 0, none⟩) n c) tv hm td W r tm lo C l w9 l2) := Lib.hid ((HS2.out.alloc _).grown hg9 (fun b e => (HO2.out.lt b e).1))
    have HK9 : Hid (Kb (WrB (.slice (some ⟨g, 0, none⟩) n c) (.slice Av tl cv)) w w9) := Lib.hid ((HK2.out.alloc _).grown hg9 (fun n e => .inl (.inr e)))
    have HO9 := Lib.hid hown9
    have HA9 : Hid ((Value.slice A9 (tl + 1) c9).ownBlock = (Value.slice Av tl cv).ownBlock ∨ ∀ g, (Value.slice A9 (tl + 1) c9).ownBlock = some g → w.heap.size ≤ g) := Lib.hid (hat9.imp id (fun e g e2 => by rw [e] at e2; injection e2 with e2; (try simp at e2); have := HK2.out.size; omega))
    clear hown9 hg9 hat9 c5 c6 p0
    go_wp2_with fail
    go_ret
    unfold WritePost
    rw [HTL.out, HLX.out]
    exact ⟨A9, c9, l2, rfl, HO9.out, HS9.out, HK9.out, HA9.out⟩
  | app _ t nm ks Ls e e1 hl =>
    rw [e] at c5
    replace c5 : w2.cell? ⟨g, x * 9 + 5, none⟩ = some (.int .i64 t) := c5
    obtain ⟨ht1, -, -⟩ := HU.out.some_ i t (by rw [HWN.out]; exact hi) (by rw [HXE.out]; exact e)
    rw [HWN.out] at ht1
    have HLL := Lib.hid hl
    have hll := hl.len
    have HKN : Hid (∀ a ∈ ks, a < n) := Lib.hid (fun a ha => by
      have := (HU.out.ok.app t nm ks (by rw [HWN.out]; exact ht1) e1).1 a ha
      rw [HWN.out] at this; exact this)
    have htl2 : t < l2.length := by rw [HL2.out]; exact ht1
    obtain ⟨f1, f2, f3⟩ := HS2.out.pw.of_app htl2 e1
    obtain ⟨q, hq⟩ : ∃ q, ks.length = q := ⟨_, rfl⟩
    have HQ := Lib.hid hq
    have HLQ : Hid (Ls.length = q) := Lib.hid (by rw [← hll, hq])
    have hcnt : q ≤ (ofL Ls).size := by
      have h := Fo.cnt_size (ofL Ls)
      rw [ofL_cnt (fun T hT => by
        obtain ⟨j, hj, rfl⟩ := List.getElem_of_mem hT
        exact (hl.get j (by rw [hll]; exact hj) hj).one)] at h
      rw [← hq, hll]; exact h
    have hsz : (Fo.app nm (ofL Ls) .nil).size = 1 + (ofL Ls).size := rfl
    rw [hsz] at h256 hd
    obtain ⟨As, ca, eav, earg⟩ := HS2.out.web.nodes.arg htl2
    have HAV : Hid (∃ h : t < l2.length, l2[t].av = .slice As q ca ∧ l2[t].args = ks) := Lib.hid ⟨htl2, by rw [eav, f2, hq], f2⟩
    have HAL : Hid (∀ k (hk : k < ks.length), ∃ g, As = some ⟨g, 0, none⟩) := Lib.hid (fun k hk => by
      obtain ⟨g', h1, _⟩ := earg k (by rw [f2]; exact hk)
      exact ⟨g', h1⟩)
    have t1 := (HS2.out.web.nodes.rd htl2 (k := 1) (by omega)).1
    have t3 := (HS2.out.web.nodes.rd htl2 (k := 3) (by omega)).1
    simp only [PN.cells, List.getElem?_cons_succ, List.getElem?_cons_zero, f1] at t1
    simp only [PN.cells, List.getElem?_cons_succ, List.getElem?_cons_zero, HAV.out.2.1] at t3
    have HT3 := Lib.hid t3
    have ht0 : (0 : Int) ≤ t := by omega
    have htn : (t : Int) < n := by omega
    have HTN : Hid (t < n) := Lib.hid ht1
    clear e e1 hl hll ht1 htl2 f1 f2 f3 hq hsz eav earg c6 t3
    have hlvne : ∀ b, (Value.slice Av tl cv).ownBlock = some b → C ≤ b := fun b e => (HO2.out.lt b e).1
    have HLVN := Lib.hid hlvne
    clear hlvne
    go_wp2_with (at_builtin; refine wpList_pushX _ (by decide) rfl (.tmp 40) (.tmp 51) 22 rfl C Tryd.underlying22 tn_info15 rfl (.slice Av tl cv) ts X rfl (HO2.out.alloc _) ⟨0, nm, []⟩ rfl ⟨w2.heap.size, 0, none⟩ 1 rfl (news_cells (Blk.new w2 58 #[.int .i64 0, .string nm, .slice none 0 0])) ?c3 ?c4 ?c5 ?c6)
    try (case c3 => rw [HTL.out]; unfold maxLen; omega)
    try (case c4 => rw [HTL.out]; omega)
    try (case c5 => simp; have := HK2.out.size; have := HC.out; omega)
    case c6 =>
    intro A9 c9 w9 hown9 hg9 hat9
    rw [HTL.out] at hown9 hat9
    (try rw [HTL.out])
    have HS9 : Hid (WrS B p mb (.slice (some ⟨g, 0, none⟩) n c) tv hm td W r tm lo C l w9 l2) := Lib.hid ((HS2.out.alloc _).grown hg9 (fun b e => (HO2.out.lt b e).1))
    have HK9 : Hid (Kb (WrB (.slice (some ⟨g, 0, none⟩) n c) (.slice Av tl cv)) w w9) := Lib.hid ((HK2.out.alloc _).grown hg9 (fun n e => .inl (.inr e)))
    have HO9 : Hid (OwnX 58 3 w9 C (.slice A9 (tl + 1) c9) (ts ++ [⟨0, nm, []⟩]) X) := Lib.hid hown9
    have HA9 : Hid ((Value.slice A9 (tl + 1) c9).ownBlock = (Value.slice Av tl cv).ownBlock ∨ ∀ g, (Value.slice A9 (tl + 1) c9).ownBlock = some g → w.heap.size ≤ g) := Lib.hid (hat9.imp id (fun e g e2 => by rw [e] at e2; injection e2 with e2; (try simp at e2); have := HK2.out.size; omega))
    clear hown9 hg9 hat9 c5 p0 t1
    have p0 := HS9.out.web.blk.cell 0
    have t3 := (HS9.out.web.nodes.rd HAV.out.1 (k := 3) (by omega)).1
    simp only [PN.cells, List.getElem?_cons_succ, List.getElem?_cons_zero, HAV.out.2.1] at t3
    simp at p0
    go_upto_region 9 with fail
    clear p0 t3 HT3 HS2 HO2 HK2
    go_loopg [1, 10, 62] q (fun gh s1 s10 s62 wx => ∃ (j : Nat) (vo va : Value) (l3 : List PN), s62 = .int .i64 j ∧ s1 = vo ∧ s10 = va ∧ gh = q - j ∧ j ≤ q ∧ WrS B p mb (.slice (some ⟨g, 0, none⟩) n c) tv hm td W r tm lo C l wx l3 ∧ Same0 l2 l3 ∧ Kb (WrB (.slice (some ⟨g, 0, none⟩) n c) (.slice Av tl cv)) w wx ∧
      (vo.ownBlock = (Value.slice Av tl cv).ownBlock ∨ ∀ g, vo.ownBlock = some g → w.heap.size ≤ g) ∧ (∀ g, va.ownBlock = some g → w.heap.size ≤ g) ∧ wx.ownsRow C 3 1 va j (((ofL (Ls.take j)).offs (tl + 1)).map (.int .i64)) ∧
      OwnX 58 3 wx C vo (ts ++ ⟨0, nm, []⟩ :: (ofL (Ls.take j)).flat (tl + 1)) (fun b => X b ∨ va.ownBlock = some b))
    case atStart => exact ⟨0, _, _, l2, rfl, rfl, rfl, rfl, Nat.zero_le _, HS9.out, Same0.refl _, HK9.out, HA9.out, (fun g e => by cases e), World.ownsRow_nil _ _ _ _, HO9.out.widen (fun b h => h.elim .inl (fun e => by cases e))⟩
    case round =>
      clear HS9 HK9 HA9 HO9
      obtain ⟨j, vo, va, l3, rfl, rfl, rfl, rfl, hj, hs3, hsm, hk, ho1, ha1, ha2, ho2⟩ := hrel
      have HS3 := Lib.hid hs3; have HSM := Lib.hid hsm; have HK := Lib.hid hk; have HO1 := Lib.hid ho1; have HA1 := Lib.hid ha1; have HA2 := Lib.hid ha2; have HO2 := Lib.hid ho2
      have hol2 := take_size Ls j
      obtain ⟨Ao, co, ho⟩ := ho2.shape
      have hlen : (ts ++ (⟨0, nm, []⟩ : TN) :: (ofL (Ls.take j)).flat (tl + 1)).length = tl + 1 + (ofL (Ls.take j)).size := by
        rw [List.length_append, List.length_cons, Fo.flat_len, HTL.out]; omega
      rw [hlen] at ho
      have HLEN := Lib.hid hlen
      subst ho
      obtain ⟨Aa, cc, ha⟩ := own_shape ha2
      subst ha
      obtain ⟨m, hm_⟩ : ∃ m, tl + 1 + (ofL (Ls.take j)).size = m := ⟨_, rfl⟩
      have HMM := Lib.hid hm_
      rw [hm_] at HO1 HO2 HLEN
      (try rw [hm_])
      have hm6 : m ≤ 256 := by omega
      have hwx := hk.size
      have HL3 : Hid (l3.length = n) := Lib.hid (hsm.1.trans HL2.out)
      clear hs3 hsm hk ho1 ha1 ha2 ho2 hlen hm_
      have j0 : (0 : Int) ≤ j := by omega
      have hCw : C ≤ wr.heap.size := by have := HC.out; omega
      by_cases hjq : j < q
      · have hjq' : (j : Int) < q := by omega
        have hj1 : j < ks.length := by rw [HQ.out]; exact hjq
        have hj2 : j < Ls.length := by rw [HLQ.out]; exact hjq
        obtain ⟨gs, egs⟩ := HAL.out j hj1
        subst egs
        obtain ⟨a, ha⟩ : ∃ a, ks[j] = a := ⟨_, rfl⟩
        obtain ⟨U, hU⟩ : ∃ U, Ls[j] = U := ⟨_, rfl⟩
        have HLU : Hid (Lay W r tm lo (r a) U) := Lib.hid (by rw [← ha, ← hU]; exact HLL.out.get j hj1 hj2)
        have HAN : Hid (a < n) := Lib.hid (by rw [← ha]; exact HKN.out _ (List.getElem_mem hj1))
        have HTK : Hid (ofL (Ls.take (j + 1)) = (ofL (Ls.take j)).app2 U) := Lib.hid (by rw [take_ofL hj2, hU])
        have hsU : (ofL (Ls.take j)).size + U.size ≤ (ofL Ls).size := by
          have h1 := take_size Ls (j + 1)
          rw [HTK.out, Fo.size_app2] at h1; exact h1
        have au : wr.cell? ⟨gs, j, none⟩ = some (.int .i64 a) := by
          have htl4 : t < l3.length := by rw [HL3.out]; exact HTN.out
          obtain ⟨A, c', e, f⟩ := HS3.out.web.nodes.arg htl4
          have e9 := HSM.out.2 t HAV.out.1 htl4
          have e10 : l3[t].args = ks := by rw [e9]; exact HAV.out.2.2
          have e11 : l3[t].av = .slice (some ⟨gs, 0, none⟩) q ca := by rw [e9]; exact HAV.out.2.1
          obtain ⟨g', e2, e3⟩ := f j (by rw [e10]; exact hj1)
          rw [e11] at e
          injection e with e _ _
          rw [e2] at e
          injection e with e
          injection e with e
          subst e
          rw [e3]
          simp only [e10, ha]
        have HCALL := Lib.hid (fun v' ts' X' w' (h5 : WrS B p mb (.slice (some ⟨g, 0, none⟩) n c) tv hm td W r tm lo C l3 w' l3) h6 h7 h8 h9 => HIH.out U w' l3 a v' ts' X' (by have := HLU.out.size_pos; omega) HLU.out HAN.out HL3.out h5 h6 h7 h8 h9)
        have HONE : Hid U.one := Lib.hid HLU.out.one
        clear ha hU hj1 hj2
        have HAL2 := Lib.hid (HA2.out.alloc (.cells #[.int .i64 m] 3))
        go_wp2_with (at_builtin; refine wpList_append_from _ rfl (.tmp 66) (.tmp 69) 51 rfl C 3 Tryd.underlying51 int_info15 rfl (by omega) (.slice Aa j cc) j (((ofL (Ls.take j)).offs (tl + 1)).map (.int .i64)) ?a1 HAL2.out (some ⟨wr.heap.size, 0, none⟩) 1 1 [.int .i64 m] ?a2 rfl (fun e => by cases e) (fun ad e => by cases e; exact news_cells (Blk.new wr 3 #[.int .i64 m])) ?a3 ?a4 ?a5 ?a6 ?a7)
        try (case a1 => rfl)
        try (case a2 => rfl)
        try (case a3 => intro u hu; simp at hu; subst hu; rfl)
        try (case a4 => unfold maxLen; omega)
        try (case a5 => omega)
        try (case a6 => simp; omega)
        case a7 =>
        intro A5 c5 w5 hown5 hg5 hat5
        have HAC : Hid (∀ b, (Value.slice Aa j cc).ownBlock = some b → C ≤ b) := Lib.hid (fun b e => (HA2.out.lt b e).1)
        have HS5 : Hid (WrS B p mb (.slice (some ⟨g, 0, none⟩) n c) tv hm td W r tm lo C l w5 l3) := Lib.hid ((HS3.out.alloc _).grown hg5 HAC.out)
        have HK5 : Hid (Kb (WrB (.slice (some ⟨g, 0, none⟩) n c) (.slice Av tl cv)) w w5) := Lib.hid ((HK.out.alloc _).grown hg5 (fun j e => .inr (HA1.out j e)))
        have HA15 : Hid (∀ g, (Value.slice A5 (j + 1) c5).ownBlock = some g → w.heap.size ≤ g) := Lib.hid (fun g e => by
          rcases hat5 with h | h
          · rw [h] at e; exact HA1.out g e
          · rw [h] at e; injection e with e; (try simp at e); omega)
        have HO25 : Hid (OwnX 58 3 w5 C (.slice Ao m co) (ts ++ ⟨0, nm, []⟩ :: (ofL (Ls.take j)).flat (tl + 1)) (fun b => X b ∨ (Value.slice A5 (j + 1) c5).ownBlock = some b)) := Lib.hid (by
          have h1 := (HO2.out.widen (Y := fun b => (X b ∨ (Value.slice Aa j cc).ownBlock = some b) ∨ wr.heap.size ≤ b) (fun b h => h)).alloc (.cells #[.int .i64 m] 3)
          have h2 := h1.keptX hg5 (fun b e => .inl (.inr e)) (fun b e => HO2.out.ne_ints (by decide) HA2.out b e)
          refine h2.widen (fun b h => .inl ?_)
          rcases h with h | h
          · exact .inl (.inl h)
          · rcases hat5 with e | e
            · rw [e] at h; exact .inl (.inr h)
            · rw [e] at h; injection h with h; exact .inr (by (try simp at h); omega))
        have HX5 : Hid (∀ b, (X b ∨ (Value.slice A5 (j + 1) c5).ownBlock = some b) → b < w5.heap.size) := Lib.hid (fun b h => by
          rcases h with h | h
          · exact Nat.lt_of_lt_of_le (HXX.out b h) HK5.out.size
          · exact (hown5.lt b h).2)
        have HOW5 := Lib.hid hown5
        clear hown5 hg5 hat5 HAL2 au HO2 HA2
        go_wp2_with fail
        refine (HCALL.out _ _ _ _ ⟨HS5.out.web, HS5.out.pw, Ups.refl _, HS5.out.low⟩ (by have := HK5.out.size; have := HC.out; omega) HO25.out HX5.out (by rw [HLEN.out]; have hmm := HMM.out; omega)).mono ?_
        rintro _ w6 ⟨A6, c6, l6, rfl, p1, p2, pk, p3⟩
        have hnl : (ts ++ (⟨0, nm, []⟩ : TN) :: (ofL (Ls.take j)).flat (tl + 1)).length = m := HLEN.out
        rw [hnl] at p1 p3 ⊢
        have HFN : Hid ((ts ++ (⟨0, nm, []⟩ : TN) :: (ofL (Ls.take j)).flat (tl + 1)) ++ U.flat m = ts ++ ⟨0, nm, []⟩ :: (ofL (Ls.take (j + 1))).flat (tl + 1)) := Lib.hid (by
          rw [HTK.out, Fo.flat_app2, HMM.out]; simp)
        have HON2 : Hid (((ofL (Ls.take j)).offs (tl + 1)).map (Value.int .i64) ++ [.int .i64 m] = ((ofL (Ls.take (j + 1))).offs (tl + 1)).map (.int .i64)) := Lib.hid (by
          rw [HTK.out, Fo.offs_app2, Fo.one_offs HONE.out, HMM.out]; simp)
        have HS6 : Hid (WrS B p mb (.slice (some ⟨g, 0, none⟩) n c) tv hm td W r tm lo C l w6 l6) := Lib.hid ⟨p2.web, p2.pw, HS5.out.ups.trans p2.ups, p2.low⟩
        have HSM6 : Hid (Same0 l2 l6) := Lib.hid (HSM.out.trans p2.ups.same0)
        have HK6 : Hid (Kb (WrB (.slice (some ⟨g, 0, none⟩) n c) (.slice Av tl cv)) w w6) := Lib.hid (HK5.out.trans pk (fun j e => by
          rcases e with e | e
          · exact .inl (.inl e)
          · rcases HO1.out with h | h
            · exact .inl (.inr (by rw [← h]; exact e))
            · exact .inr (h j e)))
        have HO16 : Hid ((Value.slice A6 (m + (U.flat m).length) c6).ownBlock = (Value.slice Av tl cv).ownBlock ∨ ∀ g, (Value.slice A6 (m + (U.flat m).length) c6).ownBlock = some g → w.heap.size ≤ g) := Lib.hid (by
          rcases p3 with h | h
          · rcases HO1.out with h2 | h2
            · exact .inl (h.trans h2)
            · exact .inr (fun g e => h2 g (by rw [← h]; exact e))
          · exact .inr (fun g e => Nat.le_trans HK5.out.size (h g e)))
        have HO26 : Hid (OwnX 58 3 w6 C (.slice A6 (m + (U.flat m).length) c6) (ts ++ ⟨0, nm, []⟩ :: (ofL (Ls.take (j + 1))).flat (tl + 1)) (fun b => X b ∨ (Value.slice A5 (j + 1) c5).ownBlock = some b)) := Lib.hid (by rw [← HFN.out]; exact p1)
        have HA26 : Hid (w6.ownsRow C 3 1 (.slice A5 (j + 1) c5) (j + 1) (((ofL (Ls.take (j + 1))).offs (tl + 1)).map (.int .i64))) := Lib.hid (by
          rw [← HON2.out]
          refine own_kb HOW5.out pk (fun g' e => ?_)
          rintro (h | h)
          · have := HS5.out.low.lv g' h; have := (HOW5.out.lt g' e).1; omega
          · exact HO25.out.ne_ints (by decide) HOW5.out g' e h)
        clear p1 p2 pk p3 hnl HO25 HOW5 HS5 HK5 HX5
        go_wp2_with fail
        go_roundg (q - (j + 1))
        case measure => omega
        case rel => exact ⟨j + 1, _, _, l6, by go_num, rfl, rfl, rfl, by omega, HS6.out, HSM6.out, HK6.out, HO16.out, HA15.out, HA26.out, HO26.out⟩
      · have hjq' : ¬ (j : Int) < q := by omega
        have HTE : Hid (Ls.take j = Ls) := Lib.hid (List.take_of_length_le (by rw [HLQ.out]; omega))
        have htm : tl < m := by have := HMM.out; omega
        have hmi : (tl : Int) < m := by omega
        have t0 : (0 : Int) ≤ tl := by omega
        have hti : tl < (ts ++ (⟨0, nm, []⟩ : TN) :: (ofL (Ls.take j)).flat (tl + 1)).length := by rw [HLEN.out]; exact htm
        obtain ⟨g9, cap, av, hvg, hgB, hgl, x0, x1, x2, y0, y1, y2, hrest⟩ := HO2.out.nodes.at_ hti
        clear x0 x1 y0 y1 hrest
        rw [HLEN.out] at hvg
        injection hvg with hv1 hv3 hv2
        subst hv1; subst hv2
        clear hv3
        have HXS : Hid (((ofL (Ls.take j)).offs (tl + 1)).length = j) := Lib.hid (by
          have h := HA2.out.1
          rw [List.length_map, Nat.mul_one] at h; exact h)
        have hset := HO2.out.setArgs (by decide) hti (a := .slice Aa j cc) (xs := (ofL (Ls.take j)).offs (tl + 1)) (Y := X) (by rw [HXS.out]; exact HA2.out) (fun b e => .inr e) (fun b h => ⟨.inl h, fun e => by have h1 := HXX.out b h; have h2 := HA1.out b e; omega⟩)
        have hflat : (Fo.app nm (ofL Ls) .nil).flat tl = ⟨0, nm, (ofL Ls).offs (tl + 1)⟩ :: ((ofL Ls).flat (tl + 1) ++ []) := rfl
        have HLM : Hid (m = tl + ((Fo.app nm (ofL Ls) .nil).flat tl).length) := Lib.hid (by rw [Fo.flat_len, ← HMM.out, HTE.out]; show _ = tl + (1 + _ + 0); omega)
        have HFIN : Hid (OwnX 58 3 (wr.setCell ⟨g9, tl * 3 + 2, none⟩ (.slice Aa j cc)) C (.slice (some ⟨g9, 0, none⟩) (tl + ((Fo.app nm (ofL Ls) .nil).flat tl).length) co) (ts ++ (Fo.app nm (ofL Ls) .nil).flat tl) X) := Lib.hid (by
          rw [← HLM.out, hflat, List.append_nil]
          have e1 : (ts ++ (⟨0, nm, []⟩ : TN) :: (ofL (Ls.take j)).flat (tl + 1))[tl]'hti = ⟨0, nm, []⟩ := by
            rw [List.getElem_append_right (by rw [HTL.out]; exact Nat.le_refl _)]
            simp [HTL.out]
          have h2 := hset
          rw [e1] at h2
          have e2 := set_mid ts ⟨0, nm, []⟩ ⟨0, nm, (ofL (Ls.take j)).offs (tl + 1)⟩ ((ofL (Ls.take j)).flat (tl + 1))
          rw [HTL.out] at e2
          rw [show ({ (⟨0, nm, []⟩ : TN) with args := (ofL (Ls.take j)).offs (tl + 1) } : TN) = ⟨0, nm, (ofL (Ls.take j)).offs (tl + 1)⟩ from rfl, e2, HTE.out] at h2
          exact h2)
        have HSF : Hid (WrS B p mb (.slice (some ⟨g, 0, none⟩) n c) tv hm td W r tm lo C l (wr.setCell ⟨g9, tl * 3 + 2, none⟩ (.slice Aa j cc)) l3) := Lib.hid (HS3.out.grown (grown_set wr g9 (tl * 3 + 2) _) (fun b e => by injection e with e; subst e; exact hgB))
        have HKF : Hid (Kb (WrB (.slice (some ⟨g, 0, none⟩) n c) (.slice Av tl cv)) w (wr.setCell ⟨g9, tl * 3 + 2, none⟩ (.slice Aa j cc))) := Lib.hid (HK.out.setCell (by
          rcases HO1.out with h | h
          · exact .inl (.inr (by rw [← h]; rfl))
          · exact .inr (h g9 rfl)) _)
        have HO1F : Hid ((Value.slice (some ⟨g9, 0, none⟩) m co).ownBlock = (Value.slice Av tl cv).ownBlock ∨ ∀ g', (Value.slice (some ⟨g9, 0, none⟩) m co).ownBlock = some g' → w.heap.size ≤ g') := HO1
        clear hset hti hflat HO1 hgB
        go_wp2_with fail
        go_ret
        unfold WritePost
        rw [HTL.out]
        exact ⟨some ⟨g9, 0, none⟩, co, l3, by rw [← HLM.out]; rfl, HFIN.out, HSF.out, HKF.out, by rw [← HLM.out]; exact HO1F.out⟩
end Go.Proofs.YtgcbnndbeoekgaaDoor
