import Derived.Test.YtgcbnndbeoekgaaRTerm
import Derived.Test.YtgcbnndbeoekgaaWriteM
import Derived.IntWalk
set_option linter.unusedSimpArgs false
set_option linter.unusedVariables false
section
/- the document's web.least: a class's least hole -/
namespace Go.Proofs.Ytgcbnndbeoekgaa
open Go Go.RowKit Go.Maps

theorem lowTo_next {ns : List TN} {cl : List Nat} {c j v x : Nat} (hj : j < ns.length) (hc : j < cl.length) (hv : ns[j].var = (v : Nat)) (hx : cl[j] = x) : lowTo ns cl c (j + 1) = if x = c ∧ 0 < v ∧ (lowTo ns cl c j = 0 ∨ v < lowTo ns cl c j) then v else lowTo ns cl c j := by
  show lowStep ns cl c (lowTo ns cl c j) j = _
  unfold lowStep
  have h1 : ((ns[j]?.map TN.var).getD 0).toNat = v := by simp [hj, hv]
  rw [h1, rOf_at hc, hx]

set_option maxRecDepth 100000 in
set_option maxHeartbeats 8000000 in
theorem rleast_any (w : World) (B p g gc n cn cc : Nat) (ns : List TN) (cl : List Nat) (h : RM w B p (.slice (some ⟨g, 0, none⟩) n cn) (.slice (some ⟨gc, 0, none⟩) n cc) ns cl) (hl : n ≤ 1048576) (hn1 : ns.length = n) (hn2 : cl.length = n) (hvar : ∀ t ∈ ns, 0 ≤ t.var ∧ t.var ≤ 2147483647) (c : Nat) :
    Calls Try.prog 54 #[.pointer (some ⟨p, 0, none⟩), .int .i64 c] w fun e w' => e = .returned (.int .i64 (loR ns cl c : Nat)) ∧ w = w' := by
  have HM := Lib.hid h
  have HN1 := Lib.hid hn1; have HN2 := Lib.hid hn2; have HV := Lib.hid hvar
  have p0 := h.blk.cell 0; have p1 := h.blk.cell 1
  simp at p0 p1
  clear h hn1 hn2 hvar
  go_enter Try.func54, Try.ntmps54
  go_upto_region 3 with fail
  go_loopg [5, 6] n (fun gh s5 s6 wx => ∃ (j : Nat), s6 = .int .i64 j ∧ s5 = .int .i64 (lowTo ns cl c j : Nat) ∧ gh = n - j ∧ j ≤ n ∧ w = wx)
  case atStart => exact ⟨0, rfl, rfl, rfl, Nat.zero_le _, rfl⟩
  case round =>
    obtain ⟨j, rfl, rfl, rfl, hj, rfl⟩ := hrel
    have j0 : (0 : Int) ≤ j := by omega
    by_cases hlt : j < n
    · have hlt' : (j : Int) < n := by omega
      have HJN : Hid (j < ns.length) := Lib.hid (by rw [HN1.out]; exact hlt)
      have HJC : Hid (j < cl.length) := Lib.hid (by rw [HN2.out]; exact hlt)
      obtain ⟨hgl, S, k, d0, _, _, _, _, _⟩ := HM.out.nodeG HJN.out
      obtain ⟨e0, f0, _⟩ := HM.out.clsG HJC.out
      have hvv := HV.out _ (List.getElem_mem HJN.out)
      obtain ⟨v, hv⟩ : ∃ v : Nat, (ns[j]'HJN.out).var = (v : Int) := ⟨(ns[j]'HJN.out).var.toNat, by omega⟩
      obtain ⟨x, hx⟩ : ∃ x, cl[j]'HJC.out = x := ⟨_, rfl⟩
      have HNX := Lib.hid (lowTo_next (c := c) HJN.out HJC.out hv hx)
      rw [hx] at e0
      rw [hv] at d0
      obtain ⟨u, hu⟩ : ∃ u, lowTo ns cl c j = u := ⟨_, rfl⟩
      obtain ⟨u', hu'⟩ : ∃ u', lowTo ns cl c (j + 1) = u' := ⟨_, rfl⟩
      rw [hu, hu'] at HNX
      have HUE := Lib.hid hu'
      (try rw [hu])
      clear hx hv hu hu' hvv
      by_cases hxc : x = c
      · subst hxc
        by_cases hv0 : 0 < v
        · have hv0' : (0 : Int) < v := by omega
          by_cases hu0 : u = 0
          · subst hu0
            have HU : Hid (u' = v) := Lib.hid (by rw [HNX.out, if_pos ⟨rfl, hv0, .inl rfl⟩])
            clear HNX
            go_wp2
            go_roundg (n - (j + 1))
            case measure => omega
            case rel => exact ⟨j + 1, by go_num, by rw [HUE.out, HU.out], rfl, by omega, rfl⟩
          · have hu0' : ¬ (u : Int) = 0 := by omega
            by_cases hvu : v < u
            · have hvu' : (v : Int) < u := by omega
              have HU : Hid (u' = v) := Lib.hid (by rw [HNX.out, if_pos ⟨rfl, hv0, .inr hvu⟩])
              clear HNX
              go_wp2
              go_roundg (n - (j + 1))
              case measure => omega
              case rel => exact ⟨j + 1, by go_num, by rw [HUE.out, HU.out], rfl, by omega, rfl⟩
            · have hvu' : ¬ (v : Int) < u := by omega
              have HU : Hid (u' = u) := Lib.hid (by rw [HNX.out, if_neg (fun h => by omega)])
              clear HNX
              go_wp2
              go_roundg (n - (j + 1))
              case measure => omega
              case rel => exact ⟨j + 1, by go_num, by rw [HUE.out, HU.out], rfl, by omega, rfl⟩
        · have hv0' : ¬ (0 : Int) < v := by omega
          have HU : Hid (u' = u) := Lib.hid (by rw [HNX.out, if_neg (fun h => by omega)])
          clear HNX
          go_wp2
          go_roundg (n - (j + 1))
          case measure => omega
          case rel => exact ⟨j + 1, by go_num, by rw [HUE.out, HU.out], rfl, by omega, rfl⟩
      · have hxc' : ¬ (x : Int) = c := by omega
        have HU : Hid (u' = u) := Lib.hid (by rw [HNX.out, if_neg (fun h => hxc h.1)])
        clear HNX
        go_wp2
        go_roundg (n - (j + 1))
        case measure => omega
        case rel => exact ⟨j + 1, by go_num, by rw [HUE.out, HU.out], rfl, by omega, rfl⟩
    · have hlt' : ¬ (j : Int) < n := by omega
      have hjn : j = n := by omega
      have HE : Hid (lowTo ns cl c j = loR ns cl c) := Lib.hid (by unfold loR; rw [hjn, HN1.out])
      rw [HE.out]
      clear hjn
      go_wp2
      go_ret
      exact ⟨rfl, rfl⟩
end Go.Proofs.Ytgcbnndbeoekgaa
end
section
/- the document's web.laid: what a class stands for, laid out -/
namespace Go.Proofs.Ytgcbnndbeoekgaa
open Go Go.RowKit Go.Maps

theorem tnode_infoL : (Try.prog.info? 66).map (fun i => (i.zero, i.size, i.bytes)) = some (some (.agg #[.int .i64 0, .string ⟨#[]⟩, .slice none 0 0]), 3, 48) := by kernel_rfl
/-- so far laid out behind a term's node: its places, and its nodes; or too many -/
structure LJ (tl : Nat) (F : Fo) (offs : List Int) (more : List TN) : Prop where
  eq : tl + 1 + F.size ≤ 256 → offs = F.offs (tl + 1) ∧ more = F.flat (tl + 1)
  big : 256 < tl + 1 + F.size → 256 < tl + 1 + more.length
  le : tl + 1 + more.length ≤ 257
theorem LJ.next {tl m : Nat} {F U : Fo} {offs : List Int} {more more2 : List TN} (h : LJ tl F offs more) (h1 : U.one) (hm : tl + 1 + more.length = m) (he : m + U.size ≤ 256 → more2 = U.flat m) (hb : 256 < m + U.size → 256 < m + more2.length) (hl : m + more2.length ≤ 257) : LJ tl (F.app2 U) (offs ++ [(m : Int)]) (more ++ more2) := by
  have hs := Fo.size_app2 F U
  have hp := Fo.one_size h1
  refine ⟨fun hle => ?_, fun hgt => ?_, by rw [List.length_append]; omega⟩
  · obtain ⟨e1, e2⟩ := h.eq (by omega)
    have hm2 : m = tl + 1 + F.size := by rw [← hm, e2, Fo.flat_len]
    rw [Fo.offs_app2, Fo.flat_app2, Fo.one_offs h1, ← hm2, e1, e2, he (by omega)]
    exact ⟨rfl, rfl⟩
  · rw [List.length_append]
    by_cases h2 : tl + 1 + F.size ≤ 256
    · obtain ⟨_, e2⟩ := h.eq h2
      have hm2 : m = tl + 1 + F.size := by rw [← hm, e2, Fo.flat_len]
      have := hb (by omega)
      omega
    · have := h.big (by omega)
      omega
/-- the blocks that laid writes: the row's, and rows of numbers -/
def XL (w : World) (C : Nat) (v : Value) (b : Nat) : Prop := v.ownBlock = some b ∨ (C ≤ b ∧ ∃ cs, Blk w b 3 cs)
theorem XL.int {w wx : World} {C : Nat} {v : Value} (h : Kb (XL w C v) w wx) {b : Nat} {cs : Array Value} (hb : Blk wx b 3 cs) (hC : C ≤ b) : XL w C v b ∨ w.heap.size ≤ b := by
  by_cases hx : XL w C v b
  · exact .inl hx
  · by_cases hl : b < w.heap.size
    · exact .inl (.inr ⟨hC, cs, (h.block b hl hx).symm.trans hb⟩)
    · exact .inr (by omega)
theorem XL.row {w wx : World} {C base n : Nat} {v a : Value} {xs : List Value} (h : Kb (XL w C v) w wx) (ha : wx.ownsRow base 3 1 a n xs) (hC : C ≤ base) {b : Nat} (e : a.ownBlock = some b) : XL w C v b ∨ w.heap.size ≤ b := by
  rcases ha.2 with ⟨rfl, _⟩ | ⟨g, cap, cur, rfl, hb, hh, _⟩
  · simp [Value.ownBlock] at e
  · simp [Value.ownBlock] at e
    subst e
    exact XL.int (b := g) h (show Blk wx g 3 cur from hh) (by omega)
theorem XL.trans {w wx wy : World} {C : Nat} {v vo : Value} (h : Kb (XL w C v) w wx) (h2 : Kb (XL wx C vo) wx wy) (hv : ∀ b, vo.ownBlock = some b → v.ownBlock = some b ∨ w.heap.size ≤ b) : Kb (XL w C v) w wy := by
  refine h.trans h2 fun b hb => ?_
  rcases hb with hb | ⟨hb, cs, h3⟩
  · exact (hv b hb).imp .inl id
  · exact XL.int h h3 hb
theorem frozen_of_block {a b : World} {p : Addr} (h : b.heap[p.block]? = a.heap[p.block]?) : b.frozen? p = a.frozen? p := by
  unfold World.frozen?
  rw [h]
def LaidPost (w : World) (C : Nat) (v : Value) (ts : List TN) (T : Fo) (e : Ending) (w' : World) : Prop :=
  ∃ v' more, e = .returned v' ∧ OwnNodes 66 3 w' C v' (ts ++ more) ∧ Kb (XL w C v) w w' ∧ (v'.ownBlock = v.ownBlock ∨ ∀ g, v'.ownBlock = some g → w.heap.size ≤ g) ∧
    (ts.length + T.size ≤ 256 → more = T.flat ts.length) ∧ (256 < ts.length + T.size → 256 < ts.length + more.length) ∧ ts.length + more.length ≤ 257
set_option maxRecDepth 100000 in
set_option maxHeartbeats 16000000 in
theorem rlaid_any (w0 : World) (B p g gc n cn cc : Nat) (ns : List TN) (cl : List Nat) (W : WebT) (E : List (Fo × Fo)) (hm0 : RM w0 B p (.slice (some ⟨g, 0, none⟩) n cn) (.slice (some ⟨gc, 0, none⟩) n cc) ns cl) (hrw : RW W E ns cl) (hl : n ≤ 1048576) (hn : ns.length = n) (C : Nat) (hC0 : w0.heap.size ≤ C) :
    ∀ (d : Nat) (T : Fo) (w : World) (c : Nat) (v : Value) (ts : List TN), T.size ≤ d → Lay W (rOf cl) (tmR ns cl) (loR ns cl) c T → Below C w0 w → C ≤ w.heap.size → OwnNodes 66 3 w C v ts → ts.length ≤ 257 →
    Calls Try.prog 55 #[.pointer (some ⟨p, 0, none⟩), v, .int .i64 c] w (LaidPost w C v ts T) := by
  have HM0 := Lib.hid hm0; have HRW := Lib.hid hrw; have HN := Lib.hid hn; have HC0 := Lib.hid hC0
  have HCN : Hid (cl.length = n) := Lib.hid (by rw [hrw.cn, hn])
  have HRV : Hid (∀ t ∈ ns, 0 ≤ t.var ∧ t.var ≤ 2147483647) := Lib.hid (fun t ht => (hrw.node t ht).var)
  clear hm0 hrw hn hC0
  intro d
  induction d with
  | zero => intro T w c v ts hd hT; have := hT.size_pos; omega
  | succ d ih =>
  intro T w c v ts hd hT hb hC hown h257
  have HIH := Lib.hid ih; have HB := Lib.hid hb; have HC := Lib.hid hC
  obtain ⟨Av, cv, rfl⟩ := hown.shape
  have HOWN := Lib.hid hown
  obtain ⟨tl, htl⟩ : ∃ tl, ts.length = tl := ⟨_, rfl⟩
  have HTL := Lib.hid htl
  have hpos := hT.size_pos
  have HT := Lib.hid hT
  rw [htl] at HOWN h257 ⊢
  have HBV : Hid (∀ b, (Value.slice Av tl cv).ownBlock = some b → C ≤ b ∧ b < w.heap.size) := Lib.hid (fun b e => by have := hown.ownLt b (by rw [htl]; exact e); exact this)
  clear ih hb hC hown htl hT
  by_cases hbig : 256 < tl
  · have hbig' : (256 : Int) < tl := by omega
    go_enter Try.func55, Try.ntmps55
    go_wp2
    go_ret
    refine ⟨_, [], rfl, by simpa using HOWN.out, Kb.refl _ _, .inl rfl, fun h => ?_, fun _ => ?_, ?_⟩
    · rw [HTL.out] at h; omega
    · rw [HTL.out]; simpa using hbig
    · rw [HTL.out]; simpa using h257
  have hbig' : ¬ (256 : Int) < tl := by omega
  have HBW0 : Hid (Below w0.heap.size w0 w) := Lib.hid (HB.out.mono HC0.out)
  have HTC := Lib.hid (rterm_at w0 w B p g gc n cn cc ns cl HM0.out HBW0.out hl HN.out HCN.out c)
  go_enter Try.func55, Try.ntmps55
  go_wp2_with fail
  refine HTC.out.mono ?_
  clear HTC
  rintro _ w2 ⟨ht, hb2⟩
  have HB2 := Lib.hid hb2
  have hT := HT.out
  rcases ht with ⟨t, htl, htm, S, k, rfl, hk1, hk2, hargs⟩ | ⟨htm, rfl⟩
  · cases hT with
    | hole _ e => rw [htm] at e; cases e
    | app _ t' nm ks Ls e e1 hL =>
      rw [htm] at e
      injection e with e
      subst e
      obtain ⟨_, z1, z2⟩ := HRW.out.of_app htl e1
      have HTM := Lib.hid htm; have HAR := Lib.hid hargs; have HTT := Lib.hid htl; have HLL := Lib.hid hL
      obtain ⟨q, hq⟩ : ∃ q, (ns[t]'htl).args.length = q := ⟨_, rfl⟩
      have HQ := Lib.hid hq
      have HAQ : Hid (ks = (ns[t]'HTT.out).args.map Int.toNat) := Lib.hid z2.symm
      have HLQ : Hid (Ls.length = q) := Lib.hid (by rw [← hL.len, ← z2, List.length_map, hq])
      have hsz : (Fo.app nm (ofL Ls) .nil).size = 1 + (ofL Ls).size := rfl
      rw [hsz] at hd
      rw [z1, hq]
      rw [hq] at hk1
      have hkk : q ≤ k ∧ k ≤ 9223372036854775807 := by unfold maxLen at hk2; omega
      have HQ2 : Hid (q ≤ 256) := Lib.hid (by rw [← hq]; exact (HRW.out.node _ (List.getElem_mem htl)).few)
      clear htm hargs hk1 hk2 hL e1 z1 z2 hq hsz hb2
      go_upto_region 7 with fail
      obtain ⟨qt, hqt⟩ : ∃ z, w2.heap.size = z := ⟨_, rfl⟩
      obtain ⟨w3, hw3⟩ : ∃ z : World, w2.alloc (.cells #[.int .i64 0, .string nm, .slice S q k] 66) = z := ⟨_, rfl⟩
      have HB23 : Hid (Below w2.heap.size w2 w3) := Lib.hid (by rw [← hw3]; exact (Below.refl _ _).alloc (Nat.le_refl _) _)
      have HX3 : Hid (Blk w3 qt 66 #[.int .i64 0, .string nm, .slice S q k]) := Lib.hid (by rw [← hw3]; exact Blk.new' hqt.symm)
      have HB3 : Hid (Below w.heap.size w w3) := Lib.hid (HB2.out.trans (HB23.out.mono HB2.out.size))
      have HQT : Hid (w.heap.size ≤ qt) := Lib.hid (by rw [← hqt]; exact HB2.out.size)
      have HO3 : Hid (OwnNodes 66 3 w3 C (.slice Av tl cv) ts) := Lib.hid (HOWN.out.below HB3.out)
      (try rw [hqt])
      (try rw [hw3])
      clear hqt hw3 HB2 HB23 HOWN
      have x1 := HX3.out.cell 1
      simp at x1
      have HC3 : Hid (C ≤ w3.heap.size) := Lib.hid (Nat.le_trans HC.out HB3.out.size)
      have HOX : Hid (OwnX 66 3 w3 C (.slice Av tl cv) ts (fun _ => False)) := Lib.hid (OwnX.of HO3.out (fun _ h => h.elim))
      go_wp2_with (at_builtin; refine wpList_pushX _ (by decide) rfl (.tmp 32) (.tmp 36) 22 rfl C Try.underlying22 tnode_infoL rfl (.slice Av tl cv) ts (fun _ => False) rfl (HOX.out.alloc _) ⟨0, nm, []⟩ rfl ⟨w3.heap.size, 0, none⟩ 1 rfl (news_cells (Blk.new w3 66 #[.int .i64 0, .string nm, .slice none 0 0])) ?c3 ?c4 ?c5 ?c6)
      try (case c3 => rw [HTL.out]; unfold maxLen; omega)
      try (case c4 => rw [HTL.out]; omega)
      try (case c5 => have := HC3.out; simp; omega)
      case c6 =>
      intro A9 c9 w9 hown9 hg9 hat9
      rw [HTL.out] at hown9 hat9
      (try rw [HTL.out])
      have HO9 : Hid (OwnNodes 66 3 w9 C (.slice A9 (tl + 1) c9) (ts ++ [⟨0, nm, []⟩])) := Lib.hid hown9.nodes
      have HK3 : Hid (Kb (XL w C (.slice Av tl cv)) w w3) := Lib.hid (Kb.of_below HB3.out (fun b h1 h2 => by omega))
      have HK9 : Hid (Kb (XL w C (.slice Av tl cv)) w w9) := Lib.hid ((HK3.out.alloc _).grown hg9 (fun b e => .inl (.inl e)))
      have HX9 : Hid (Blk w9 qt 66 #[.int .i64 0, .string nm, .slice S q k]) := Lib.hid ((HX3.out.alloc _).grown hg9 (fun e => by have := (HBV.out qt e.symm).2; have := HQT.out; omega))
      have HA9 : Hid (((Value.slice A9 (tl + 1) c9).ownBlock = (Value.slice Av tl cv).ownBlock ∨ ∀ g, (Value.slice A9 (tl + 1) c9).ownBlock = some g → w.heap.size ≤ g) ∧ (Value.slice A9 (tl + 1) c9).ownBlock ≠ some qt) := Lib.hid (by
        have h1 := HB3.out.size
        have h2 := HX3.out.lt
        rcases hat9 with e | e
        · exact ⟨.inl e, fun e2 => by rw [e] at e2; have := (HBV.out qt e2).2; have := HQT.out; omega⟩
        · refine ⟨.inr fun g' e2 => ?_, fun e2 => ?_⟩
          · rw [e] at e2; injection e2 with e2; (try simp at e2); omega
          · rw [e] at e2; injection e2 with e2; (try simp at e2); omega)
      clear hown9 hg9 hat9 x1 HOX HO3 HB3 HX3 HC3 HK3
      have HLJ0 : Hid (LJ tl (ofL (Ls.take 0)) [] []) := Lib.hid ⟨fun _ => ⟨rfl, rfl⟩, fun h => h, by simp; omega⟩
      go_upto_region 9 with fail
      go_loopg [1, 10] q (fun gh s1 s10 wx => ∃ (j : Nat) (vo : Value) (offs : List Int) (more : List TN), s1 = vo ∧ s10 = .int .i64 j ∧ gh = q - j ∧ j ≤ q ∧ offs.length = j ∧ LJ tl (ofL (Ls.take j)) offs more ∧ OwnNodes 66 3 wx C vo (ts ++ ⟨0, nm, offs⟩ :: more) ∧ Kb (XL w C (.slice Av tl cv)) w wx ∧ ((vo.ownBlock = (Value.slice Av tl cv).ownBlock ∨ ∀ g, vo.ownBlock = some g → w.heap.size ≤ g) ∧ vo.ownBlock ≠ some qt) ∧ Blk wx qt 66 #[.int .i64 0, .string nm, .slice S q k])
      case atStart => exact ⟨0, _, [], [], rfl, rfl, rfl, Nat.zero_le _, rfl, HLJ0.out, HO9.out, HK9.out, HA9.out, HX9.out⟩
      case round =>
        clear HO9 HK9 HA9 HX9 HLJ0
        obtain ⟨j, vo, offs, more, hvo, rfl, rfl, hj, hoj, hlj, ho, hk, ha, hx⟩ := hrel
        have hvo2 := hvo.symm
        clear hvo
        subst hvo2
        have HOJ := Lib.hid hoj; have HLJ := Lib.hid hlj; have HO := Lib.hid ho; have HK := Lib.hid hk; have HA := Lib.hid ha; have HX := Lib.hid hx
        obtain ⟨m, hmm⟩ : ∃ m, tl + 1 + more.length = m := ⟨_, rfl⟩
        have HMM := Lib.hid hmm
        have hm57 : m ≤ 257 := by rw [← hmm]; exact hlj.le
        have htm1 : tl < m := by omega
        have HLEN : Hid ((ts ++ (⟨0, nm, offs⟩ : TN) :: more).length = m) := Lib.hid (by rw [List.length_append, List.length_cons, HTL.out]; omega)
        have hti : tl < (ts ++ (⟨0, nm, offs⟩ : TN) :: more).length := by rw [HLEN.out]; exact htm1
        have hget : (ts ++ (⟨0, nm, offs⟩ : TN) :: more)[tl]'hti = ⟨0, nm, offs⟩ := by
          rw [List.getElem_append_right (by have := HTL.out; omega)]
          simp [HTL.out]
        have HGET : Hid (∃ h : tl < (ts ++ (⟨0, nm, offs⟩ : TN) :: more).length, (ts ++ (⟨0, nm, offs⟩ : TN) :: more)[tl]'h = ⟨0, nm, offs⟩) := Lib.hid ⟨hti, hget⟩
        have x2 := HX.out.cell 2
        simp at x2
        have j0 : (0 : Int) ≤ j := by omega
        have HCW : Hid (C ≤ wr.heap.size) := Lib.hid (Nat.le_trans HC.out hk.size)
        clear hlj hk ha hx hmm
        by_cases hjq : j < q
        · have hjq' : (j : Int) < q := by omega
          obtain ⟨gv, capv, av, ev, hgC, hgl, -, -, d2, -, -, f2, hav, ⟨Aa, ca, ea⟩, hc1, hc2⟩ := ho.at_ hti
          rw [hget] at hav ea
          rw [HLEN.out] at ev hc1
          replace hav : wr.ownsRow C 3 1 av offs.length (offs.map (.int .i64)) := hav
          replace ea : av = .slice Aa offs.length ca := ea
          rw [hoj] at hav ea
          subst ea; subst ev
          have HAV := Lib.hid hav
          have HD2 := Lib.hid d2; have HF2 := Lib.hid f2
          have hcc : m ≤ capv ∧ capv ≤ 9223372036854775807 := by unfold maxLen at hc2; omega
          have htm' : (tl : Int) < m := by omega
          have tl0 : (0 : Int) ≤ tl := by omega
          have HQ3 := HQ2.out
          clear hav hgC hc1 hc2 ho hoj hget hti
          go_wp2_with (at_builtin; refine wpList_append_from _ rfl (.tmp 51) (.tmp 54) 64 rfl C 3 Try.underlying64 int_info15 rfl (by omega) (.slice Aa j ca) j (offs.map (.int .i64)) rfl (HAV.out.alloc _) (some ⟨wr.heap.size, 0, none⟩) 1 1 [.int .i64 m] rfl rfl (by simp) (fun ad e => by cases e; exact news_cells (Blk.new wr 3 #[.int .i64 m])) (by intro u hu; simp only [List.mem_cons, List.not_mem_nil, or_false] at hu; subst hu; rfl) (by unfold maxLen; omega) (by omega) (by have := HCW.out; simp; omega) ?a7)
          case a7 =>
          intro A7 c7 w7 own7 hg7 hat7
          have HOA : Hid (OwnNodes 66 3 (wr.alloc (.cells #[.int .i64 m] 3)) C (.slice (some ⟨gv, 0, none⟩) m capv) (ts ++ (⟨0, nm, offs⟩ : TN) :: more)) := Lib.hid (HO.out.alloc _)
          have HD3 : Hid ((wr.alloc (.cells #[.int .i64 m] 3)).cell? ⟨gv, tl * 3 + 2, none⟩ = some (.slice Aa j ca)) := Lib.hid ((cell_alloc hgl _ _).trans HD2.out)
          have HGB : Hid (w7.heap[gv]? = wr.heap[gv]?) := Lib.hid (by
            obtain ⟨avs, _, h2, _⟩ := HO.out
            exact (hg7.block gv (by simp; omega) (fun e => own_type_ne HAV.out h2 (by decide) gv e.symm rfl)).trans (Below.heap_alloc wr _ gv hgl))
          have d2 := (World.cell?_of_block (a := ⟨gv, tl * 3 + 2, none⟩) HGB.out).trans HD2.out
          have f2 := (frozen_of_block (p := ⟨gv, tl * 3 + 2, none⟩) HGB.out).trans HF2.out
          have hgl7 : gv < w7.heap.size := by have := hg7.size; (try simp at this); omega
          have HO8 : Hid (OwnNodes 66 3 (w7.setCell ⟨gv, tl * 3 + 2, none⟩ (.slice A7 (j + 1) c7)) C (.slice (some ⟨gv, 0, none⟩) m capv) (ts ++ (⟨0, nm, offs ++ [(m : Int)]⟩ : TN) :: more)) := Lib.hid (by
            obtain ⟨hti, hget⟩ := HGET.out
            have h := HOA.out.moreArg (by decide) hti HD3.out (av' := .slice A7 (j + 1) c7) (x := (m : Int)) (w' := w7) (by rw [hget]; show w7.ownsRow C 3 1 (.slice A7 (j + 1) c7) (offs.length + 1) (offs.map (.int .i64) ++ [.int .i64 m]); rw [HOJ.out]; exact own7) hg7 (by simpa using hat7)
            rw [hget] at h
            have e : (ts ++ (⟨0, nm, offs⟩ : TN) :: more).set tl ⟨0, nm, offs ++ [(m : Int)]⟩ = ts ++ (⟨0, nm, offs ++ [(m : Int)]⟩ : TN) :: more := by
              rw [List.set_append_right _ _ (by have := HTL.out; omega), HTL.out, Nat.sub_self, List.set_cons_zero]
            rw [← e]; exact h)
          have HK8 : Hid (Kb (XL w C (.slice Av tl cv)) w (w7.setCell ⟨gv, tl * 3 + 2, none⟩ (.slice A7 (j + 1) c7))) := Lib.hid (((HK.out.alloc _).grown hg7 (fun b e => XL.row HK.out HAV.out (Nat.le_refl _) e)).setCell (by
            rcases HA.out.1 with e | e
            · exact .inl (.inl e.symm)
            · exact .inr (e gv rfl)) _)
          have HX8 : Hid (Blk (w7.setCell ⟨gv, tl * 3 + 2, none⟩ (.slice A7 (j + 1) c7)) qt 66 #[.int .i64 0, .string nm, .slice S q k]) := Lib.hid (((HX.out.alloc _).grown hg7 (fun e => own_ne_blkX HAV.out HX.out (by decide) e.symm)).far (p := ⟨gv, tl * 3 + 2, none⟩) (fun e => HA.out.2 (by rw [e]; rfl)) _)
          have HC8 : Hid (C ≤ (w7.setCell ⟨gv, tl * 3 + 2, none⟩ (.slice A7 (j + 1) c7)).heap.size) := Lib.hid (Nat.le_trans HC.out HK8.out.size)
          clear own7 hg7 hat7 HOA HD3 HD2 HF2 HO HK HX HAV x2
          obtain ⟨u8, hu8⟩ : ∃ z : World, w7.setCell ⟨gv, tl * 3 + 2, none⟩ (.slice A7 (j + 1) c7) = z := ⟨_, rfl⟩
          rw [hu8] at HO8 HK8 HX8 HC8
          have HU8 := Lib.hid hu8
          clear hu8
          have HJL : Hid (j < Ls.length) := Lib.hid (by rw [HLQ.out]; exact hjq)
          have HJA : Hid (j < (ns[t]'HTT.out).args.length) := Lib.hid (by rw [HQ.out]; exact hjq)
          obtain ⟨U, hU⟩ : ∃ U, Ls[j]'HJL.out = U := ⟨_, rfl⟩
          obtain ⟨a, ha1, ha2⟩ : ∃ a : Nat, (ns[t]'HTT.out).args[j]'HJA.out = (a : Int) ∧ a < n := by
            have := (HRW.out.node _ (List.getElem_mem HTT.out)).args _ (List.getElem_mem HJA.out)
            have hn := HN.out
            exact ⟨((ns[t]'HTT.out).args[j]'HJA.out).toNat, by omega, by omega⟩
          have HAC : Hid (a < cl.length) := Lib.hid (by rw [HCN.out]; exact ha2)
          obtain ⟨x, hx⟩ : ∃ x, cl[a]'HAC.out = x := ⟨_, rfl⟩
          have HLU : Hid (Lay W (rOf cl) (tmR ns cl) (loR ns cl) x U) := Lib.hid (by
            have h := HLL.out.get j (by rw [HAQ.out, List.length_map]; exact HJA.out) HJL.out
            have e : ks[j]'(by rw [HAQ.out, List.length_map]; exact HJA.out) = a := by
              simp only [HAQ.out, List.getElem_map, ha1, Int.toNat_natCast]
            rw [e, hU, rOf_at HAC.out, hx] at h
            exact h)
          have HUS : Hid (U.size ≤ d) := Lib.hid (by
            have := ofL_size (L := Ls) (T := U) (by rw [← hU]; exact List.getElem_mem HJL.out)
            omega)
          have HTK : Hid (ofL (Ls.take (j + 1)) = (ofL (Ls.take j)).app2 U) := Lib.hid (by rw [take_ofL HJL.out, hU])
          obtain ⟨ga, hS, hgal, hcell⟩ := HAR.out j HJA.out
          rw [ha1] at hcell
          have HSE := Lib.hid hS
          have HCELL := Lib.hid hcell
          have HGAL := Lib.hid hgal
          rw [hS] at HX8
          have HXC : Hid (∀ b, XL w C (.slice Av tl cv) b → C ≤ b) := Lib.hid (fun b hb => by
            rcases hb with hb | ⟨hb, _⟩
            · exact (HBV.out b hb).1
            · exact hb)
          have HBC : Hid (∀ w', Kb (XL w C (.slice Av tl cv)) w w' → Below C w0 w') := Lib.hid (fun w' hk => HB.out.trans (hk.below HC.out HXC.out))
          have HS12 : Hid (∀ w', Kb (XL w C (.slice Av tl cv)) w w' → Blk w' qt 66 #[.int .i64 0, .string nm, .slice (some ⟨ga, 0, none⟩) q k] → (fun w' : World => w'.cell? ⟨p, 1, none⟩ = some (.slice (some ⟨gc, 0, none⟩) n cc) ∧ w'.cell? ⟨qt, 2, none⟩ = some (.slice (some ⟨ga, 0, none⟩) q k) ∧ w'.cell? ⟨ga, j, none⟩ = some (.int .i64 a) ∧ w'.cell? ⟨gc, a, none⟩ = some (.int .i64 x)) w') := Lib.hid (fun w' hk h1 => by
            have hb := (HBC.out w' hk).mono HC0.out
            have hm := HM0.out.below hb
            have p1 := hm.blk.cell 1
            have x2 := h1.cell 2
            simp at p1 x2
            have e0 := (hm.clsG HAC.out).1
            rw [hx] at e0
            exact ⟨p1, x2, (hb.cell (p := ⟨ga, j, none⟩) HGAL.out).trans HCELL.out, e0⟩)
          have HVV : Hid ((Value.slice (some ⟨gv, 0, none⟩) m capv).ownBlock = (Value.slice Av tl cv).ownBlock ∨ ∀ g, (Value.slice (some ⟨gv, 0, none⟩) m capv).ownBlock = some g → w.heap.size ≤ g) := Lib.hid HA.out.1
          have HVQ : Hid (¬ XL u8.drew C (Value.slice (some ⟨gv, 0, none⟩) m capv) qt) := Lib.hid (fun h => by
            rcases h with h | ⟨_, cs, h⟩
            · exact HA.out.2 h
            · exact blk_ne h (HX8.out.drewN 1) (by decide) rfl)
          have HVN : Hid ((Value.slice (some ⟨gv, 0, none⟩) m capv).ownBlock ≠ some qt) := Lib.hid HA.out.2
          have HLEN8 : Hid ((ts ++ (⟨0, nm, offs ++ [(m : Int)]⟩ : TN) :: more).length = m) := Lib.hid (by rw [List.length_append, List.length_cons, HTL.out]; have := HMM.out; omega)
          have HM57 : Hid (m ≤ 257) := Lib.hid hm57
          have a0 : (0 : Int) ≤ a := by omega
          have an : (a : Int) < n := by omega
          clear hU ha1 hx hS hgal hcell HA
          go_upto_region 12 with fail
          rw [HU8.out]
          clear d2 f2
          refine wp_region_held_drew (S := (fun w' : World => w'.cell? ⟨p, 1, none⟩ = some (.slice (some ⟨gc, 0, none⟩) n cc) ∧ w'.cell? ⟨qt, 2, none⟩ = some (.slice (some ⟨ga, 0, none⟩) q k) ∧ w'.cell? ⟨ga, j, none⟩ = some (.int .i64 a) ∧ w'.cell? ⟨gc, a, none⟩ = some (.int .i64 x))) (by kernel_rfl) (HS12.out _ (HK8.out.drew) (HX8.out.drewN 1)) (fun hHeld => ?_)
          refine wpAnyH_take (i := 0) (v := ?_) rfl (by kernel_rfl) (by kernel_rfl) (by kernel_rfl) (fun _ _ _ h => h) ?_ (by assumption) ?_
          rotate_left 1
          · (refine Or.inl ⟨by rfl, fun w' hSw => ?_⟩; obtain ⟨s0, s1, s2, s3⟩ := hSw; go_simp); try with_reducible rfl
          try simp only [Act.put, List.setIfInBounds_toArray, List.set_cons_zero, List.set_cons_succ, Nat.zero_add]
          refine wpAnyH_take (i := 1) (v := ?_) rfl (by kernel_rfl) (by kernel_rfl) (by kernel_rfl) (fun _ _ _ h => h) ?_ (by assumption) ?_
          rotate_left 1
          · (refine Or.inl ⟨by rfl, fun w' hSw => ?_⟩; obtain ⟨s0, s1, s2, s3⟩ := hSw; go_simp); try with_reducible rfl
          try simp only [Act.put, List.setIfInBounds_toArray, List.set_cons_zero, List.set_cons_succ, Nat.zero_add]
          refine wpAnyH_take (i := 2) (v := ?_) rfl (by kernel_rfl) (by kernel_rfl) (by kernel_rfl) (fun _ _ _ h => h) ?_ (by assumption) ?_
          rotate_left 1
          · (refine Or.inl ⟨by rfl, fun w' hSw => ?_⟩; obtain ⟨s0, s1, s2, s3⟩ := hSw; go_simp); try with_reducible rfl
          try simp only [Act.put, List.setIfInBounds_toArray, List.set_cons_zero, List.set_cons_succ, Nat.zero_add]
          refine wpAnyH_take (i := 3) (v := ?_) rfl (by kernel_rfl) (by kernel_rfl) (by kernel_rfl) (fun _ _ _ h => h) ?_ (by assumption) ?_
          rotate_left 1
          · (refine Or.inl ⟨by rfl, fun w' hSw => ?_⟩; obtain ⟨s0, s1, s2, s3⟩ := hSw; go_simp); try with_reducible rfl
          try simp only [Act.put, List.setIfInBounds_toArray, List.set_cons_zero, List.set_cons_succ, Nat.zero_add]
          refine wpAnyH_take (i := 4) (v := ?_) rfl (by kernel_rfl) (by kernel_rfl) (by kernel_rfl) (fun _ _ _ h => h) ?_ (by assumption) ?_
          rotate_left 1
          · (refine Or.inl ⟨by rfl, fun w' hSw => ?_⟩; obtain ⟨s0, s1, s2, s3⟩ := hSw; go_simp); try with_reducible rfl
          try simp only [Act.put, List.setIfInBounds_toArray, List.set_cons_zero, List.set_cons_succ, Nat.zero_add]
          refine wpAnyH_take (i := 5) (v := ?_) rfl (by kernel_rfl) (by kernel_rfl) (by kernel_rfl) (fun _ _ _ h => h) ?_ (by assumption) ?_
          rotate_left 1
          · (refine Or.inl ⟨by rfl, fun w' hSw => ?_⟩; obtain ⟨s0, s1, s2, s3⟩ := hSw; go_simp); try with_reducible rfl
          try simp only [Act.put, List.setIfInBounds_toArray, List.set_cons_zero, List.set_cons_succ, Nat.zero_add]
          refine wpAnyH_take (i := 6) (v := ?_) rfl (by kernel_rfl) (by kernel_rfl) (by kernel_rfl) (fun _ _ _ h => h) ?_ (by assumption) ?_
          rotate_left 1
          · (refine Or.inl ⟨by rfl, fun w' hSw => ?_⟩; obtain ⟨s0, s1, s2, s3⟩ := hSw; go_simp); try with_reducible rfl
          try simp only [Act.put, List.setIfInBounds_toArray, List.set_cons_zero, List.set_cons_succ, Nat.zero_add]
          refine wpAnyH_take (i := 7) (v := ?_) rfl (by kernel_rfl) (by kernel_rfl) (by kernel_rfl) (fun _ _ _ h => h) ?_ (by assumption) ?_
          rotate_left 1
          · (refine Or.inl ⟨by rfl, fun w' hSw => ?_⟩; obtain ⟨s0, s1, s2, s3⟩ := hSw; go_simp); try with_reducible rfl
          try simp only [Act.put, List.setIfInBounds_toArray, List.set_cons_zero, List.set_cons_succ, Nat.zero_add]
          refine wpAnyH_take (i := 8) (v := ?_) rfl (by kernel_rfl) (by kernel_rfl) (by kernel_rfl) (fun _ _ _ h => h) ?_ (by assumption) ?_
          rotate_left 1
          · (refine Or.inl ⟨by rfl, fun w' hSw => ?_⟩; obtain ⟨s0, s1, s2, s3⟩ := hSw; go_simp); try with_reducible rfl
          try simp only [Act.put, List.setIfInBounds_toArray, List.set_cons_zero, List.set_cons_succ, Nat.zero_add]
          refine wpAnyH_take (i := 9) (v := ?_) rfl (by kernel_rfl) (by kernel_rfl) (by kernel_rfl) (fun _ _ _ h => h) ?_ (by assumption) ?_
          rotate_left 1
          · (refine Or.inl ⟨by rfl, fun w' hSw => ?_⟩; obtain ⟨s0, s1, s2, s3⟩ := hSw; go_simp); try with_reducible rfl
          try simp only [Act.put, List.setIfInBounds_toArray, List.set_cons_zero, List.set_cons_succ, Nat.zero_add]
          refine wpAnyH_take (i := 10) (v := ?_) rfl (by kernel_rfl) (by kernel_rfl) (by kernel_rfl) (fun _ _ _ h => h) ?_ (by assumption) ?_
          rotate_left 1
          · (refine Or.inl ⟨by rfl, fun w' hSw => ?_⟩; obtain ⟨s0, s1, s2, s3⟩ := hSw; go_simp); try with_reducible rfl
          try simp only [Act.put, List.setIfInBounds_toArray, List.set_cons_zero, List.set_cons_succ, Nat.zero_add]
          refine wpAnyH_take (i := 11) (v := ?_) rfl (by kernel_rfl) (by kernel_rfl) (by kernel_rfl) (fun _ _ _ h => h) ?_ (by assumption) ?_
          rotate_left 1
          · (refine Or.inl ⟨by rfl, fun w' hSw => ?_⟩; obtain ⟨s0, s1, s2, s3⟩ := hSw; go_simp); try with_reducible rfl
          try simp only [Act.put, List.setIfInBounds_toArray, List.set_cons_zero, List.set_cons_succ, Nat.zero_add]
          refine wpAnyH_take (i := 12) (v := ?_) rfl (by kernel_rfl) (by kernel_rfl) (by kernel_rfl) (fun _ _ _ h => h) ?_ (by assumption) ?_
          rotate_left 1
          · (refine Or.inl ⟨by rfl, fun w' hSw => ?_⟩; obtain ⟨s0, s1, s2, s3⟩ := hSw; go_simp); try with_reducible rfl
          try simp only [Act.put, List.setIfInBounds_toArray, List.set_cons_zero, List.set_cons_succ, Nat.zero_add]
          refine wpAnyH_ready (rs := [13]) (by kernel_rfl) (by simp) (AllReadyH.cons rfl (fun K hK => ?_) AllReadyH.nil)
          go_simp
          refine (HIH.out U u8.drew x (.slice (some ⟨gv, 0, none⟩) m capv) (ts ++ ⟨0, nm, offs ++ [(m : Int)]⟩ :: more) (by have := HUS.out; omega) HLU.out (HBC.out _ HK8.out.drew) HC8.out HO8.out.drew (by rw [HLEN8.out]; exact HM57.out)).mono ?_
          rintro _ w9 ⟨v9, more9, rfl, ho9, hk9, ha9, he9, hl9, hm9⟩
          have HK9 : Hid (Kb (XL w C (.slice Av tl cv)) w w9) := Lib.hid (XL.trans HK8.out.drew hk9 (fun b e => HVV.out.imp (fun e2 => by rw [← e2]; exact e) (fun h => h b e)))
          have HX9 : Hid (Blk w9 qt 66 #[.int .i64 0, .string nm, .slice (some ⟨ga, 0, none⟩) q k]) := Lib.hid ((HX8.out.drewN 1).kb hk9 HVQ.out)
          have HO9 := Lib.hid ho9
          have HA9 : Hid ((v9.ownBlock = (Value.slice Av tl cv).ownBlock ∨ ∀ g, v9.ownBlock = some g → w.heap.size ≤ g) ∧ v9.ownBlock ≠ some qt) := Lib.hid (by
            have hsz : w.heap.size ≤ u8.heap.size := HK8.out.size
            rcases ha9 with e | e
            · rw [e]; exact ⟨HVV.out, HVN.out⟩
            · refine ⟨.inr fun g' e2 => ?_, fun e2 => ?_⟩
              · have h1 : u8.heap.size ≤ g' := e g' e2
                omega
              · have h1 : u8.heap.size ≤ qt := e qt e2
                have h2 : qt < u8.heap.size := HX8.out.lt
                omega)
          have HJ9 : Hid (LJ tl ((ofL (Ls.take j)).app2 U) (offs ++ [(m : Int)]) (more ++ more9)) := Lib.hid (HLJ.out.next HLU.out.one HMM.out (by rw [HLEN8.out] at he9; exact he9) (by rw [HLEN8.out] at hl9; exact hl9) (by rw [HLEN8.out] at hm9; exact hm9))
          clear ho9 hk9 ha9 he9 hl9 hm9
          refine hK.out _ _ (HS12.out _ HK9.out HX9.out) (fun hHeld => ?_)
          clear hK K
          try simp only [Act.put, List.setIfInBounds_toArray, List.set_cons_zero, List.set_cons_succ, Nat.zero_add]
          refine wpAnyH_take (i := 14) (v := ?_) rfl (by kernel_rfl) (by kernel_rfl) (by kernel_rfl) (fun _ _ _ h => h) ?_ (by assumption) ?_
          rotate_left 1
          · (refine Or.inl ⟨by rfl, fun w' hSw => ?_⟩; obtain ⟨s0, s1, s2, s3⟩ := hSw; go_simp); try with_reducible rfl
          try simp only [Act.put, List.setIfInBounds_toArray, List.set_cons_zero, List.set_cons_succ, Nat.zero_add]
          refine wpAnyH_done (by kernel_rfl) ?_ _
          clear hHeld
          go_wp2_with fail
          go_roundg (q - (j + 1))
          case measure => omega
          case rel => exact ⟨j + 1, v9, offs ++ [(m : Int)], more ++ more9, rfl, by go_num, rfl, by omega, by rw [List.length_append, HOJ.out]; rfl, by rw [HTK.out]; exact HJ9.out, by simpa using HO9.out, HK9.out, HA9.out, by rw [HSE.out]; exact HX9.out⟩
        · have hjq' : ¬ (j : Int) < q := by omega
          have HFIN : Hid (LaidPost w C (.slice Av tl cv) ts (.app nm (ofL Ls) .nil) (.returned vo) wr) := Lib.hid (by
            have hlj := HLJ.out
            rw [List.take_of_length_le (by rw [HLQ.out]; omega)] at hlj
            have hsz : (Fo.app nm (ofL Ls) .nil).size = 1 + (ofL Ls).size := rfl
            refine ⟨vo, _, rfl, HO.out, HK.out, HA.out.1, fun h => ?_, fun h => ?_, ?_⟩
            · rw [HTL.out, hsz] at h
              obtain ⟨e1, e2⟩ := hlj.eq (by omega)
              rw [e1, e2, HTL.out]
              show _ = (⟨0, nm, (ofL Ls).offs (tl + 1)⟩ : TN) :: ((ofL Ls).flat (tl + 1) ++ [])
              rw [List.append_nil]
            · rw [HTL.out, hsz] at h
              have := hlj.big (by omega)
              rw [List.length_cons, HTL.out]; omega
            · have := hlj.le
              rw [List.length_cons, HTL.out]; omega)
          clear ho hoj hget
          go_wp2
          go_ret
          exact HFIN.out
  · have HTM := Lib.hid htm
    have hlo : T = .hole (loR ns cl c) .nil := by
      cases hT with
      | hole _ _ => rfl
      | app _ t nm ks Ls e _ _ => rw [htm] at e; cases e
    clear htm hb2
    go_upto_region 5 with fail
    obtain ⟨w3, hw3⟩ : ∃ z : World, w2.alloc (.cells #[.int .i64 0, .string ⟨#[]⟩, .slice none 0 0] 66) = z := ⟨_, rfl⟩
    have HB23 : Hid (Below w2.heap.size w2 w3) := Lib.hid (by rw [← hw3]; exact (Below.refl _ _).alloc (Nat.le_refl _) _)
    have HB3 : Hid (Below w.heap.size w w3) := Lib.hid (HB2.out.trans (HB23.out.mono HB2.out.size))
    (try rw [hw3])
    clear hw3 HB2 HB23
    have HO3 : Hid (OwnX 66 3 w3 C (.slice Av tl cv) ts (fun _ => False)) := Lib.hid (OwnX.of (HOWN.out.below HB3.out) (fun _ h => h.elim))
    have HC3 : Hid (C ≤ w3.heap.size) := Lib.hid (Nat.le_trans HC.out HB3.out.size)
    have HLE := Lib.hid (rleast_any w3 B p g gc n cn cc ns cl (HM0.out.below (HBW0.out.trans (HB3.out.mono HBW0.out.size))) hl HN.out HCN.out HRV.out c)
    go_wp2_with fail
    refine HLE.out.mono ?_
    rintro _ _ ⟨rfl, rfl⟩
    obtain ⟨lx, hlx⟩ : ∃ z, loR ns cl c = z := ⟨_, rfl⟩
    rw [hlx] at hlo
    (try rw [hlx])
    have HLO := Lib.hid hlo
    clear hlx hlo HLE
    go_wp2_with (at_builtin; refine wpList_pushX _ (by decide) rfl (.tmp 23) (.tmp 28) 22 rfl C Try.underlying22 tnode_infoL rfl (.slice Av tl cv) ts (fun _ => False) rfl (HO3.out.alloc _) ⟨lx, ByteArray.empty, []⟩ rfl ⟨w3.heap.size, 0, none⟩ 1 rfl (news_cells (Blk.new w3 66 #[.int .i64 lx, .string ⟨#[]⟩, .slice none 0 0])) ?b3 ?b4 ?b5 ?b6)
    try (case b3 => rw [HTL.out]; unfold maxLen; omega)
    try (case b4 => rw [HTL.out]; omega)
    try (case b5 => have := HC3.out; simp; omega)
    case b6 =>
    intro A9 c9 w9 hown9 hg9 hat9
    rw [HTL.out] at hown9 hat9
    (try rw [HTL.out])
    have HFIN : Hid (LaidPost w C (.slice Av tl cv) ts T (.returned (.slice A9 (tl + 1) c9)) w9) := Lib.hid (by
      have HK3 : Kb (XL w C (.slice Av tl cv)) w w3 := Kb.of_below HB3.out (fun b h1 h2 => by omega)
      rw [HLO.out]
      have hsz : (Fo.hole lx .nil).size = 1 := rfl
      refine ⟨_, [⟨lx, ByteArray.empty, []⟩], rfl, hown9.nodes, (HK3.alloc _).grown hg9 (fun b e => .inl (.inl e)), ?_, fun h => rfl, fun h => ?_, ?_⟩
      · rcases hat9 with e | e
        · exact .inl e
        · refine .inr fun g' e2 => ?_
          rw [e] at e2; injection e2 with e2
          have := HB3.out.size
          (try simp at e2); omega
      · rw [hsz, HTL.out] at h
        rw [HTL.out]; simpa using h
      · rw [HTL.out]; simp; omega)
    clear hown9 hg9 hat9
    go_wp2_with fail
    go_ret
    exact HFIN.out
end Go.Proofs.Ytgcbnndbeoekgaa
end
