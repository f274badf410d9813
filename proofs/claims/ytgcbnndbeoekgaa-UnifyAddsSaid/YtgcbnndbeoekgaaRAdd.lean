import Derived.Test.YtgcbnndbeoekgaaRClash
import Derived.Test.YtgcbnndbeoekgaaRRound
import Derived.Test.YtgcbnndbeoekgaaRLaid
import Derived.Test.YtgcbnndbeoekgaaAddS
import Derived.Test.YtgcbnndbeoekgaaRLay
import Derived.Test.YtgcbnndbeoekgaaMayR
import Derived.Test.YtgcbnndbeoekgaaAddI
import Derived.Test.YtgcbnndbeoekgaaUAdd
set_option linter.unusedSimpArgs false
set_option linter.unusedVariables false
section
/- the document's web.solved: the bound of all that met -/
namespace Go.Proofs.Ytgcbnndbeoekgaa
open Go Go.RowKit Go.Maps

theorem rbind_info : (Try.prog.info? 69).map (fun i => (i.zero, i.size, i.bytes)) = some (some (.agg #[.int .i64 0, .slice none 0 0]), 2, 32) := by kernel_rfl
/-- the least hole above one, among the first nodes -/
def MinTo (ns : List TN) (last i h kk : Nat) : Prop :=
  (h = 0 ∧ ∀ j (hj : j < ns.length), j < i → ns[j].var ≤ (last : Int)) ∨ (last < h ∧ (∃ hk : kk < ns.length, ns[kk].var = (h : Int)) ∧ ∀ j (hj : j < ns.length), j < i → ns[j].var ≤ (last : Int) ∨ (h : Int) ≤ ns[j].var)
theorem MinTo.pass {ns : List TN} {last i h kk : Nat} (hm : MinTo ns last i h kk) {v : Nat} (hi : i < ns.length) (hv : ns[i].var = (v : Int)) (hno : v ≤ last ∨ (0 < h ∧ h ≤ v)) : MinTo ns last (i + 1) h kk := by
  rcases hm with ⟨h1, h2⟩ | ⟨h1, h2, h3⟩
  · refine .inl ⟨h1, fun j hj hji => ?_⟩
    by_cases e : j < i
    · exact h2 j hj e
    · have : j = i := by omega
      subst this; omega
  · refine .inr ⟨h1, h2, fun j hj hji => ?_⟩
    by_cases e : j < i
    · exact h3 j hj e
    · have : j = i := by omega
      subst this; omega
theorem MinTo.take {ns : List TN} {last i h kk : Nat} (hm : MinTo ns last i h kk) {v : Nat} (hi : i < ns.length) (hv : ns[i].var = (v : Int)) (hl : last < v) (hh : h = 0 ∨ v < h) : MinTo ns last (i + 1) v i := by
  refine .inr ⟨hl, ⟨hi, hv⟩, fun j hj hji => ?_⟩
  by_cases e : j < i
  · rcases hm with ⟨h1, h2⟩ | ⟨h1, h2, h3⟩
    · exact .inl (h2 j hj e)
    · have := h3 j hj e; omega
  · have : j = i := by omega
    subst this; omega
/-- what solved leaves -/
def SomeSolved (w : World) (B p : Nat) (nv cv : Value) (W : WebT) (E : List (Fo × Fo)) (ns : List TN) (e : Ending) (w' : World) : Prop :=
  ∃ cl o err out v, RM w' B p nv cv ns cl ∧ RW W E ns cl ∧ Meets W (rOf cl) E ∧ w.grownBy w' cv.ownBlock ∧ Comes E o ∧ OutIs o err out ∧ e = .returned (.tuple #[v, .int .i64 err]) ∧ IsRow 2 EBind w' (fun b => w.heap.size ≤ b ∧ b < w'.heap.size) v out

set_option maxRecDepth 100000 in
set_option maxHeartbeats 16000000 in
theorem rsolved_any (w : World) (B p g gc n cn cc : Nat) (ns : List TN) (cl0 : List Nat) (W : WebT) (E : List (Fo × Fo)) (hm : RM w B p (.slice (some ⟨g, 0, none⟩) n cn) (.slice (some ⟨gc, 0, none⟩) n cc) ns cl0) (hrw : RW W E ns cl0) (hme : Meets W (rOf cl0) E) (hl : n ≤ 1048576) (hn : ns.length = n) :
    Calls Try.prog 37 #[.pointer (some ⟨p, 0, none⟩)] w (SomeSolved w B p (.slice (some ⟨g, 0, none⟩) n cn) (.slice (some ⟨gc, 0, none⟩) n cc) W E ns) := by
  have HCLO := Lib.hid (rclose_any w B p g gc n cn cc ns cl0 W E hm hrw hme hl hn)
  have HN := Lib.hid hn
  clear hm hrw hme hn
  go_enter Try.func37, Try.ntmps37
  go_wp2_with fail
  refine HCLO.out.mono ?_
  clear HCLO
  rintro _ w2 ⟨rfl, cl, hcm⟩
  have HM2 := Lib.hid hcm.mem; have HG2 := Lib.hid hcm.grown; have HRW := Lib.hid hcm.rw; have HME := Lib.hid hcm.meets; have HALL := Lib.hid hcm.all
  have HWN : Hid (W.n = n) := Lib.hid (by rw [hcm.rw.n, HN.out])
  clear hcm
  have HEND : Hid (∀ (w' : World) (o : Outc) (err : Int) (out : List ABind) (v : Value), Below w2.heap.size w2 w' → Comes E o → OutIs o err out → ∀ {e : Ending}, e = .returned (.tuple #[v, .int .i64 err]) → IsRow 2 EBind w' (fun b => w2.heap.size ≤ b ∧ b < w'.heap.size) v out → SomeSolved w B p (.slice (some ⟨g, 0, none⟩) n cn) (.slice (some ⟨gc, 0, none⟩) n cc) W E ns e w') := Lib.hid (fun w' o err out v hb hc ho e he hr =>
    ⟨cl, o, err, out, v, HM2.out.below hb, HRW.out, HME.out, HG2.out.trans (below_grown hb _), hc, ho, he, hr.keep EBind.stays (Keep.refl _ _) (fun b h => ⟨Nat.le_trans HG2.out.size h.1, h.2⟩)⟩)
  have HCA := Lib.hid (rclash_any w2 B p g gc n cn cc ns cl W E HM2.out HRW.out hl HN.out)
  go_wp2_with fail
  refine HCA.out.mono ?_
  clear HCA
  rintro _ w3 ⟨hci, hb3⟩
  have HB3 := Lib.hid hb3
  clear hb3
  rcases hci with ⟨rfl, hc⟩ | ⟨rfl, hnc⟩
  · have HC := Lib.hid hc
    go_wp2_with fail
    refine bodyPost_ret (v := .tuple #[.slice none 0 0, .int .i64 150]) (by simp [results, Try.results37, go_sem]) rfl ?_
    exact HEND.out _ _ _ _ _ HB3.out HC.out ⟨rfl, rfl⟩ rfl IsRow.nil
  have HCL : Hid (Closed W (rOf cl)) := Lib.hid (closed_of HRW.out HALL.out (fun i k h1 h2 => hnc i k h1 h2))
  clear hnc HALL
  have HRO := Lib.hid (rround_any w3 B p g gc n cn cc ns cl W E (HM2.out.below HB3.out) HRW.out hl HN.out)
  go_wp2_with fail
  refine HRO.out.mono ?_
  clear HRO
  rintro _ w4 ⟨hri, hb4⟩
  have HB4 : Hid (Below w2.heap.size w2 w4) := Lib.hid (HB3.out.trans (hb4.mono HB3.out.size))
  clear hb4 HB3
  rcases hri with ⟨rfl, hcy⟩ | ⟨rfl, hly⟩
  · have HC : Hid (Comes E .occurs) := Lib.hid (occurs_of HRW.out.ok HCL.out HRW.out.heads HRW.out.sound HME.out hcy)
    go_wp2_with fail
    refine bodyPost_ret (v := .tuple #[.slice none 0 0, .int .i64 151]) (by simp [results, Try.results37, go_sem]) rfl ?_
    exact HEND.out _ _ _ _ _ HB4.out HC.out ⟨rfl, rfl⟩ rfl IsRow.nil
  have HLAY := Lib.hid hly
  clear hly
  obtain ⟨C, hC⟩ : ∃ C, w4.heap.size = C := ⟨_, rfl⟩
  have HC : Hid (C ≤ w4.heap.size) := Lib.hid (Nat.le_of_eq hC.symm)
  have HBW : Hid (∀ w', Below C w4 w' → Below w2.heap.size w2 w') := Lib.hid (fun w' hb => HB4.out.trans (hb.mono (by rw [← hC]; exact HB4.out.size)))
  have HCW : Hid (w2.heap.size ≤ C) := Lib.hid (by rw [← hC]; exact HB4.out.size)
  clear hC
  have HBIG : Hid (∀ k x, k < W.n → W.nd k = .hole x → x ≤ 2147483647) := Lib.hid (fun k x hk e => by
    have hk' : k < ns.length := by rw [← HRW.out.n]; exact hk
    have := (HRW.out.of_hole hk' e).1
    have := (HRW.out.node _ (List.getElem_mem hk')).var
    omega)
  have HRV : Hid (∀ t ∈ ns, 0 ≤ t.var ∧ t.var ≤ 2147483647) := Lib.hid (fun t ht => (HRW.out.node t ht).var)
  have HCN : Hid (cl.length = n) := Lib.hid (by rw [HRW.out.cn, HN.out])
  have HB0 : Hid (BTL W (rOf cl) (tmR ns cl) (loR ns cl) 0 []) := Lib.hid (BTL.start HRW.out.ok)
  go_upto_region 10 with fail
  go_loopg [6, 7] 2147483648 (fun gh s6 s7 wx => ∃ (last : Nat) (bs : List (Nat × Fo)) (Ab : Option Addr) (nb cb : Nat), s6 = .slice Ab nb cb ∧ s7 = .int .i64 last ∧ gh = 2147483648 - last ∧ last ≤ 2147483647 ∧ BTL W (rOf cl) (tmR ns cl) (loR ns cl) last bs ∧ OwnRow 2 69 EBind (fun b => C ≤ b) wx C (.slice Ab nb cb) (bs.map bindOf) ∧ (bs.map bindOf).length = nb ∧ nb ≤ last ∧ Below C w4 wx ∧ ∀ q ∈ bs, q.2.size ≤ 256)
  case atStart => exact ⟨0, [], none, 0, 0, rfl, rfl, rfl, by omega, HB0.out, OwnRow.nil _ _, rfl, Nat.le_refl _, Below.refl _ _, fun q hq => by cases hq⟩
  case round =>
    clear HB0
    obtain ⟨last, bs, Ab, nb, cb, rfl, rfl, rfl, hla, hbt, hout, hbl, hnb, hb, hsm⟩ := hrel
    have HBT := Lib.hid hbt; have HOUT := Lib.hid hout; have HBL := Lib.hid hbl; have HBX := Lib.hid hb; have HSMA := Lib.hid hsm
    clear hbt hout hbl hb hsm
    go_upto_region 12 with fail
    obtain ⟨wo, hwo⟩ : ∃ x, x = wr := ⟨_, rfl⟩
    subst hwo
    have HMT0 : Hid (MinTo ns last 0 0 0) := Lib.hid (.inl ⟨rfl, fun j _ h => absurd h (Nat.not_lt_zero _)⟩)
    have HMC := Lib.hid (HM2.out.below (HBW.out _ HBX.out))
    go_loopg [8, 9, 10] n (fun gh s8 s9 s10 wx => ∃ (i h kk : Nat), s8 = .int .i64 h ∧ s9 = .int .i64 kk ∧ s10 = .int .i64 i ∧ gh = n - i ∧ i ≤ n ∧ MinTo ns last i h kk ∧ wo = wx)
    case atStart => exact ⟨0, 0, 0, rfl, rfl, rfl, rfl, Nat.zero_le _, HMT0.out, rfl⟩
    case round =>
      clear HMT0
      obtain ⟨i, h, kk, rfl, rfl, rfl, rfl, hi, hmt, rfl⟩ := hrel
      have HMT := Lib.hid hmt
      have p0 := HMC.out.blk.cell 0; have p1 := HMC.out.blk.cell 1
      simp at p0 p1
      have i0 : (0 : Int) ≤ i := by omega
      clear hmt
      by_cases hin : i < n
      · have hin' : (i : Int) < n := by omega
        have HIN : Hid (i < ns.length) := Lib.hid (by rw [HN.out]; exact hin)
        obtain ⟨_, S, k, d0, _, _, _, _, _⟩ := HMC.out.nodeG HIN.out
        have hvv := HRV.out _ (List.getElem_mem HIN.out)
        obtain ⟨v, hv⟩ : ∃ v : Nat, (ns[i]'HIN.out).var = (v : Int) := ⟨(ns[i]'HIN.out).var.toNat, by omega⟩
        have HV := Lib.hid hv
        rw [hv] at d0
        clear hv hvv
        by_cases hvl : last < v
        · have hvl' : (last : Int) < v := by omega
          by_cases hh0 : h = 0
          · subst hh0
            have HM3 := Lib.hid (HMT.out.take HIN.out HV.out hvl (.inl rfl))
            go_wp2
            go_roundg (n - (i + 1))
            case measure => omega
            case rel => exact ⟨i + 1, v, i, rfl, rfl, by go_num, rfl, by omega, HM3.out, rfl⟩
          · have hh0' : ¬ (h : Int) = 0 := by omega
            have hh0b : ((h : Int) == 0) = false := by simp; omega
            by_cases hvh : v < h
            · have hvh' : (v : Int) < h := by omega
              have HM3 := Lib.hid (HMT.out.take HIN.out HV.out hvl (.inr hvh))
              go_wp2
              go_roundg (n - (i + 1))
              case measure => omega
              case rel => exact ⟨i + 1, v, i, rfl, rfl, by go_num, rfl, by omega, HM3.out, rfl⟩
            · have hvh' : ¬ (v : Int) < h := by omega
              have HM3 := Lib.hid (HMT.out.pass HIN.out HV.out (.inr ⟨by omega, by omega⟩))
              go_wp2
              go_roundg (n - (i + 1))
              case measure => omega
              case rel => exact ⟨i + 1, h, kk, rfl, rfl, by go_num, rfl, by omega, HM3.out, rfl⟩
        · have hvl' : ¬ (last : Int) < v := by omega
          have HM3 := Lib.hid (HMT.out.pass HIN.out HV.out (.inl (by omega)))
          go_wp2
          go_roundg (n - (i + 1))
          case measure => omega
          case rel => exact ⟨i + 1, h, kk, rfl, rfl, by go_num, rfl, by omega, HM3.out, rfl⟩
      · have hin' : ¬ (i : Int) < n := by omega
        have HIE : Hid (i = ns.length) := Lib.hid (by rw [HN.out]; omega)
        by_cases hh0 : h = 0
        · subst hh0
          have HCO : Hid (Comes E (.ok bs)) := Lib.hid (by
            rcases HMT.out with ⟨_, h2⟩ | ⟨h1, _⟩
            · refine ok_of HRW.out.ok HCL.out HRW.out.heads HRW.out.sound HME.out HLAY.out (HBT.out.listed fun k x hk e => ?_) HSMA.out
              have hk' : k < ns.length := by rw [← HRW.out.n]; exact hk
              have h3 := h2 k hk' (by rw [HIE.out]; exact hk')
              have := (HRW.out.of_hole hk' e).1
              omega
            · omega)
          go_wp2_with fail
          refine bodyPost_ret (v := .tuple #[.slice Ab nb cb, .int .i64 0]) (by simp [results, Try.results37, go_sem]) rfl ?_
          exact HEND.out _ _ _ _ _ (HBW.out _ HBX.out) HCO.out ⟨rfl, rfl⟩ rfl (HOUT.out.isRow EBind.stays (fun b h1 h2 => ⟨by have := HCW.out; omega, h2⟩) (fun b h1 h2 => ⟨by have := HCW.out; omega, h2⟩))
        · have hh0' : ¬ (h : Int) = 0 := by omega
          have hh0b : ((h : Int) == 0) = false := by simp; omega
          obtain ⟨hlh, ⟨hkn, hkv⟩, hmin⟩ : last < h ∧ (∃ hk : kk < ns.length, ns[kk].var = (h : Int)) ∧ ∀ j (hj : j < ns.length), j < i → ns[j].var ≤ (last : Int) ∨ (h : Int) ≤ ns[j].var := by
            rcases HMT.out with ⟨h1, _⟩ | h2
            · exact absurd h1 hh0
            · exact h2
          have HKN := Lib.hid hkn
          have HX : Hid (last < h ∧ (∀ k y, k < W.n → W.nd k = .hole y → y ≤ last ∨ h ≤ y) ∧ kk < W.n ∧ W.nd kk = .hole h) := Lib.hid ⟨hlh, fun k y hk e => by
            have hk' : k < ns.length := by rw [← HRW.out.n]; exact hk
            have h3 := hmin k hk' (by rw [HIE.out]; exact hk')
            have := (HRW.out.of_hole hk' e).1
            omega, by rw [HRW.out.n]; exact hkn, by rw [HRW.out.hole_ hkn (by rw [hkv]; omega), hkv]; simp⟩
          have HHB : Hid (h ≤ 2147483647) := Lib.hid (HBIG.out kk h HX.out.2.2.1 HX.out.2.2.2)
          have HKC : Hid (kk < cl.length) := Lib.hid (by rw [HCN.out, ← HN.out]; exact hkn)
          obtain ⟨e0, _, _⟩ := HMC.out.clsG HKC.out
          obtain ⟨c, hc⟩ : ∃ c, cl[kk]'HKC.out = c := ⟨_, rfl⟩
          have HRC : Hid (rOf cl kk = c) := Lib.hid (by rw [rOf_at HKC.out, hc])
          rw [hc] at e0
          obtain ⟨T, hT⟩ := HLAY.out kk HX.out.2.2.1
          have HLTA := Lib.hid hT
          have HLT : Hid (Lay W (rOf cl) (tmR ns cl) (loR ns cl) c T) := Lib.hid (by rw [← HRC.out]; exact hT)
          have hkk : (kk : Int) < n := by have := HN.out; omega
          have kk0 : (0 : Int) ≤ kk := by omega
          have hhb := HHB.out
          clear hlh hkn hkv hmin hc hT HMT
          have HTC := Lib.hid (rterm_any wo B p g gc n cn cc ns cl HMC.out hl HN.out HCN.out c)
          go_wp2_with fail
          refine HTC.out.mono ?_
          clear HTC
          rintro _ w5 ⟨ht, hb5⟩
          have HB5 : Hid (Below C w4 w5) := Lib.hid (HBX.out.trans (hb5.mono (Nat.le_trans HC.out HBX.out.size)))
          have HO5 : Hid (OwnRow 2 69 EBind (fun b => C ≤ b) w5 C (.slice Ab nb cb) (bs.map bindOf)) := Lib.hid (HOUT.out.below EBind.stays hb5)
          clear hb5 HMC HBX HOUT
          rcases ht with ⟨t, htl, htm, S, k, rfl, hk1, hk2, hargs⟩ | ⟨htm, rfl⟩
          · have HNS : Hid (¬ (tmR ns cl (rOf cl kk) = none ∧ loR ns cl (rOf cl kk) = h)) := Lib.hid (fun e => by rw [HRC.out, htm] at e; cases e.1)
            obtain ⟨mt, hmt⟩ : ∃ z, ns[t].args.length = z := ⟨_, rfl⟩
            obtain ⟨nt, hnt⟩ : ∃ z, ns[t].name = z := ⟨_, rfl⟩
            rw [hmt, hnt]
            clear htm hargs hk1 hk2 hmt hnt
            have HLE := Lib.hid (rleast_any (w5.alloc (.cells #[.int .i64 0, .string nt, .slice S mt k] 66)) B p g gc n cn cc ns cl ((HM2.out.below (HBW.out _ HB5.out)).alloc _) hl HN.out HCN.out HRV.out c)
            go_wp2_with fail
            refine HLE.out.mono ?_
            clear HLE
            rintro _ w6 ⟨rfl, hw6⟩
            obtain ⟨lx, hlx⟩ : ∃ z, loR ns cl c = z := ⟨_, rfl⟩
            rw [hlx]
            clear hlx
            have HB6 : Hid (Below C w4 w6) := Lib.hid (by rw [← hw6]; exact HB5.out.alloc (Nat.le_trans HC.out HB5.out.size) _)
            have HO6 : Hid (OwnRow 2 69 EBind (fun b => C ≤ b) w6 C (.slice Ab nb cb) (bs.map bindOf)) := Lib.hid (by rw [← hw6]; exact HO5.out.alloc EBind.stays _)
            clear hw6 HB5 HO5
            have HRL : Hid (Calls Try.prog 55 #[.pointer (some ⟨p, 0, none⟩), .slice none 0 0, .int .i64 c] w6 (LaidPost w6 (World.heap w6).size (.slice none 0 0) [] T)) := Lib.hid (rlaid_any w6 B p g gc n cn cc ns cl W E (HM2.out.below (HBW.out _ HB6.out)) HRW.out hl HN.out (World.heap w6).size (Nat.le_refl _) T.size T w6 c _ [] (Nat.le_refl _) HLT.out (Below.refl _ _) (Nat.le_refl _) (OwnNodes.nil _ _) (by simp))
            go_wp2_with fail
            refine HRL.out.mono ?_
            clear HRL
            rintro _ w8 ⟨v8, more, rfl, ho8, hk8, -, he8, hl8, hm8⟩
            have hb8 : Below (World.heap w6).size w6 w8 := hk8.below (Nat.le_refl _) (fun b h => by
              rcases h with h | ⟨h, _⟩
              · simp [Value.ownBlock] at h
              · exact h)
            have HB8 : Hid (Below C w4 w8) := Lib.hid (HB6.out.trans (hb8.mono (Nat.le_trans HC.out HB6.out.size)))
            have HO8 : Hid (OwnRow 2 69 EBind (fun b => C ≤ b) w8 C (.slice Ab nb cb) (bs.map bindOf)) := Lib.hid (HO6.out.below EBind.stays hb8)
            have HN8 : Hid (OwnNodes 66 3 w8 (World.heap w6).size v8 more) := Lib.hid (by simpa using ho8)
            have HWS : Hid (C ≤ (World.heap w6).size) := Lib.hid (Nat.le_trans HC.out HB6.out.size)
            have HE8 : Hid ((T.size ≤ 256 → more = T.flat 0) ∧ (256 < T.size → 256 < more.length) ∧ more.length ≤ 257) := Lib.hid ⟨fun h => he8 (by simpa using h), fun h => by simpa using hl8 (by simpa using h), by simpa using hm8⟩
            obtain ⟨A8, c8, e8⟩ := HN8.out.shape
            subst e8
            clear ho8 hk8 he8 hl8 hm8 hb8
            obtain ⟨q8, hq8⟩ : ∃ q, more.length = q := ⟨_, rfl⟩
            have HQ8 := Lib.hid hq8
            rw [hq8] at HN8
            (try rw [hq8])
            clear hq8
            by_cases hbig : 256 < T.size
            · have hqb : (256 : Int) < q8 := by have := HE8.out.2.1 hbig; rw [HQ8.out] at this; omega
              have HCO : Hid (Comes E .long) := Lib.hid (long_of HRW.out.ok HCL.out HRW.out.heads HRW.out.sound HME.out HLAY.out HBT.out HBIG.out HX.out.1 HX.out.2.1 HX.out.2.2.1 HX.out.2.2.2 HLTA.out hbig)
              clear hbig
              go_wp2_with fail
              refine bodyPost_ret (v := .tuple #[.slice none 0 0, .int .i64 3]) (by simp [results, Try.results37, go_sem]) rfl ?_
              exact HEND.out _ _ _ _ _ (HBW.out _ HB8.out) HCO.out ⟨rfl, rfl⟩ rfl IsRow.nil
            · have hqb : ¬ (256 : Int) < q8 := by have := HE8.out.1 (by omega); rw [← HQ8.out, this, Fo.flat_len]; omega
              have HMR : Hid (more = T.flat 0) := Lib.hid (HE8.out.1 (by omega))
              have HBP : Hid (BTL W (rOf cl) (tmR ns cl) (loR ns cl) h (bs ++ [(h, T)])) := Lib.hid (HBT.out.put HCL.out HX.out.1 HX.out.2.1 HX.out.2.2.1 HX.out.2.2.2 HLTA.out HNS.out)
              have H256 : Hid (T.size ≤ 256) := Lib.hid (by omega)
              have HEL : Hid (EBind (w8.alloc (.cells #[.int .i64 h, .slice A8 q8 c8] 69)) (Oth (fun b => C ≤ b) (w8.alloc (.cells #[.int .i64 h, .slice A8 q8 c8] 69)) (.slice Ab nb cb)) ⟨(h : Int), T.flat 0⟩ [.int .i64 h, .slice A8 q8 c8]) := Lib.hid ⟨_, rfl, by
                rw [← HMR.out]
                exact (HN8.out.alloc _).isRow (fun b h1 h2 => ⟨by have := HWS.out; omega, h2, fun e => by
                  obtain ⟨xs, hxs⟩ := HO6.out.owns
                  have := (hxs.lt b e).2
                  omega⟩)⟩
              have HLB : Hid ((bs.map bindOf).length = nb) := Lib.hid HBL.out
              have HLB2 : Hid (bs.length = nb) := Lib.hid (by simpa using HBL.out)
              have HCB : Hid (C ≤ w8.heap.size) := Lib.hid (Nat.le_trans HC.out HB8.out.size)
              clear hbig
              go_wp2_with (at_builtin; refine wpList_push _ EBind.stays (F := fun b => C ≤ b) rfl (.tmp 89) (.tmp 94) 33 rfl C 69 Try.underlying33 rbind_info rfl (by omega) (.slice Ab nb cb) (bs.map bindOf) rfl (HO8.out.alloc EBind.stays _) ⟨(h : Int), T.flat 0⟩ ⟨w8.heap.size, 0, none⟩ 1 [.int .i64 h, .slice A8 q8 c8] rfl rfl (news_cells (Blk.new w8 69 #[.int .i64 h, .slice A8 q8 c8])) (by intro u hu; simp only [List.mem_cons, List.not_mem_nil, or_false] at hu; rcases hu with rfl | rfl <;> rfl) HEL.out ?d3 ?d4 ?d5 ?d6)
              try (case d3 => rw [HLB.out]; unfold maxLen; omega)
              try (case d4 => rw [HLB.out]; omega)
              try (case d5 => have := HCB.out; simp; omega)
              case d6 =>
              intro A9 c9 w9 hown9 hg9 hat9
              have HB9 : Hid (Below C w4 w9) := Lib.hid ((HB8.out.alloc HCB.out (.cells #[.int .i64 h, .slice A8 q8 c8] 69)).grown hg9 (by have := HCB.out; simp; omega) (fun b e => by
                obtain ⟨xs, hxs⟩ := HO8.out.owns
                exact (hxs.lt b e).1))
              rw [HLB2.out] at hown9
              (try rw [HLB2.out])
              have HO9 : Hid (OwnRow 2 69 EBind (fun b => C ≤ b) w9 C (.slice A9 (nb + 1) c9) ((bs ++ [(h, T)]).map bindOf)) := Lib.hid (by rw [List.map_append]; exact hown9)
              clear hown9 hg9 hat9 HEL
              go_wp2_with fail
              go_roundg (2147483648 - h)
              case measure => have := HX.out.1; omega
              case rel => exact ⟨h, bs ++ [(h, T)], A9, nb + 1, c9, rfl, rfl, rfl, HHB.out, HBP.out, HO9.out, by rw [List.map_append, List.length_append, HLB.out]; rfl, by have := HX.out.1; omega, HB9.out, (fun q hq => by
                rcases List.mem_append.1 hq with h1 | h1
                · exact HSMA.out q h1
                · simp only [List.mem_cons, List.not_mem_nil, or_false] at h1; subst h1; exact H256.out)⟩
          · have HTM := Lib.hid htm
            clear htm
            have HLE := Lib.hid (rleast_any (w5.alloc (.cells #[.int .i64 0, .string ⟨#[]⟩, .slice none 0 0] 66)) B p g gc n cn cc ns cl ((HM2.out.below (HBW.out _ HB5.out)).alloc _) hl HN.out HCN.out HRV.out c)
            go_wp2_with fail
            refine HLE.out.mono ?_
            clear HLE
            rintro _ w6 ⟨rfl, hw6⟩
            obtain ⟨lx, hlx⟩ : ∃ z, loR ns cl c = z := ⟨_, rfl⟩
            have HLX := Lib.hid hlx
            rw [hlx]
            clear hlx
            have HB6 : Hid (Below C w4 w6) := Lib.hid (by rw [← hw6]; exact HB5.out.alloc (Nat.le_trans HC.out HB5.out.size) _)
            have HO6 : Hid (OwnRow 2 69 EBind (fun b => C ≤ b) w6 C (.slice Ab nb cb) (bs.map bindOf)) := Lib.hid (by rw [← hw6]; exact HO5.out.alloc EBind.stays _)
            clear hw6 HB5 HO5
            by_cases hlh : lx = h
            · subst hlh
              have HBS : Hid (BTL W (rOf cl) (tmR ns cl) (loR ns cl) lx bs) := Lib.hid (HBT.out.skip HCL.out HX.out.1 HX.out.2.1 HX.out.2.2.1 HX.out.2.2.2 (by rw [HRC.out]; exact HTM.out) (by rw [HRC.out]; exact HLX.out))
              go_wp2_with fail
              go_roundg (2147483648 - lx)
              case measure => have := HX.out.1; omega
              case rel => exact ⟨lx, bs, Ab, nb, cb, rfl, rfl, rfl, HHB.out, HBS.out, HO6.out, HBL.out, by have := HX.out.1; omega, HB6.out, HSMA.out⟩
            · have hlh' : ¬ (lx : Int) = h := by omega
              have hlhb : ((lx : Int) == h) = false := by simp; omega
              have HNS : Hid (¬ (tmR ns cl (rOf cl kk) = none ∧ loR ns cl (rOf cl kk) = h)) := Lib.hid (fun e => by rw [HRC.out, HLX.out] at e; exact hlh e.2)
              have HRL : Hid (Calls Try.prog 55 #[.pointer (some ⟨p, 0, none⟩), .slice none 0 0, .int .i64 c] w6 (LaidPost w6 (World.heap w6).size (.slice none 0 0) [] T)) := Lib.hid (rlaid_any w6 B p g gc n cn cc ns cl W E (HM2.out.below (HBW.out _ HB6.out)) HRW.out hl HN.out (World.heap w6).size (Nat.le_refl _) T.size T w6 c _ [] (Nat.le_refl _) HLT.out (Below.refl _ _) (Nat.le_refl _) (OwnNodes.nil _ _) (by simp))
              go_wp2_with fail
              refine HRL.out.mono ?_
              clear HRL
              rintro _ w8 ⟨v8, more, rfl, ho8, hk8, -, he8, hl8, hm8⟩
              have hb8 : Below (World.heap w6).size w6 w8 := hk8.below (Nat.le_refl _) (fun b h => by
                rcases h with h | ⟨h, _⟩
                · simp [Value.ownBlock] at h
                · exact h)
              have HB8 : Hid (Below C w4 w8) := Lib.hid (HB6.out.trans (hb8.mono (Nat.le_trans HC.out HB6.out.size)))
              have HO8 : Hid (OwnRow 2 69 EBind (fun b => C ≤ b) w8 C (.slice Ab nb cb) (bs.map bindOf)) := Lib.hid (HO6.out.below EBind.stays hb8)
              have HN8 : Hid (OwnNodes 66 3 w8 (World.heap w6).size v8 more) := Lib.hid (by simpa using ho8)
              have HWS : Hid (C ≤ (World.heap w6).size) := Lib.hid (Nat.le_trans HC.out HB6.out.size)
              have HE8 : Hid ((T.size ≤ 256 → more = T.flat 0) ∧ (256 < T.size → 256 < more.length) ∧ more.length ≤ 257) := Lib.hid ⟨fun h => he8 (by simpa using h), fun h => by simpa using hl8 (by simpa using h), by simpa using hm8⟩
              obtain ⟨A8, c8, e8⟩ := HN8.out.shape
              subst e8
              clear ho8 hk8 he8 hl8 hm8 hb8
              obtain ⟨q8, hq8⟩ : ∃ q, more.length = q := ⟨_, rfl⟩
              have HQ8 := Lib.hid hq8
              rw [hq8] at HN8
              (try rw [hq8])
              clear hq8
              by_cases hbig : 256 < T.size
              · have hqb : (256 : Int) < q8 := by have := HE8.out.2.1 hbig; rw [HQ8.out] at this; omega
                have HCO : Hid (Comes E .long) := Lib.hid (long_of HRW.out.ok HCL.out HRW.out.heads HRW.out.sound HME.out HLAY.out HBT.out HBIG.out HX.out.1 HX.out.2.1 HX.out.2.2.1 HX.out.2.2.2 HLTA.out hbig)
                clear hbig
                go_wp2_with fail
                refine bodyPost_ret (v := .tuple #[.slice none 0 0, .int .i64 3]) (by simp [results, Try.results37, go_sem]) rfl ?_
                exact HEND.out _ _ _ _ _ (HBW.out _ HB8.out) HCO.out ⟨rfl, rfl⟩ rfl IsRow.nil
              · have hqb : ¬ (256 : Int) < q8 := by have := HE8.out.1 (by omega); rw [← HQ8.out, this, Fo.flat_len]; omega
                have HMR : Hid (more = T.flat 0) := Lib.hid (HE8.out.1 (by omega))
                have HBP : Hid (BTL W (rOf cl) (tmR ns cl) (loR ns cl) h (bs ++ [(h, T)])) := Lib.hid (HBT.out.put HCL.out HX.out.1 HX.out.2.1 HX.out.2.2.1 HX.out.2.2.2 HLTA.out HNS.out)
                have H256 : Hid (T.size ≤ 256) := Lib.hid (by omega)
                have HEL : Hid (EBind (w8.alloc (.cells #[.int .i64 h, .slice A8 q8 c8] 69)) (Oth (fun b => C ≤ b) (w8.alloc (.cells #[.int .i64 h, .slice A8 q8 c8] 69)) (.slice Ab nb cb)) ⟨(h : Int), T.flat 0⟩ [.int .i64 h, .slice A8 q8 c8]) := Lib.hid ⟨_, rfl, by
                  rw [← HMR.out]
                  exact (HN8.out.alloc _).isRow (fun b h1 h2 => ⟨by have := HWS.out; omega, h2, fun e => by
                    obtain ⟨xs, hxs⟩ := HO6.out.owns
                    have := (hxs.lt b e).2
                    omega⟩)⟩
                have HLB : Hid ((bs.map bindOf).length = nb) := Lib.hid HBL.out
                have HLB2 : Hid (bs.length = nb) := Lib.hid (by simpa using HBL.out)
                have HCB : Hid (C ≤ w8.heap.size) := Lib.hid (Nat.le_trans HC.out HB8.out.size)
                clear hbig
                go_wp2_with (at_builtin; refine wpList_push _ EBind.stays (F := fun b => C ≤ b) rfl (.tmp 89) (.tmp 94) 33 rfl C 69 Try.underlying33 rbind_info rfl (by omega) (.slice Ab nb cb) (bs.map bindOf) rfl (HO8.out.alloc EBind.stays _) ⟨(h : Int), T.flat 0⟩ ⟨w8.heap.size, 0, none⟩ 1 [.int .i64 h, .slice A8 q8 c8] rfl rfl (news_cells (Blk.new w8 69 #[.int .i64 h, .slice A8 q8 c8])) (by intro u hu; simp only [List.mem_cons, List.not_mem_nil, or_false] at hu; rcases hu with rfl | rfl <;> rfl) HEL.out ?d3 ?d4 ?d5 ?d6)
                try (case d3 => rw [HLB.out]; unfold maxLen; omega)
                try (case d4 => rw [HLB.out]; omega)
                try (case d5 => have := HCB.out; simp; omega)
                case d6 =>
                intro A9 c9 w9 hown9 hg9 hat9
                have HB9 : Hid (Below C w4 w9) := Lib.hid ((HB8.out.alloc HCB.out (.cells #[.int .i64 h, .slice A8 q8 c8] 69)).grown hg9 (by have := HCB.out; simp; omega) (fun b e => by
                  obtain ⟨xs, hxs⟩ := HO8.out.owns
                  exact (hxs.lt b e).1))
                rw [HLB2.out] at hown9
                (try rw [HLB2.out])
                have HO9 : Hid (OwnRow 2 69 EBind (fun b => C ≤ b) w9 C (.slice A9 (nb + 1) c9) ((bs ++ [(h, T)]).map bindOf)) := Lib.hid (by rw [List.map_append]; exact hown9)
                clear hown9 hg9 hat9 HEL
                go_wp2_with fail
                go_roundg (2147483648 - h)
                case measure => have := HX.out.1; omega
                case rel => exact ⟨h, bs ++ [(h, T)], A9, nb + 1, c9, rfl, rfl, rfl, HHB.out, HBP.out, HO9.out, by rw [List.map_append, List.length_append, HLB.out]; rfl, by have := HX.out.1; omega, HB9.out, (fun q hq => by
                  rcases List.mem_append.1 hq with h1 | h1
                  · exact HSMA.out q h1
                  · simp only [List.mem_cons, List.not_mem_nil, or_false] at h1; subst h1; exact H256.out)⟩
end Go.Proofs.Ytgcbnndbeoekgaa
end
section
/- between two pairs of the document's Add: its web in memory and what it says -/
namespace Go.Proofs.Ytgcbnndbeoekgaa
open Go Go.RowKit Go.Maps

theorem flat_argsIn1 {T : Fo} (h1 : T.one) (hw : T.wf) : ∀ t ∈ T.flat 0, ∀ a ∈ t.args, 0 ≤ a ∧ a < ((T.flat 0).length : Int) := fun t ht a ha => by
  obtain ⟨tr, hT, _⟩ := tree_trees h1 hw
  obtain ⟨j, hj, rfl⟩ := List.getElem_of_mem ht
  have hl := Fo.flat_len T 0
  rcases hT.at_ j hj with ⟨n, _, e, _⟩ | ⟨nm, ks, e, _, h3⟩
  · rw [e] at ha; cases ha
  · rw [e] at ha
    obtain ⟨b, hb, rfl⟩ := List.mem_map.1 ha
    have := h3 b hb
    show (0 : Int) ≤ (b : Int) ∧ (b : Int) < _
    omega
structure RAI (B p N : Nat) (wB wx : World) (nv cv : Value) (ns : List TN) (cl : List Nat) (W : WebT) (E : List (Fo × Fo)) : Prop where
  below : Below B wB wx
  hB : B ≤ wB.heap.size
  rm : RM wx B p nv cv ns cl
  rw : RW W E ns cl
  meets : Meets W (rOf cl) E
  few : ns.length ≤ N
section
variable {B p N : Nat} {wB wx w' : World} {nv cv : Value} {ns : List TN} {cl : List Nat} {W : WebT} {E : List (Fo × Fo)} {T : Fo}
theorem RAI.size (h : RAI B p N wB wx nv cv ns cl W E) : B ≤ wx.heap.size := Nat.le_trans h.hB h.below.size
theorem RAI.alloc (h : RAI B p N wB wx nv cv ns cl W E) (o : Obj) : RAI B p N wB (wx.alloc o) nv cv ns cl W E := { h with below := h.below.alloc h.size o, rm := h.rm.alloc o }
theorem RAI.drew (h : RAI B p N wB wx nv cv ns cl W E) : RAI B p N wB wx.drew nv cv ns cl W E := { h with below := h.below.drew, rm := h.rm.drew }
theorem RAI.wr_lt (h : RAI B p N wB wx nv cv ns cl W E) {b : Nat} (hb : Wr p nv cv b) : B ≤ b ∧ b < wx.heap.size := by
  rcases hb with rfl | hb | hb
  · exact ⟨h.rm.low, h.rm.blk.lt⟩
  · exact h.rm.nodes.lt b hb
  · exact h.rm.cls.lt b hb
theorem RAI.start (w : World) : RAI w.heap.size w.heap.size 0 w (w.alloc (.cells #[.slice none 0 0, .slice none 0 0] 90)) (.slice none 0 0) (.slice none 0 0) [] [] webNil0 [] :=
  ⟨(Below.refl _ _).alloc (Nat.le_refl _) _, Nat.le_refl _, ⟨Blk.new _ _ _, OwnX.nil _ _, World.ownsRow_nil _ _ _ _, Nat.le_refl _⟩, RW.nil _, (fun p hp => by cases hp), Nat.le_refl _⟩
/-- a term is laid: what comes -/
def RLaidAs (B p N : Nat) (wB wx : World) (nv0 cv0 : Value) (ns : List TN) (W : WebT) (E : List (Fo × Fo)) (T : Fo) (e : Ending) (w' : World) : Prop :=
  e = .returned (.int .i64 (ns.length : Nat)) ∧ ∃ nv cv ns' cl W', RAI B p (N + 256) wB w' nv cv ns' cl W' E ∧ (∀ i, i < W.n → i < W'.n ∧ W'.tr i = W.tr i) ∧ ns.length < W'.n ∧ W'.tr ns.length = T ∧ Kb (Wr p nv0 cv0) wx w'
theorem RAI.lay (h : RAI B p N wB wx nv cv ns cl W E) (hN : N ≤ 1048576) (h1 : T.one) (hw : T.wf) (h3 : T.size ≤ 256) {ts : List TN} (hts : ts = T.flat 0) {A : Option Addr} {c : Nat} {F : Nat → Prop} (hF : ∀ b, F b → b < wx.heap.size ∧ ¬ Wr p nv cv b) (hr : RowOf 3 ETN wx F A ts) (hlc : ts.length ≤ c) (hc : c ≤ maxLen) :
    Calls Try.prog 35 #[.pointer (some ⟨p, 0, none⟩), .agg #[.slice A ts.length c]] wx (RLaidAs B p N wB wx nv cv ns W E T) := by
  subst hts
  have hfl := Fo.flat_len T 0
  have hp := Fo.one_size h1
  have hai := flat_argsIn1 h1 hw
  refine (rlay_any wx B p nv cv ns cl A c (T.flat 0) F hF hr hlc hc h.size h.rm h.rw.cn ⟨by omega, by omega⟩ (by have := h.few; omega) (fun t ht => ⟨by have := flat_args T 0 t ht; omega, hai t ht⟩) (fun t ht => (flat_var T 0 hw t ht).1)).mono ?_
  rintro e w' ⟨rfl, nv', cv', hrm, hkb, _, _⟩
  obtain ⟨W', hW', htr, htT, hn, hM⟩ := h.rw.lay h1 hw h3
  rw [hfl] at hrm
  refine ⟨rfl, nv', cv', _, _, W', ⟨h.below.trans (hkb.below h.size fun b hb => (h.wr_lt hb).1), h.hB, hrm, hW', hM E h.meets, by rw [List.length_append, List.length_map, hfl]; have := h.few; omega⟩, fun i hi => ⟨by rw [hn]; have := h.rw.n; omega, htr i hi⟩, by rw [hn]; omega, htT, hkb⟩
theorem RAI.join (h : RAI B p N wB wx nv cv ns cl W E) (hN : N ≤ 1048576) {a b : Nat} (ha : a < W.n) (hb : b < W.n) {q : Fo × Fo} (e1 : W.tr a = q.1) (e2 : W.tr b = q.2) :
    Calls Try.prog 36 #[.pointer (some ⟨p, 0, none⟩), .int .i64 a, .int .i64 b] wx (fun e w' => (∃ bb, IsB bb e) ∧ ∃ cl', RAI B p N wB w' nv cv ns cl' W (E ++ [q]) ∧ wx.grownBy w' cv.ownBlock) := by
  have hn := h.rw.n
  have hcn := h.rw.cn
  refine (rjoin_any wx B p nv cv ns cl h.rm (by have := h.few; omega) a b (by omega) (by omega)).mono ?_
  rintro e w' ⟨he, hj⟩
  refine ⟨⟨_, he⟩, _, ⟨?_, h.hB, hj.mem, (h.rw.more [q]).join (by omega) (by omega) (fun θ hθ => ?_), fun p' hp' => ?_, h.few⟩, hj.grown⟩
  · refine h.below.grown hj.grown h.size (fun k e => ?_)
    exact (h.rm.cls.lt k e).1
  · unfold WebT.val
    rw [e1, e2]
    exact hθ q (List.mem_append_right _ (List.mem_cons_self ..))
  · rcases List.mem_append.1 hp' with h1 | h1
    · exact h.meets.joined (by omega) _ _ p' h1
    · simp only [List.mem_cons, List.not_mem_nil, or_false] at h1
      subst h1
      exact ⟨a, b, ha, hb, e1, e2, join_ab (by omega) (by omega)⟩
end
end Go.Proofs.Ytgcbnndbeoekgaa
end
section
/- the document's Add: two more terms meet -/
namespace Go.Proofs.Ytgcbnndbeoekgaa
open Go Go.RowKit Go.Maps

set_option maxRecDepth 100000 in
set_option maxHeartbeats 16000000 in
theorem radd_any (Ab : Option Addr) (cb : Nat) (bd : List ABind) (A1 : Option Addr) (c1 : Nat) (l1 : List TN) (A2 : Option Addr) (c2 : Nat) (l2 : List TN) (w : World) (F : Nat → Prop) (hF : ∀ b, F b → b < w.heap.size) (hrb : RowOf 2 EBind w F Ab bd) (hr1 : RowOf 3 ETN w F A1 l1) (hr2 : RowOf 3 ETN w F A2 l2)
    (hlb : bd.length ≤ cb) (hcb : cb ≤ maxLen) (hl1 : l1.length ≤ c1) (hc1 : c1 ≤ maxLen) (hl2 : l2.length ≤ c2) (hc2 : c2 ≤ maxLen) (hlm : bd.length ≤ 2000)
    (hz1 : ∀ t ∈ l1, t.name.size ≤ 9223372036854775807) (hz2 : ∀ t ∈ l2, t.name.size ≤ 9223372036854775807) (hzb : ∀ x ∈ bd, ∀ t ∈ x.term, t.name.size ≤ 9223372036854775807 ∧ InI t.var) :
    Calls Try.prog 18 #[.slice Ab bd.length cb, .agg #[.slice A1 l1.length c1], .agg #[.slice A2 l2.length c2]] w (BoundRes w (AddSays bd l1 l2)) := by
  have HMAY : Hid (∀ w', Below w.heap.size w w' → Calls Try.prog 28 #[.slice Ab bd.length cb] w' fun e w2 => e = .returned (.bool (mayB bd)) ∧ Below w'.heap.size w' w2) := Lib.hid (fun w' hb => rmay_any Ab cb bd w' F (fun b h => Nat.lt_of_lt_of_le (hF b h) hb.size) (hrb.keep EBind.stays (Keep.below hb hF) (fun _ h => h)) hlb hcb (fun x hx t ht => (hzb x hx t ht).1))
  have HRI1 : Hid (∀ w', Below w.heap.size w w' → Calls Try.prog 29 #[.agg #[.slice A1 l1.length c1]] w' fun e w2 => e = .returned (.int .i64 (rightI l1)) ∧ Below w'.heap.size w' w2) := Lib.hid (fun w' hb => rright_any A1 c1 l1 w' F (fun b h => Nat.lt_of_lt_of_le (hF b h) hb.size) (hr1.keep ETN.stays (Keep.below hb hF) (fun _ h => h)) hl1 hc1 hz1)
  have HRI2 : Hid (∀ w', Below w.heap.size w w' → Calls Try.prog 29 #[.agg #[.slice A2 l2.length c2]] w' fun e w2 => e = .returned (.int .i64 (rightI l2)) ∧ Below w'.heap.size w' w2) := Lib.hid (fun w' hb => rright_any A2 c2 l2 w' F (fun b h => Nat.lt_of_lt_of_le (hF b h) hb.size) (hr2.keep ETN.stays (Keep.below hb hF) (fun _ h => h)) hl2 hc2 hz2)
  have HR1 := Lib.hid hr1; have HR2 := Lib.hid hr2; have HRB := Lib.hid hrb
  have HCM : Hid (cb ≤ maxLen ∧ c1 ≤ maxLen ∧ c2 ≤ maxLen) := Lib.hid ⟨hcb, hc1, hc2⟩
  have HLL : Hid (bd.length ≤ cb ∧ l1.length ≤ c1 ∧ l2.length ≤ c2) := Lib.hid ⟨hlb, hl1, hl2⟩
  unfold maxLen at hcb hc1 hc2
  obtain ⟨mb, hmb⟩ : ∃ q, mayB bd = q := ⟨_, rfl⟩
  obtain ⟨ri1, hri1⟩ : ∃ q, rightI l1 = q := ⟨_, rfl⟩
  obtain ⟨ri2, hri2⟩ : ∃ q, rightI l2 = q := ⟨_, rfl⟩
  obtain ⟨m1, hm1⟩ : ∃ q, l1.length = q := ⟨_, rfl⟩
  obtain ⟨m2, hm2⟩ : ∃ q, l2.length = q := ⟨_, rfl⟩
  obtain ⟨nb, hnb⟩ : ∃ q, bd.length = q := ⟨_, rfl⟩
  have HMB := Lib.hid hmb; have HRE1 := Lib.hid hri1; have HRE2 := Lib.hid hri2
  have HM1 := Lib.hid hm1; have HM2 := Lib.hid hm2; have HNB := Lib.hid hnb
  rw [hmb] at HMAY
  rw [hri1] at HRI1
  rw [hri2] at HRI2
  rw [hm1] at HRI1 hl1
  rw [hm2] at HRI2 hl2
  rw [hnb] at HMAY hlb hlm
  rw [hm1, hm2, hnb]
  clear hmb hri1 hri2 hr1 hr2 hrb hz1 hz2 hzb hm1 hm2 hnb
  go_enter Try.func18, Try.ntmps18
  go_wp2_with fail
  refine (HMAY.out _ (((Below.refl _ _).alloc (Nat.le_refl _) _).alloc (by simp) _)).mono ?_
  rintro _ w2 ⟨rfl, hb2⟩
  have HB2 : Hid (Below w.heap.size w w2) := Lib.hid ((((Below.refl w.heap.size w).alloc (Nat.le_refl _) (.cells #[.slice A1 m1 c1] 24)).alloc (by simp) (.cells #[.slice A2 m2 c2] 24)).trans (hb2.mono (by simp; omega)))
  have HX2 : Hid (Blk w2 w.heap.size 24 #[.slice A1 m1 c1]) := Lib.hid (((Blk.new w 24 #[.slice A1 m1 c1]).alloc (.cells #[.slice A2 m2 c2] 24)).below hb2 (by simp; omega))
  have HY2 : Hid (Blk w2 (w.heap.size + 1) 24 #[.slice A2 m2 c2]) := Lib.hid ((Blk.new' (w := w.alloc (.cells #[.slice A1 m1 c1] 24)) (by simp)).below hb2 (by simp))
  clear hb2
  cases mb
  · have hmay : ¬ MayP bd := fun h => by have := HMB.out; rw [mayB_yes h] at this; cases this
    have HE : Hid (AddSays bd l1 l2 2 []) := Lib.hid (.inl ⟨hmay, rfl, rfl⟩)
    clear hmay
    go_wp2
    refine bodyPost_ret (v := .tuple #[.slice none 0 0, .int .i64 2]) (by simp [results, Try.results18, go_sem]) rfl ?_
    exact .none HE.out HB2.out
  have HMAYP : Hid (MayP bd) := Lib.hid (mayB_iff.1 HMB.out)
  have x0 := HX2.out.cell 0
  have hxl := HX2.out.lt
  simp at x0
  go_wp2_with fail
  clear x0 hxl
  refine (HRI1.out _ HB2.out).mono ?_
  rintro _ w3 ⟨rfl, hb3⟩
  have HB3 := Lib.hid (HB2.out.trans (hb3.mono HB2.out.size))
  have HX3 := Lib.hid (HX2.out.below hb3 HX2.out.lt); have HY3 := Lib.hid (HY2.out.below hb3 HY2.out.lt)
  clear hb3 HB2 HX2 HY2
  by_cases hri0 : ri1 = 0
  case neg =>
    have e1 : (ri1 == 0) = false := by simp; exact hri0
    have e2 : (ri1 != 0) = true := by simp; exact hri0
    have HE : Hid (AddSays bd l1 l2 ri1 []) := Lib.hid (.inr (.inl ⟨HMAYP.out, fun h => hri0 (HRE1.out.symm.trans h), HRE1.out.symm, rfl⟩))
    clear hri0
    go_wp2
    refine bodyPost_ret (v := .tuple #[.slice none 0 0, .int .i64 ri1]) (by simp [results, Try.results18, go_sem]) rfl ?_
    exact .none HE.out HB3.out
  case pos =>
  subst hri0
  have HZ1 : Hid (rightI l1 = 0) := Lib.hid HRE1.out
  have y0 := HY3.out.cell 0
  have hyl := HY3.out.lt
  simp at y0
  go_wp2_with fail
  clear y0 hyl
  refine (HRI2.out _ HB3.out).mono ?_
  rintro _ w4 ⟨rfl, hb4⟩
  have HB4 := Lib.hid (HB3.out.trans (hb4.mono HB3.out.size))
  have HX4 := Lib.hid (HX3.out.below hb4 HX3.out.lt); have HY4 := Lib.hid (HY3.out.below hb4 HY3.out.lt)
  clear hb4 HB3 HX3 HY3
  by_cases hri0 : ri2 = 0
  case neg =>
    have e2 : (ri2 != 0) = true := by simp; exact hri0
    have HE : Hid (AddSays bd l1 l2 ri2 []) := Lib.hid (.inr (.inr (.inl ⟨HMAYP.out, HZ1.out, fun h => hri0 (HRE2.out.symm.trans h), HRE2.out.symm, rfl⟩)))
    clear hri0
    go_wp2
    refine bodyPost_ret (v := .tuple #[.slice none 0 0, .int .i64 ri2]) (by simp [results, Try.results18, go_sem]) rfl ?_
    exact .none HE.out HB4.out
  case pos =>
  subst hri0
  have HZ2 : Hid (rightI l2 = 0) := Lib.hid HRE2.out
  have HBND := Lib.hid (bsOf_ok HMAYP.out)
  have HT1 := Lib.hid (treeOf_ok HZ1.out); have HT2 := Lib.hid (treeOf_ok HZ2.out)
  obtain ⟨bs, hbs⟩ : ∃ bs, bsOf bd = bs := ⟨_, rfl⟩
  have HBS := Lib.hid hbs
  rw [hbs] at HBND
  clear hbs
  have HBL : Hid (bs.length = nb) := Lib.hid (by have := congrArg List.length HBND.out.eq; rw [List.length_map] at this; rw [← this]; exact HNB.out)
  obtain ⟨B, hB⟩ : ∃ q, w4.heap.size = q := ⟨_, rfl⟩
  have HB : Hid (Below w.heap.size w w4 ∧ w.heap.size + 1 < B) := Lib.hid ⟨HB4.out, by rw [← hB]; exact HY4.out.lt⟩
  have HAI := RAI.start w4
  rw [hB] at HAI
  obtain ⟨w5, hw5⟩ : ∃ q : World, w4.alloc (.cells #[.slice none 0 0, .slice none 0 0] 90) = q := ⟨_, rfl⟩
  rw [hw5] at HAI
  have HAI5 := Lib.hid HAI
  clear HAI HB4
  go_upto_region 10 with fail
  (try rw [hB])
  (try rw [hw5])
  clear hw5
  have HBE : Hid (w4.heap.size = B) := Lib.hid hB
  clear hB
  have HFA : Hid (∀ w', Below B w4 w' → Below w.heap.size w w') := Lib.hid (fun w' hb => HB.out.1.trans (hb.mono (by rw [← HBE.out]; exact HB.out.1.size)))
  go_loopg [10] nb (fun g s10 wx => ∃ (j : Nat) (nv cv : Value) (ns : List TN) (cl : List Nat) (W : WebT), s10 = .int .i64 j ∧ g = nb - j ∧ j ≤ nb ∧ RAI B B (512 * j) w4 wx nv cv ns cl W (eqsB (bs.take j)))
  case atStart => exact ⟨0, _, _, _, _, _, rfl, rfl, Nat.zero_le _, HAI5.out⟩
  case round =>
    clear HAI5
    obtain ⟨j, nv, cv, ns, cl, W, rfl, rfl, hj, hI⟩ := hrel
    have HI := Lib.hid hI
    have j0 : (0 : Int) ≤ j := by omega
    clear hI
    by_cases hlt : j < nb
    · have hlt' : (j : Int) < nb := by omega
      have hjb : j < bs.length := by rw [HBL.out]; exact hlt
      obtain ⟨b, off, S, k, e, hbF, d0, d1, hk1, hk2, hrow⟩ := bind_bs HRB.out HBND.out.eq hjb
      have HEQ := Lib.hid (eqsB_take hjb)
      have HOK := Lib.hid (HBND.out.ok _ (List.getElem_mem hjb))
      have HHB : Hid (bs[j].1 ≤ 2147483647) := Lib.hid (hole_le HMAYP.out HBND.out.eq hjb)
      obtain ⟨⟨h, T⟩, hx⟩ : ∃ x, bs[j] = x := ⟨_, rfl⟩
      rw [hx] at d0 d1 hk1 hrow HEQ HOK HHB
      obtain ⟨tn, htn⟩ : ∃ q, (T.flat 0).length = q := ⟨_, rfl⟩
      replace d1 : w.cell? ⟨b, off + j * 2 + 1, none⟩ = some (.slice S tn k) := by rw [← htn]; exact d1
      replace d0 : w.cell? ⟨b, off + j * 2, none⟩ = some (.int .i64 h) := d0
      have HD : Hid (∀ w', Below B w4 w' → w'.cell? ⟨b, off + j * 2, none⟩ = some (.int .i64 h) ∧ w'.cell? ⟨b, off + j * 2 + 1, none⟩ = some (.slice S tn k)) := Lib.hid (fun w' hb => ⟨((HFA.out w' hb).cell (p := ⟨b, _, none⟩) (hF b hbF)).trans d0, ((HFA.out w' hb).cell (p := ⟨b, _, none⟩) (hF b hbF)).trans d1⟩)
      have HROW := Lib.hid hrow
      have HKK : Hid ((T.flat 0).length ≤ k ∧ k ≤ maxLen) := Lib.hid ⟨hk1, hk2⟩
      have HTN := Lib.hid htn
      subst e
      clear hk1 hk2 hrow hx htn hjb d0 d1
      obtain ⟨d0, d1⟩ := HD.out _ HI.out.below
      obtain ⟨q5, hq5⟩ : ∃ z, wr.heap.size = z := ⟨_, rfl⟩
      obtain ⟨u1, hu1⟩ : ∃ z : World, wr.alloc (.cells #[.int .i64 h, .string ⟨#[]⟩, .slice none 0 0] 66) = z := ⟨_, rfl⟩
      have HI1 : Hid (RAI B B (512 * j) w4 u1 nv cv ns cl W (eqsB (bs.take j))) := Lib.hid (by rw [← hu1]; exact HI.out.alloc _)
      have HY1 : Hid (Blk u1 q5 66 #[.int .i64 h, .string ByteArray.empty, .slice none 0 0]) := Lib.hid (by rw [← hu1]; exact Blk.new' hq5.symm)
      have HQW : Hid (∀ b, Wr B nv cv b → b < q5) := Lib.hid (fun b hb => by rw [← hq5]; exact (HI.out.wr_lt hb).2)
      go_wp2_with fail
      (try rw [hq5])
      (try rw [hu1])
      clear hu1 hq5 HI d0 d1
      refine (HI1.out.lay (F := fun b => b = q5) (T := .hole h .nil) (by omega) rfl ⟨HOK.out.1, HHB.out, trivial⟩ (by show 1 + 0 ≤ 256; omega) (ts := [⟨(h : Int), ByteArray.empty, []⟩]) rfl (fun b e => by subst e; exact ⟨HY1.out.lt, fun hb => by have := HQW.out _ hb; omega⟩) (hole_row HY1.out) (Nat.le_refl _) (by unfold maxLen; simp)).mono ?_
      rintro _ u2 ⟨rfl, nv2, cv2, ns2, cl2, W2, hI2, hold2, hk2, ht2, _⟩
      obtain ⟨k1, hk1⟩ : ∃ z, ns.length = z := ⟨_, rfl⟩
      rw [hk1] at hk2 ht2
      rw [hk1]
      have HI2 := Lib.hid hI2
      have HK2 : Hid (k1 < W2.n ∧ W2.tr k1 = .hole h .nil) := Lib.hid ⟨hk2, ht2⟩
      clear hI2 hold2 hk2 ht2 HI1 HY1 HQW hk1
      have HSW2 := HFA.out _ HI2.out.below
      have HCALL := HI2.out.lay (F := F) (T := T) (by omega) HOK.out.2.1 HOK.out.2.2.1 HOK.out.2.2.2 rfl (fun b hb => ⟨Nat.lt_of_lt_of_le (hF b hb) HSW2.size, fun hw => by have h1 := (HI2.out.wr_lt hw).1; have h2 := hF b hb; have h3 := HB.out.2; omega⟩) (HROW.out.keep ETN.stays (Keep.below (w' := u2) (w := w) HSW2 hF) (fun _ h => h)) HKK.out.1 HKK.out.2
      rw [HTN.out] at HCALL
      have HC3 := Lib.hid HCALL
      clear HCALL HSW2
      obtain ⟨d0, d1⟩ := HD.out _ HI2.out.below
      go_wp2_with fail
      clear d0 d1
      refine HC3.out.mono ?_
      clear HC3
      rintro _ u3 ⟨rfl, nv3, cv3, ns3, cl3, W3, hI3, hold3, hk3, ht3, _⟩
      obtain ⟨k2, hk2⟩ : ∃ z, ns2.length = z := ⟨_, rfl⟩
      rw [hk2] at hk3 ht3
      rw [hk2]
      have HI3 := Lib.hid hI3
      have HK3 : Hid (k1 < W3.n ∧ W3.tr k1 = .hole h .nil ∧ k2 < W3.n ∧ W3.tr k2 = T) := Lib.hid ⟨(hold3 k1 HK2.out.1).1, (hold3 k1 HK2.out.1).2.trans HK2.out.2, hk3, ht3⟩
      clear hI3 hold3 hk3 ht3 HI2 hk2
      have HC4 := Lib.hid (HI3.out.join (by omega) HK3.out.1 HK3.out.2.2.1 (q := (.hole h .nil, T)) HK3.out.2.1 HK3.out.2.2.2)
      go_wp2_with fail
      refine HC4.out.mono ?_
      clear HC4
      rintro _ u4 ⟨⟨bb, hbb⟩, cl4, hI4, _⟩
      unfold IsB at hbb
      subst hbb
      have HI4 := Lib.hid hI4
      clear hI4 HI3
      go_wp2_with fail
      go_roundg (nb - (j + 1))
      case measure => omega
      case rel => exact ⟨j + 1, _, _, _, _, _, by go_num, rfl, by omega, by rw [HEQ.out]; exact HI4.out⟩
    · have hlt' : ¬ (j : Int) < nb := by omega
      have hjn : j = nb := by omega
      have HEB : Hid (eqsB (bs.take j) = eqsB bs) := Lib.hid (by rw [List.take_of_length_le (by rw [HBL.out]; omega)])
      rw [HEB.out] at HI
      clear hjn
      have HXA : Hid (∀ w', Below B w4 w' → w'.cell? ⟨w.heap.size, 0, none⟩ = some (.slice A1 m1 c1) ∧ w'.cell? ⟨w.heap.size + 1, 0, none⟩ = some (.slice A2 m2 c2)) := Lib.hid (fun w' hb => by
        have x0 := (HX4.out.below hb (by have := HB.out.2; omega)).cell 0; have y0 := (HY4.out.below hb HB.out.2).cell 0
        simp at x0 y0
        exact ⟨x0, y0⟩)
      have HFIN : Hid (∀ o err out, Comes (eqsB bs ++ [(treeOf l1, treeOf l2)]) o → OutIs o err out → AddSays bd l1 l2 err out) := Lib.hid (fun o err out h1 h2 => .inr (.inr (.inr ⟨HMAYP.out, HZ1.out, HZ2.out, o, by unfold addEqs; rw [HBS.out]; exact h1, h2⟩)))
      obtain ⟨d0, d1⟩ := HXA.out _ HI.out.below
      have hxl : w.heap.size < wr.heap.size := by have := HI.out.size; have := HB.out.2; omega
      have HSW1 := HFA.out _ HI.out.below
      have HCALL := HI.out.lay (F := F) (T := treeOf l1) (by omega) HT1.out.1 HT1.out.2.1 HT1.out.2.2.2 HT1.out.2.2.1 (fun b hb => ⟨Nat.lt_of_lt_of_le (hF b hb) HSW1.size, fun hw => by have h1 := (HI.out.wr_lt hw).1; have h2 := hF b hb; have h3 := HB.out.2; omega⟩) (HR1.out.keep ETN.stays (Keep.below (w := w) HSW1 hF) (fun _ h => h)) HLL.out.2.1 HCM.out.2.1
      rw [HM1.out] at HCALL
      have HC1 := Lib.hid HCALL
      clear HCALL HSW1
      go_wp2_with fail
      clear d0 d1 hxl
      refine HC1.out.mono ?_
      clear HC1
      rintro _ u1 ⟨rfl, hnv1, hcv1, hns1, hcl1, W1, hI1, hold1, hk1, ht1, _⟩
      obtain ⟨k1, hkk1⟩ : ∃ z, ns.length = z := ⟨_, rfl⟩
      rw [hkk1] at hk1 ht1
      rw [hkk1]
      have HJ1 := Lib.hid hI1
      have HK1 : Hid (k1 < W1.n ∧ W1.tr k1 = treeOf l1) := Lib.hid ⟨hk1, ht1⟩
      clear hI1 hold1 hk1 ht1 hkk1 HI
      obtain ⟨d0, d1⟩ := HXA.out _ HJ1.out.below
      have hxl : w.heap.size + 1 < u1.heap.size := by have := HJ1.out.size; have := HB.out.2; omega
      have HSW2 := HFA.out _ HJ1.out.below
      have HCALL := HJ1.out.lay (F := F) (T := treeOf l2) (by omega) HT2.out.1 HT2.out.2.1 HT2.out.2.2.2 HT2.out.2.2.1 (fun b hb => ⟨Nat.lt_of_lt_of_le (hF b hb) HSW2.size, fun hw => by have h1 := (HJ1.out.wr_lt hw).1; have h2 := hF b hb; have h3 := HB.out.2; omega⟩) (HR2.out.keep ETN.stays (Keep.below (w := w) HSW2 hF) (fun _ h => h)) HLL.out.2.2 HCM.out.2.2
      rw [HM2.out] at HCALL
      have HC2 := Lib.hid HCALL
      clear HCALL HSW2
      go_wp2_with fail
      clear d0 d1 hxl
      refine HC2.out.mono ?_
      clear HC2
      rintro _ u2 ⟨rfl, hnv2, hcv2, hns2, hcl2, W2, hI2, hold2, hk2, ht2, _⟩
      obtain ⟨k2, hkk2⟩ : ∃ z, hns1.length = z := ⟨_, rfl⟩
      rw [hkk2] at hk2 ht2
      rw [hkk2]
      have HJ2 := Lib.hid hI2
      have HK2 : Hid (k1 < W2.n ∧ W2.tr k1 = treeOf l1 ∧ k2 < W2.n ∧ W2.tr k2 = treeOf l2) := Lib.hid ⟨(hold2 k1 HK1.out.1).1, (hold2 k1 HK1.out.1).2.trans HK1.out.2, hk2, ht2⟩
      clear hI2 hold2 hk2 ht2 hkk2 HJ1 HK1
      have HC4 := Lib.hid (HJ2.out.join (by omega) HK2.out.1 HK2.out.2.2.1 (q := (treeOf l1, treeOf l2)) HK2.out.2.1 HK2.out.2.2.2)
      go_wp2_with fail
      refine HC4.out.mono ?_
      clear HC4
      rintro _ u4 ⟨⟨bb, hbb⟩, cl4, hI4, _⟩
      unfold IsB at hbb
      subst hbb
      have HI4 := Lib.hid hI4
      have hnpos : 0 < hns2.length := by rw [← hI4.rw.n]; exact Nat.lt_of_le_of_lt (Nat.zero_le _) HK2.out.1
      obtain ⟨g, cn, gc, cc, e1, e2, _, _⟩ := hI4.rm.shape hI4.rw.cn hnpos
      subst e1; subst e2
      have HSO : Hid (Calls Try.prog 37 #[.pointer (some ⟨B, 0, none⟩)] u4 (SomeSolved u4 B B (.slice (some ⟨g, 0, none⟩) hns2.length cn) (.slice (some ⟨gc, 0, none⟩) hns2.length cc) W2 (eqsB bs ++ [(treeOf l1, treeOf l2)]) hns2)) := Lib.hid (rsolved_any u4 B B g gc hns2.length cn cc hns2 cl4 W2 _ hI4.rm hI4.rw hI4.meets (by have := hI4.few; omega) rfl)
      clear hI4 HJ2 hnpos
      go_wp2_with fail
      refine HSO.out.mono ?_
      clear HSO
      rintro _ u5 ⟨cl5, o, err, out, v, _, _, _, hg5, hcs, hoi, rfl, hrow⟩
      have HSY := Lib.hid (HFIN.out o err out hcs hoi)
      have HB5 : Hid (Below w.heap.size w u5) := Lib.hid ((HFA.out _ HI4.out.below).grown hg5 (HFA.out _ HI4.out.below).size (fun k e => by have := (HI4.out.rm.cls.lt k e).1; have := HB.out.2; omega))
      have HROW := Lib.hid hrow
      have HSZ5 : Hid (w.heap.size ≤ u4.heap.size) := Lib.hid (HFA.out _ HI4.out.below).size
      clear hg5 hcs hoi hrow
      go_wp2_with fail
      refine bodyPost_ret (v := .tuple #[v, .int .i64 err]) (by simp [results, Try.results18, go_sem]) rfl ?_
      exact ⟨err, out, v, HSY.out, rfl, HROW.out.keep EBind.stays (Keep.refl _ _) (fun b h => ⟨Nat.le_trans HSZ5.out h.1, h.2⟩), HB5.out⟩
end Go.Proofs.Ytgcbnndbeoekgaa
end
