import Derived.Test.YtgcbnndbeoekgaaRClash
import Derived.Test.YtgcbnndbeoekgaaRRound
import Derived.Test.YtgcbnndbeoekgaaRLaid
import Derived.Test.YtgcbnndbeoekgaaAddS
import Derived.Test.YtgcbnndbeoekgaaRLay
import Derived.Test.YtgcbnndbeoekgaaMayR
import Derived.Test.YtgcbnndbeoekgaaAddI
import Derived.Test.YtgcbnndbeoekgaaUAdd
import Derived.Test.YtgcbnndbeoekgaaUSolve
set_option linter.unusedSimpArgs false
set_option linter.unusedVariables false
section
/- the document's web.solved: the bound of all that met -/
namespace Go.Proofs.Ytgcbnndbeoekgaa
open Go Go.RowKit Go.Maps

theorem rbind_info : (Try.prog.info? 69).map (fun i => (i.zero, i.size, i.bytes)) = some (some (.agg #[.int .i64 0, .slice none 0 0]), 2, 32) := by kernel_rfl
/-- the least hole above one, among the first nodes -/
def MinTo (ns : List TN) (last i h kk : Nat) : Prop :=
  (h = 0 ∧ ∀ j (hj : j < ns.length), j < i → ns[j].var ≤ (last : Int)) ∨ (last < h ∧ (∃ hk : kk < ns.length, ns[kk].var = (h : Int)) ∧ ∀ j (hj : j < ns.length), j < i → ns[j].var ≤ (last : Int) ∨ (h : Int) ≤ ns[j].var)
theorem MinTo.pass {ns : List TN} {last i h kk : Nat} (hm : MinTo ns last i h kk) {v : Nat} (hi : i < ns.length) (hv : ns[i].var = (v : Int)) (hno : v ≤ last ∨ (0 < h ∧ h ≤ v)) : MinTo ns last (i + 1) h kk := by
  rcases hm with ⟨h1, h2⟩ | ⟨h1, h2, h3⟩
  · refine .inl ⟨h1, fun j hj hji => ?_⟩
    by_cases e : j < i
    · exact h2 j hj e
    · have : j = i := by omega
      subst this; omega
  · refine .inr ⟨h1, h2, fun j hj hji => ?_⟩
    by_cases e : j < i
    · exact h3 j hj e
    · have : j = i := by omega
      subst this; omega
theorem MinTo.take {ns : List TN} {last i h kk : Nat} (hm : MinTo ns last i h kk) {v : Nat} (hi : i < ns.length) (hv : ns[i].var = (v : Int)) (hl : last < v) (hh : h = 0 ∨ v < h) : MinTo ns last (i + 1) v i := by
  refine .inr ⟨hl, ⟨hi, hv⟩, fun j hj hji => ?_⟩
  by_cases e : j < i
  · rcases hm with ⟨h1, h2⟩ | ⟨h1, h2, h3⟩
    · exact .inl (h2 j hj e)
    · have := h3 j hj e; omega
  · have : j = i := by omega
    subst this; omega
/-- what solved leaves -/
def SomeSolved (w : World) (B p : Nat) (nv cv : Value) (W : WebT) (E : List (Fo × Fo)) (ns : List TN) (e : Ending) (w' : World) : Prop :=
  ∃ cl o err out v, RM w' B p nv cv ns cl ∧ RW W E ns cl ∧ Meets W (rOf cl) E ∧ w.grownBy w' cv.ownBlock ∧ Comes E o ∧ OutIs o err out ∧ e = .returned (.tuple #[v, .int .i64 err]) ∧ IsRow 2 EBind w' (fun b => w.heap.size ≤ b ∧ b < w'.heap.size) v out

set_option maxRecDepth 100000 in
set_option maxHeartbeats 16000000 in
theorem rsolved_any (w : World) (B p g gc n cn cc : Nat) (ns : List TN) (cl0 : List Nat) (W : WebT) (E : List (Fo × Fo)) (hm : RM w B p (.slice (some ⟨g, 0, none⟩) n cn) (.slice (some ⟨gc, 0, none⟩) n cc) ns cl0) (hrw : RW W E ns cl0) (hme : Meets W (rOf cl0) E) (hl : n ≤ 1048576) (hn : ns.length = n) :
    Calls Try.prog 37 #[.pointer (some ⟨p, 0, none⟩)] w (SomeSolved w B p (.slice (some ⟨g, 0, none⟩) n cn) (.slice (some ⟨gc, 0, none⟩) n cc) W E ns) := by
  have HCLO := Lib.hid (rclose_any w B p g gc n cn cc ns cl0 W E hm hrw hme hl hn)
  have HN := Lib.hid hn
  clear hm hrw hme hn
  go_enter Try.func37, Try.ntmps37
  go_wp2_with fail
  refine HCLO.out.mono ?_
  clear HCLO
  rintro _ w2 ⟨rfl, cl, hcm⟩
  have HM2 := Lib.hid hcm.mem; have HG2 := Lib.hid hcm.grown; have HRW := Lib.hid hcm.rw; have HME := Lib.hid hcm.meets; have HALL := Lib.hid hcm.all
  have HWN : Hid (W.n = n) := Lib.hid (by rw [hcm.rw.n, HN.out])
  clear hcm
  have HEND : Hid (∀ (w' : World) (o : Outc) (err : Int) (out : List ABind) (v : Value), Below w2.heap.size w2 w' → Comes E o → OutIs o err out → ∀ {e : Ending}, e = .returned (.tuple #[v, .int .i64 err]) → IsRow 2 EBind w' (fun b => w2.heap.size ≤ b ∧ b < w'.heap.size) v out → SomeSolved w B p (.slice (some ⟨g, 0, none⟩) n cn) (.slice (some ⟨gc, 0, none⟩) n cc) W E ns e w') := Lib.hid (fun w' o err out v hb hc ho e he hr =>
    ⟨cl, o, err, out, v, HM2.out.below hb, HRW.out, HME.out, HG2.out.trans (below_grown hb _), hc, ho, he, hr.keep EBind.stays (Keep.refl _ _) (fun b h => ⟨Nat.le_trans HG2.out.size h.1, h.2⟩)⟩)
  have HCA := Lib.hid (rclash_any w2 B p g gc n cn cc ns cl W E HM2.out HRW.out hl HN.out)
  go_wp2_with fail
  refine HCA.out.mono ?_
  clear HCA
  rintro _ w3 ⟨hci, hb3⟩
  have HB3 := Lib.hid hb3
  clear hb3
  rcases hci with ⟨rfl, hc⟩ | ⟨rfl, hnc⟩
  · have HC := Lib.hid hc
    go_wp2_with fail
    refine bodyPost_ret (v := .tuple #[.slice none 0 0, .int .i64 150]) (by simp [results, Try.results37, go_sem]) rfl ?_
    exact HEND.out _ _ _ _ _ HB3.out HC.out ⟨rfl, rfl⟩ rfl IsRow.nil
  have HCL : Hid (Closed W (rOf cl)) := Lib.hid (closed_of HRW.out HALL.out (fun i k h1 h2 => hnc i k h1 h2))
  clear hnc HALL
  have HRO := Lib.hid (rround_any w3 B p g gc n cn cc ns cl W E (HM2.out.below HB3.out) HRW.out hl HN.out)
  go_wp2_with fail
  refine HRO.out.mono ?_
  clear HRO
  rintro _ w4 ⟨hri, hb4⟩
  have HB4 : Hid (Below w2.heap.size w2 w4) := Lib.hid (HB3.out.trans (hb4.mono HB3.out.size))
  clear hb4 HB3
  rcases hri with ⟨rfl, hcy⟩ | ⟨rfl, hly⟩
  · have HC : Hid (Comes E .occurs) := Lib.hid (occurs_of HRW.out.ok HCL.out HRW.out.heads HRW.out.sound HME.out hcy)
    go_wp2_with fail
    refine bodyPost_ret (v := .tuple #[.slice none 0 0, .int .i64 151]) (by simp [results, Try.results37, go_sem]) rfl ?_
    exact HEND.out _ _ _ _ _ HB4.out HC.out ⟨rfl, rfl⟩ rfl IsRow.nil
  have HLAY := Lib.hid hly
  clear hly
  obtain ⟨C, hC⟩ : ∃ C, w4.heap.size = C := ⟨_, rfl⟩
  have HC : Hid (C ≤ w4.heap.size) := Lib.hid (Nat.le_of_eq hC.symm)
  have HBW : Hid (∀ w', Below C w4 w' → Below w2.heap.size w2 w') := Lib.hid (fun w' hb => HB4.out.trans (hb.mono (by rw [← hC]; exact HB4.out.size)))
  have HCW : Hid (w2.heap.size ≤ C) := Lib.hid (by rw [← hC]; exact HB4.out.size)
  clear hC
  have HBIG : Hid (∀ k x, k < W.n → W.nd k = .hole x → x ≤ 2147483647) := Lib.hid (fun k x hk e => by
    have hk' : k < ns.length := by rw [← HRW.out.n]; exact hk
    have := (HRW.out.of_hole hk' e).1
    have := (HRW.out.node _ (List.getElem_mem hk')).var
    omega)
  have HRV : Hid (∀ t ∈ ns, 0 ≤ t.var ∧ t.var ≤ 2147483647) := Lib.hid (fun t ht => (HRW.out.node t ht).var)
  have HCN : Hid (cl.length = n) := Lib.hid (by rw [HRW.out.cn, HN.out])
  have HB0 : Hid (BTL W (rOf cl) (tmR ns cl) (loR ns cl) 0 []) := Lib.hid (BTL.start HRW.out.ok)
  go_upto_region 10 with fail
  go_loopg [6, 7] 2147483648 (fun gh s6 s7 wx => ∃ (last : Nat) (bs : List (Nat × Fo)) (Ab : Option Addr) (nb cb : Nat), s6 = .slice Ab nb cb ∧ s7 = .int .i64 last ∧ gh = 2147483648 - last ∧ last ≤ 2147483647 ∧ BTL W (rOf cl) (tmR ns cl) (loR ns cl) last bs ∧ OwnRow 2 69 EBind (fun b => C ≤ b) wx C (.slice Ab nb cb) (bs.map bindOf) ∧ (bs.map bindOf).length = nb ∧ nb ≤ last ∧ Below C w4 wx ∧ ∀ q ∈ bs, q.2.size ≤ 256)
  case atStart => exact ⟨0, [], none, 0, 0, rfl, rfl, rfl, by omega, HB0.out, OwnRow.nil _ _, rfl, Nat.le_refl _, Below.refl _ _, fun q hq => by cases hq⟩
  case round =>
    clear HB0
    obtain ⟨last, bs, Ab, nb, cb, rfl, rfl, rfl, hla, hbt, hout, hbl, hnb, hb, hsm⟩ := hrel
    have HBT := Lib.hid hbt; have HOUT := Lib.hid hout; have HBL := Lib.hid hbl; have HBX := Lib.hid hb; have HSMA := Lib.hid hsm
    clear hbt hout hbl hb hsm
    go_upto_region 12 with fail
    obtain ⟨wo, hwo⟩ : ∃ x, x = wr := ⟨_, rfl⟩
    subst hwo
    have HMT0 : Hid (MinTo ns last 0 0 0) := Lib.hid (.inl ⟨rfl, fun j _ h => absurd h (Nat.not_lt_zero _)⟩)
    have HMC := Lib.hid (HM2.out.below (HBW.out _ HBX.out))
    go_loopg [8, 9, 10] n (fun gh s8 s9 s10 wx => ∃ (i h kk : Nat), s8 = .int .i64 h ∧ s9 = .int .i64 kk ∧ s10 = .int .i64 i ∧ gh = n - i ∧ i ≤ n ∧ MinTo ns last i h kk ∧ wo = wx)
    case atStart => exact ⟨0, 0, 0, rfl, rfl, rfl, rfl, Nat.zero_le _, HMT0.out, rfl⟩
    case round =>
      clear HMT0
      obtain ⟨i, h, kk, rfl, rfl, rfl, rfl, hi, hmt, rfl⟩ := hrel
      have HMT := Lib.hid hmt
      have p0 := HMC.out.blk.cell 0; have p1 := HMC.out.blk.cell 1
      simp at p0 p1
      have i0 : (0 : Int) ≤ i := by omega
      clear hmt
      by_cases hin : i < n
      · have hin' : (i : Int) < n := by omega
        have HIN : Hid (i < ns.length) := Lib.hid (by rw [HN.out]; exact hin)
        obtain ⟨_, S, k, d0, _, _, _, _, _⟩ := HMC.out.nodeG HIN.out
        have hvv := HRV.out _ (List.getElem_mem HIN.out)
        obtain ⟨v, hv⟩ : ∃ v : Nat, (ns[i]'HIN.out).var = (v : Int) := ⟨(ns[i]'HIN.out).var.toNat, by omega⟩
        have HV := Lib.hid hv
        rw [hv] at d0
        clear hv hvv
        by_cases hvl : last < v
        · have hvl' : (last : Int) < v := by omega
          by_cases hh0 : h = 0
          · subst hh0
            have HM3 := Lib.hid (HMT.out.take HIN.out HV.out hvl (.inl rfl))
            go_wp2
            go_roundg (n - (i + 1))
            case measure => omega
            case rel => exact ⟨i + 1, v, i, rfl, rfl, by go_num, rfl, by omega, HM3.out, rfl⟩
          · have hh0' : ¬ (h : Int) = 0 := by omega
            have hh0b : ((h : Int) == 0) = false := by simp; omega
            by_cases hvh : v < h
            · have hvh' : (v : Int) < h := by omega
              have HM3 := Lib.hid (HMT.out.take HIN.out HV.out hvl (.inr hvh))
              go_wp2
              go_roundg (n - (i + 1))
              case measure => omega
              case rel => exact ⟨i + 1, v, i, rfl, rfl, by go_num, rfl, by omega, HM3.out, rfl⟩
            · have hvh' : ¬ (v : Int) < h := by omega
              have HM3 := Lib.hid (HMT.out.pass HIN.out HV.out (.inr ⟨by omega, by omega⟩))
              go_wp2
              go_roundg (n - (i + 1))
              case measure => omega
              case rel => exact ⟨i + 1, h, kk, rfl, rfl, by go_num, rfl, by omega, HM3.out, rfl⟩
        · have hvl' : ¬ (last : Int) < v := by omega
          have HM3 := Lib.hid (HMT.out.pass HIN.out HV.out (.inl (by omega)))
          go_wp2
          go_roundg (n - (i + 1))
          case measure => omega
          case rel => exact ⟨i + 1, h, kk, rfl, rfl, by go_num, rfl, by omega, HM3.out, rfl⟩
      · have hin' : ¬ (i : Int) < n := by omega
        have HIE : Hid (i = ns.length) := Lib.hid (by rw [HN.out]; omega)
        by_cases hh0 : h = 0
        · subst hh0
          have HCO : Hid (Comes E (.ok bs)) := Lib.hid (by
            rcases HMT.out with ⟨_, h2⟩ | ⟨h1, _⟩
            · refine ok_of HRW.out.ok HCL.out HRW.out.heads HRW.out.sound HME.out HLAY.out (HBT.out.listed fun k x hk e => ?_) HSMA.out
              have hk' : k < ns.length := by rw [← HRW.out.n]; exact hk
              have h3 := h2 k hk' (by rw [HIE.out]; exact hk')
              have := (HRW.out.of_hole hk' e).1
              omega
            · omega)
          go_wp2_with fail
          refine bodyPost_ret (v := .tuple #[.slice Ab nb cb, .int .i64 0]) (by simp [results, Try.results37, go_sem]) rfl ?_
          exact HEND.out _ _ _ _ _ (HBW.out _ HBX.out) HCO.out ⟨rfl, rfl⟩ rfl (HOUT.out.isRow EBind.stays (fun b h1 h2 => ⟨by have := HCW.out; omega, h2⟩) (fun b h1 h2 => ⟨by have := HCW.out; omega, h2⟩))
        · have hh0' : ¬ (h : Int) = 0 := by omega
          have hh0b : ((h : Int) == 0) = false := by simp; omega
          obtain ⟨hlh, ⟨hkn, hkv⟩, hmin⟩ : last < h ∧ (∃ hk : kk < ns.length, ns[kk].var = (h : Int)) ∧ ∀ j (hj : j < ns.length), j < i → ns[j].var ≤ (last : Int) ∨ (h : Int) ≤ ns[j].var := by
            rcases HMT.out with ⟨h1, _⟩ | h2
            · exact absurd h1 hh0
            · exact h2
          have HKN := Lib.hid hkn
          have HX : Hid (last < h ∧ (∀ k y, k < W.n → W.nd k = .hole y → y ≤ last ∨ h ≤ y) ∧ kk < W.n ∧ W.nd kk = .hole h) := Lib.hid ⟨hlh, fun k y hk e => by
            have hk' : k < ns.length := by rw [← HRW.out.n]; exact hk
            have h3 := hmin k hk' (by rw [HIE.out]; exact hk')
            have := (HRW.out.of_hole hk' e).1
            omega, by rw [HRW.out.n]; exact hkn, by rw [HRW.out.hole_ hkn (by rw [hkv]; omega), hkv]; simp⟩
          have HHB : Hid (h ≤ 2147483647) := Lib.hid (HBIG.out kk h HX.out.2.2.1 HX.out.2.2.2)
          have HKC : Hid (kk < cl.length) := Lib.hid (by rw [HCN.out, ← HN.out]; exact hkn)
          obtain ⟨e0, _, _⟩ := HMC.out.clsG HKC.out
          obtain ⟨c, hc⟩ : ∃ c, cl[kk]'HKC.out = c := ⟨_, rfl⟩
          have HRC : Hid (rOf cl kk = c) := Lib.hid (by rw [rOf_at HKC.out, hc])
          rw [hc] at e0
          obtain ⟨T, hT⟩ := HLAY.out kk HX.out.2.2.1
          have HLTA := Lib.hid hT
          have HLT : Hid (Lay W (rOf cl) (tmR ns cl) (loR ns cl) c T) := Lib.hid (by rw [← HRC.out]; exact hT)
          have hkk : (kk : Int) < n := by have := HN.out; omega
          have kk0 : (0 : Int) ≤ kk := by omega
          have hhb := HHB.out
          clear hlh hkn hkv hmin hc hT HMT
          have HTC := Lib.hid (rterm_any wo B p g gc n cn cc ns cl HMC.out hl HN.out HCN.out c)
          go_wp2_with fail
          refine HTC.out.mono ?_
          clear HTC
          rintro _ w5 ⟨ht, hb5⟩
          have HB5 : Hid (Below C w4 w5) := Lib.hid (HBX.out.trans (hb5.mono (Nat.le_trans HC.out HBX.out.size)))
          have HO5 : Hid (OwnRow 2 69 EBind (fun b => C ≤ b) w5 C (.slice Ab nb cb) (bs.map bindOf)) := Lib.hid (HOUT.out.below EBind.stays hb5)
          clear hb5 HMC HBX HOUT
          rcases ht with ⟨t, htl, htm, S, k, rfl, hk1, hk2, hargs⟩ | ⟨htm, rfl⟩
          · have HNS : Hid (¬ (tmR ns cl (rOf cl kk) = none ∧ loR ns cl (rOf cl kk) = h)) := Lib.hid (fun e => by rw [HRC.out, htm] at e; cases e.1)
            obtain ⟨mt, hmt⟩ : ∃ z, ns[t].args.length = z := ⟨_, rfl⟩
            obtain ⟨nt, hnt⟩ : ∃ z, ns[t].name = z := ⟨_, rfl⟩
            rw [hmt, hnt]
            clear htm hargs hk1 hk2 hmt hnt
            have HLE := Lib.hid (rleast_any (w5.alloc (.cells #[.int .i64 0, .string nt, .slice S mt k] 66)) B p g gc n cn cc ns cl ((HM2.out.below (HBW.out _ HB5.out)).alloc _) hl HN.out HCN.out HRV.out c)
            go_wp2_with fail
            refine HLE.out.mono ?_
            clear HLE
            rintro _ w6 ⟨rfl, hw6⟩
            obtain ⟨lx, hlx⟩ : ∃ z, loR ns cl c = z := ⟨_, rfl⟩
            rw [hlx]
            clear hlx
            have HB6 : Hid (Below C w4 w6) := Lib.hid (by rw [← hw6]; exact HB5.out.alloc (Nat.le_trans HC.out HB5.out.size) _)
            have HO6 : Hid (OwnRow 2 69 EBind (fun b => C ≤ b) w6 C (.slice Ab nb cb) (bs.map bindOf)) := Lib.hid (by rw [← hw6]; exact HO5.out.alloc EBind.stays _)
            clear hw6 HB5 HO5
            have HRL : Hid (Calls Try.prog 55 #[.pointer (some ⟨p, 0, none⟩), .slice none 0 0, .int .i64 c] w6 (LaidPost w6 (World.heap w6).size (.slice none 0 0) [] T)) := Lib.hid (rlaid_any w6 B p g gc n cn cc ns cl W E (HM2.out.below (HBW.out _ HB6.out)) HRW.out hl HN.out (World.heap w6).size (Nat.le_refl _) T.size T w6 c _ [] (Nat.le_refl _) HLT.out (Below.refl _ _) (Nat.le_refl _) (OwnNodes.nil _ _) (by simp))
            go_wp2_with fail
            refine HRL.out.mono ?_
            clear HRL
            rintro _ w8 ⟨v8, more, rfl, ho8, hk8, -, he8, hl8, hm8⟩
            have hb8 : Below (World.heap w6).size w6 w8 := hk8.below (Nat.le_refl _) (fun b h => by
              rcases h with h | ⟨h, _⟩
              · simp [Value.ownBlock] at h
              · exact h)
            have HB8 : Hid (Below C w4 w8) := Lib.hid (HB6.out.trans (hb8.mono (Nat.le_trans HC.out HB6.out.size)))
            have HO8 : Hid (OwnRow 2 69 EBind (fun b => C ≤ b) w8 C (.slice Ab nb cb) (bs.map bindOf)) := Lib.hid (HO6.out.below EBind.stays hb8)
            have HN8 : Hid (OwnNodes 66 3 w8 (World.heap w6).size v8 more) := Lib.hid (by simpa using ho8)
            have HWS : Hid (C ≤ (World.heap w6).size) := Lib.hid (Nat.le_trans HC.out HB6.out.size)
            have HE8 : Hid ((T.size ≤ 256 → more = T.flat 0) ∧ (256 < T.size → 256 < more.length) ∧ more.length ≤ 257) := Lib.hid ⟨fun h => he8 (by simpa using h), fun h => by simpa using hl8 (by simpa using h), by simpa using hm8⟩
            obtain ⟨A8, c8, e8⟩ := HN8.out.shape
            subst e8
            clear ho8 hk8 he8 hl8 hm8 hb8
            obtain ⟨q8, hq8⟩ : ∃ q, more.length = q := ⟨_, rfl⟩
            have HQ8 := Lib.hid hq8
            rw [hq8] at HN8
            (try rw [hq8])
            clear hq8
            by_cases hbig : 256 < T.size
            · have hqb : (256 : Int) < q8 := by have := HE8.out.2.1 hbig; rw [HQ8.out] at this; omega
              have HCO : Hid (Comes E .long) := Lib.hid (long_of HRW.out.ok HCL.out HRW.out.heads HRW.out.sound HME.out HLAY.out HBT.out HBIG.out HX.out.1 HX.out.2.1 HX.out.2.2.1 HX.out.2.2.2 HLTA.out hbig)
              clear hbig
              go_wp2_with fail
              refine bodyPost_ret (v := .tuple #[.slice none 0 0, .int .i64 3]) (by simp [results, Try.results37, go_sem]) rfl ?_
              exact HEND.out _ _ _ _ _ (HBW.out _ HB8.out) HCO.out ⟨rfl, rfl⟩ rfl IsRow.nil
            · have hqb : ¬ (256 : Int) < q8 := by have := HE8.out.1 (by omega); rw [← HQ8.out, this, Fo.flat_len]; omega
              have HMR : Hid (more = T.flat 0) := Lib.hid (HE8.out.1 (by omega))
              have HBP : Hid (BTL W (rOf cl) (tmR ns cl) (loR ns cl) h (bs ++ [(h, T)])) := Lib.hid (HBT.out.put HCL.out HX.out.1 HX.out.2.1 HX.out.2.2.1 HX.out.2.2.2 HLTA.out HNS.out)
              have H256 : Hid (T.size ≤ 256) := Lib.hid (by omega)
              have HEL : Hid (EBind (w8.alloc (.cells #[.int .i64 h, .slice A8 q8 c8] 69)) (Oth (fun b => C ≤ b) (w8.alloc (.cells #[.int .i64 h, .slice A8 q8 c8] 69)) (.slice Ab nb cb)) ⟨(h : Int), T.flat 0⟩ [.int .i64 h, .slice A8 q8 c8]) := Lib.hid ⟨_, rfl, by
                rw [← HMR.out]
                exact (HN8.out.alloc _).isRow (fun b h1 h2 => ⟨by have := HWS.out; omega, h2, fun e => by
                  obtain ⟨xs, hxs⟩ := HO6.out.owns
                  have := (hxs.lt b e).2
                  omega⟩)⟩
              have HLB : Hid ((bs.map bindOf).length = nb) := Lib.hid HBL.out
              have HLB2 : Hid (bs.length = nb) := Lib.hid (by simpa using HBL.out)
              have HCB : Hid (C ≤ w8.heap.size) := Lib.hid (Nat.le_trans HC.out HB8.out.size)
              clear hbig
              go_wp2_with (at_builtin; refine wpList_push _ EBind.stays (F := fun b => C ≤ b) rfl (.tmp 89) (.tmp 94) 33 rfl C 69 Try.underlying33 rbind_info rfl (by omega) (.slice Ab nb cb) (bs.map bindOf) rfl (HO8.out.alloc EBind.stays _) ⟨(h : Int), T.flat 0⟩ ⟨w8.heap.size, 0, none⟩ 1 [.int .i64 h, .slice A8 q8 c8] rfl rfl (news_cells (Blk.new w8 69 #[.int .i64 h, .slice A8 q8 c8])) (by intro u hu; simp only [List.mem_cons, List.not_mem_nil, or_false] at hu; rcases hu with rfl | rfl <;> rfl) HEL.out ?d3 ?d4 ?d5 ?d6)
              try (case d3 => rw [HLB.out]; unfold maxLen; omega)
              try (case d4 => rw [HLB.out]; omega)
              try (case d5 => have := HCB.out; simp; omega)
              case d6 =>
              intro A9 c9 w9 hown9 hg9 hat9
              have HB9 : Hid (Below C w4 w9) := Lib.hid ((HB8.out.alloc HCB.out (.cells #[.int .i64 h, .slice A8 q8 c8] 69)).grown hg9 (by have := HCB.out; simp; omega) (fun b e => by
                obtain ⟨xs, hxs⟩ := HO8.out.owns
                exact (hxs.lt b e).1))
              rw [HLB2.out] at hown9
              (try rw [HLB2.out])
              have HO9 : Hid (OwnRow 2 69 EBind (fun b => C ≤ b) w9 C (.slice A9 (nb + 1) c9) ((bs ++ [(h, T)]).map bindOf)) := Lib.hid (by rw [List.map_append]; exact hown9)
              clear hown9 hg9 hat9 HEL
              go_wp2_with fail
              go_roundg (2147483648 - h)
              case measure => have := HX.out.1; omega
              case rel => exact ⟨h, bs ++ [(h, T)], A9, nb + 1, c9, rfl, rfl, rfl, HHB.out, HBP.out, HO9.out, by rw [List.map_append, List.length_append, HLB.out]; rfl, by have := HX.out.1; omega, HB9.out, (fun q hq => by
                rcases List.mem_append.1 hq with h1 | h1
                · exact HSMA.out q h1
                · simp only [List.mem_cons, List.not_mem_nil, or_false] at h1; subst h1; exact H256.out)⟩
          · have HTM := Lib.hid htm
            clear htm
            have HLE := Lib.hid (rleast_any (w5.alloc (.cells #[.int .i64 0, .string ⟨#[]⟩, .slice none 0 0] 66)) B p g gc n cn cc ns cl ((HM2.out.below (HBW.out _ HB5.out)).alloc _) hl HN.out HCN.out HRV.out c)
            go_wp2_with fail
            refine HLE.out.mono ?_
            clear HLE
            rintro _ w6 ⟨rfl, hw6⟩
            obtain ⟨lx, hlx⟩ : ∃ z, loR ns cl c = z := ⟨_, rfl⟩
            have HLX := Lib.hid hlx
            rw [hlx]
            clear hlx
            have HB6 : Hid (Below C w4 w6) := Lib.hid (by rw [← hw6]; exact HB5.out.alloc (Nat.le_trans HC.out HB5.out.size) _)
            have HO6 : Hid (OwnRow 2 69 EBind (fun b => C ≤ b) w6 C (.slice Ab nb cb) (bs.map bindOf)) := Lib.hid (by rw [← hw6]; exact HO5.out.alloc EBind.stays _)
            clear hw6 HB5 HO5
            by_cases hlh : lx = h
            · subst hlh
              have HBS : Hid (BTL W (rOf cl) (tmR ns cl) (loR ns cl) lx bs) := Lib.hid (HBT.out.skip HCL.out HX.out.1 HX.out.2.1 HX.out.2.2.1 HX.out.2.2.2 (by rw [HRC.out]; exact HTM.out) (by rw [HRC.out]; exact HLX.out))
              go_wp2_with fail
              go_roundg (2147483648 - lx)
              case measure => have := HX.out.1; omega
              case rel => exact ⟨lx, bs, Ab, nb, cb, rfl, rfl, rfl, HHB.out, HBS.out, HO6.out, HBL.out, by have := HX.out.1; omega, HB6.out, HSMA.out⟩
            · have hlh' : ¬ (lx : Int) = h := by omega
              have hlhb : ((lx : Int) == h) = false := by simp; omega
              have HNS : Hid (¬ (tmR ns cl (rOf cl kk) = none ∧ loR ns cl (rOf cl kk) = h)) := Lib.hid (fun e => by rw [HRC.out, HLX.out] at e; exact hlh e.2)
              have HRL : Hid (Calls Try.prog 55 #[.pointer (some ⟨p, 0, none⟩), .slice none 0 0, .int .i64 c] w6 (LaidPost w6 (World.heap w6).size (.slice none 0 0) [] T)) := Lib.hid (rlaid_any w6 B p g gc n cn cc ns cl W E (HM2.out.below (HBW.out _ HB6.out)) HRW.out hl HN.out (World.heap w6).size (Nat.le_refl _) T.size T w6 c _ [] (Nat.le_refl _) HLT.out (Below.refl _ _) (Nat.le_refl _) (OwnNodes.nil _ _) (by simp))
              go_wp2_with fail
              refine HRL.out.mono ?_
              clear HRL
              rintro _ w8 ⟨v8, more, rfl, ho8, hk8, -, he8, hl8, hm8⟩
              have hb8 : Below (World.heap w6).size w6 w8 := hk8.below (Nat.le_refl _) (fun b h => by
                rcases h with h | ⟨h, _⟩
                · simp [Value.ownBlock] at h
                · exact h)
              have HB8 : Hid (Below C w4 w8) := Lib.hid (HB6.out.trans (hb8.mono (Nat.le_trans HC.out HB6.out.size)))
              have HO8 : Hid (OwnRow 2 69 EBind (fun b => C ≤ b) w8 C (.slice Ab nb cb) (bs.map bindOf)) := Lib.hid (HO6.out.below EBind.stays hb8)
              have HN8 : Hid (OwnNodes 66 3 w8 (World.heap w6).size v8 more) := Lib.hid (by simpa using ho8)
              have HWS : Hid (C ≤ (World.heap w6).size) := Lib.hid (Nat.le_trans HC.out HB6.out.size)
              have HE8 : Hid ((T.size ≤ 256 → more = T.flat 0) ∧ (256 < T.size → 256 < more.length) ∧ more.length ≤ 257) := Lib.hid ⟨fun h => he8 (by simpa using h), fun h => by simpa using hl8 (by simpa using h), by simpa using hm8⟩
              obtain ⟨A8, c8, e8⟩ := HN8.out.shape
              subst e8
              clear ho8 hk8 he8 hl8 hm8 hb8
              obtain ⟨q8, hq8⟩ : ∃ q, more.length = q := ⟨_, rfl⟩
              have HQ8 := Lib.hid hq8
              rw [hq8] at HN8
              (try rw [hq8])
              clear hq8
              by_cases hbig : 256 < T.size
              · have hqb : (256 : Int) < q8 := by have := HE8.out.2.1 hbig; rw [HQ8.out] at this; omega
                have HCO : Hid (Comes E .long) := Lib.hid (long_of HRW.out.ok HCL.out HRW.out.heads HRW.out.sound HME.out HLAY.out HBT.out HBIG.out HX.out.1 HX.out.2.1 HX.out.2.2.1 HX.out.2.2.2 HLTA.out hbig)
                clear hbig
                go_wp2_with fail
                refine bodyPost_ret (v := .tuple #[.slice none 0 0, .int .i64 3]) (by simp [results, Try.results37, go_sem]) rfl ?_
                exact HEND.out _ _ _ _ _ (HBW.out _ HB8.out) HCO.out ⟨rfl, rfl⟩ rfl IsRow.nil
              · have hqb : ¬ (256 : Int) < q8 := by have := HE8.out.1 (by omega); rw [← HQ8.out, this, Fo.flat_len]; omega
                have HMR : Hid (more = T.flat 0) := Lib.hid (HE8.out.1 (by omega))
                have HBP : Hid (BTL W (rOf cl) (tmR ns cl) (loR ns cl) h (bs ++ [(h, T)])) := Lib.hid (HBT.out.put HCL.out HX.out.1 HX.out.2.1 HX.out.2.2.1 HX.out.2.2.2 HLTA.out HNS.out)
                have H256 : Hid (T.size ≤ 256) := Lib.hid (by omega)
                have HEL : Hid (EBind (w8.alloc (.cells #[.int .i64 h, .slice A8 q8 c8] 69)) (Oth (fun b => C ≤ b) (w8.alloc (.cells #[.int .i64 h, .slice A8 q8 c8] 69)) (.slice Ab nb cb)) ⟨(h : Int), T.flat 0⟩ [.int .i64 h, .slice A8 q8 c8]) := Lib.hid ⟨_, rfl, by
                  rw [← HMR.out]
                  exact (HN8.out.alloc _).isRow (fun b h1 h2 => ⟨by have := HWS.out; omega, h2, fun e => by
                    obtain ⟨xs, hxs⟩ := HO6.out.owns
                    have := (hxs.lt b e).2
                    omega⟩)⟩
                have HLB : Hid ((bs.map bindOf).length = nb) := Lib.hid HBL.out
                have HLB2 : Hid (bs.length = nb) := Lib.hid (by simpa using HBL.out)
                have HCB : Hid (C ≤ w8.heap.size) := Lib.hid (Nat.le_trans HC.out HB8.out.size)
                clear hbig
                go_wp2_with (at_builtin; refine wpList_push _ EBind.stays (F := fun b => C ≤ b) rfl (.tmp 89) (.tmp 94) 33 rfl C 69 Try.underlying33 rbind_info rfl (by omega) (.slice Ab nb cb) (bs.map bindOf) rfl (HO8.out.alloc EBind.stays _) ⟨(h : Int), T.flat 0⟩ ⟨w8.heap.size, 0, none⟩ 1 [.int .i64 h, .slice A8 q8 c8] rfl rfl (news_cells (Blk.new w8 69 #[.int .i64 h, .slice A8 q8 c8])) (by intro u hu; simp only [List.mem_cons, List.not_mem_nil, or_false] at hu; rcases hu with rfl | rfl <;> rfl) HEL.out ?d3 ?d4 ?d5 ?d6)
                try (case d3 => rw [HLB.out]; unfold maxLen; omega)
                try (case d4 => rw [HLB.out]; omega)
                try (case d5 => have := HCB.out; simp; omega)
                case d6 =>
                intro A9 c9 w9 hown9 hg9 hat9
                have HB9 : Hid (Below C w4 w9) := Lib.hid ((HB8.out.alloc HCB.out (.cells #[.int .i64 h, .slice A8 q8 c8] 69)).grown hg9 (by have := HCB.out; simp; omega) (fun b e => by
                  obtain ⟨xs, hxs⟩ := HO8.out.owns
                  exact (hxs.lt b e).1))
                rw [HLB2.out] at hown9
                (try rw [HLB2.out])
                have HO9 : Hid (OwnRow 2 69 EBind (fun b => C ≤ b) w9 C (.slice A9 (nb + 1) c9) ((bs ++ [(h, T)]).map bindOf)) := Lib.hid (by rw [List.map_append]; exact hown9)
                clear hown9 hg9 hat9 HEL
                go_wp2_with fail
                go_roundg (2147483648 - h)
                case measure => have := HX.out.1; omega
                case rel => exact ⟨h, bs ++ [(h, T)], A9, nb + 1, c9, rfl, rfl, rfl, HHB.out, HBP.out, HO9.out, by rw [List.map_append, List.length_append, HLB.out]; rfl, by have := HX.out.1; omega, HB9.out, (fun q hq => by
                  rcases List.mem_append.1 hq with h1 | h1
                  · exact HSMA.out q h1
                  · simp only [List.mem_cons, List.not_mem_nil, or_false] at h1; subst h1; exact H256.out)⟩
end Go.Proofs.Ytgcbnndbeoekgaa
end
section
/- between two pairs of the document's Add: its web in memory and what it says -/
namespace Go.Proofs.Ytgcbnndbeoekgaa
open Go Go.RowKit Go.Maps

theorem flat_argsIn1 {T : Fo} (h1 : T.one) (hw : T.wf) : ∀ t ∈ T.flat 0, ∀ a ∈ t.args, 0 ≤ a ∧ a < ((T.flat 0).length : Int) := fun t ht a ha => by
  obtain ⟨tr, hT, _⟩ := tree_trees h1 hw
  obtain ⟨j, hj, rfl⟩ := List.getElem_of_mem ht
  have hl := Fo.flat_len T 0
  rcases hT.at_ j hj with ⟨n, _, e, _⟩ | ⟨nm, ks, e, _, h3⟩
  · rw [e] at ha; cases ha
  · rw [e] at ha
    obtain ⟨b, hb, rfl⟩ := List.mem_map.1 ha
    have := h3 b hb
    show (0 : Int) ≤ (b : Int) ∧ (b : Int) < _
    omega
structure RAI (B p N : Nat) (wB wx : World) (nv cv : Value) (ns : List TN) (cl : List Nat) (W : WebT) (E : List (Fo × Fo)) : Prop where
  below : Below B wB wx
  hB : B ≤ wB.heap.size
  rm : RM wx B p nv cv ns cl
  rw : RW W E ns cl
  meets : Meets W (rOf cl) E
  few : ns.length ≤ N
section
variable {B p N : Nat} {wB wx w' : World} {nv cv : Value} {ns : List TN} {cl : List Nat} {W : WebT} {E : List (Fo × Fo)} {T : Fo}
theorem RAI.size (h : RAI B p N wB wx nv cv ns cl W E) : B ≤ wx.heap.size := Nat.le_trans h.hB h.below.size
theorem RAI.alloc (h : RAI B p N wB wx nv cv ns cl W E) (o : Obj) : RAI B p N wB (wx.alloc o) nv cv ns cl W E := { h with below := h.below.alloc h.size o, rm := h.rm.alloc o }
theorem RAI.drew (h : RAI B p N wB wx nv cv ns cl W E) : RAI B p N wB wx.drew nv cv ns cl W E := { h with below := h.below.drew, rm := h.rm.drew }
theorem RAI.wr_lt (h : RAI B p N wB wx nv cv ns cl W E) {b : Nat} (hb : Wr p nv cv b) : B ≤ b ∧ b < wx.heap.size := by
  rcases hb with rfl | hb | hb
  · exact ⟨h.rm.low, h.rm.blk.lt⟩
  · exact h.rm.nodes.lt b hb
  · exact h.rm.cls.lt b hb
theorem RAI.start (w : World) : RAI w.heap.size w.heap.size 0 w (w.alloc (.cells #[.slice none 0 0, .slice none 0 0] 90)) (.slice none 0 0) (.slice none 0 0) [] [] webNil0 [] :=
  ⟨(Below.refl _ _).alloc (Nat.le_refl _) _, Nat.le_refl _, ⟨Blk.new _ _ _, OwnX.nil _ _, World.ownsRow_nil _ _ _ _, Nat.le_refl _⟩, RW.nil _, (fun p hp => by cases hp), Nat.le_refl _⟩
/-- a term is laid: what comes -/
def RLaidAs (B p N : Nat) (wB wx : World) (nv0 cv0 : Value) (ns : List TN) (W : WebT) (E : List (Fo × Fo)) (T : Fo) (e : Ending) (w' : World) : Prop :=
  e = .returned (.int .i64 (ns.length : Nat)) ∧ ∃ nv cv ns' cl W', RAI B p (N + 256) wB w' nv cv ns' cl W' E ∧ (∀ i, i < W.n → i < W'.n ∧ W'.tr i = W.tr i) ∧ ns.length < W'.n ∧ W'.tr ns.length = T ∧ Kb (Wr p nv0 cv0) wx w'
theorem RAI.lay (h : RAI B p N wB wx nv cv ns cl W E) (hN : N ≤ 1048576) (h1 : T.one) (hw : T.wf) (h3 : T.size ≤ 256) {ts : List TN} (hts : ts = T.flat 0) {A : Option Addr} {c : Nat} {F : Nat → Prop} (hF : ∀ b, F b → b < wx.heap.size ∧ ¬ Wr p nv cv b) (hr : RowOf 3 ETN wx F A ts) (hlc : ts.length ≤ c) (hc : c ≤ maxLen) :
    Calls Try.prog 35 #[.pointer (some ⟨p, 0, none⟩), .agg #[.slice A ts.length c]] wx (RLaidAs B p N wB wx nv cv ns W E T) := by
  subst hts
  have hfl := Fo.flat_len T 0
  have hp := Fo.one_size h1
  have hai := flat_argsIn1 h1 hw
  refine (rlay_any wx B p nv cv ns cl A c (T.flat 0) F hF hr hlc hc h.size h.rm h.rw.cn ⟨by omega, by omega⟩ (by have := h.few; omega) (fun t ht => ⟨by have := flat_args T 0 t ht; omega, hai t ht⟩) (fun t ht => (flat_var T 0 hw t ht).1)).mono ?_
  rintro e w' ⟨rfl, nv', cv', hrm, hkb, _, _⟩
  obtain ⟨W', hW', htr, htT, hn, hM⟩ := h.rw.lay h1 hw h3
  rw [hfl] at hrm
  refine ⟨rfl, nv', cv', _, _, W', ⟨h.below.trans (hkb.below h.size fun b hb => (h.wr_lt hb).1), h.hB, hrm, hW', hM E h.meets, by rw [List.length_append, List.length_map, hfl]; have := h.few; omega⟩, fun i hi => ⟨by rw [hn]; have := h.rw.n; omega, htr i hi⟩, by rw [hn]; omega, htT, hkb⟩
theorem RAI.join (h : RAI B p N wB wx nv cv ns cl W E) (hN : N ≤ 1048576) {a b : Nat} (ha : a < W.n) (hb : b < W.n) {q : Fo × Fo} (e1 : W.tr a = q.1) (e2 : W.tr b = q.2) :
    Calls Try.prog 36 #[.pointer (some ⟨p, 0, none⟩), .int .i64 a, .int .i64 b] wx (fun e w' => (∃ bb, IsB bb e) ∧ ∃ cl', RAI B p N wB w' nv cv ns cl' W (E ++ [q]) ∧ wx.grownBy w' cv.ownBlock) := by
  have hn := h.rw.n
  have hcn := h.rw.cn
  refine (rjoin_any wx B p nv cv ns cl h.rm (by have := h.few; omega) a b (by omega) (by omega)).mono ?_
  rintro e w' ⟨he, hj⟩
  refine ⟨⟨_, he⟩, _, ⟨?_, h.hB, hj.mem, (h.rw.more [q]).join (by omega) (by omega) (fun θ hθ => ?_), fun p' hp' => ?_, h.few⟩, hj.grown⟩
  · refine h.below.grown hj.grown h.size (fun k e => ?_)
    exact (h.rm.cls.lt k e).1
  · unfold WebT.val
    rw [e1, e2]
    exact hθ q (List.mem_append_right _ (List.mem_cons_self ..))
  · rcases List.mem_append.1 hp' with h1 | h1
    · exact h.meets.joined (by omega) _ _ p' h1
    · simp only [List.mem_cons, List.not_mem_nil, or_false] at h1
      subst h1
      exact ⟨a, b, ha, hb, e1, e2, join_ab (by omega) (by omega)⟩
end
end Go.Proofs.Ytgcbnndbeoekgaa
end
section
/- the document's Add: two more terms meet -/
namespace Go.Proofs.Ytgcbnndbeoekgaa
open Go Go.RowKit Go.Maps

end Go.Proofs.Ytgcbnndbeoekgaa
end
section
/- the document's Solve: pair by pair, each time all of them anew -/
namespace Go.Proofs.Ytgcbnndbeoekgaa
open Go Go.RowKit Go.Maps

set_option maxRecDepth 100000 in
set_option maxHeartbeats 8000000 in
theorem rsolve_any (A : Option Addr) (c : Nat) (ps : List (List TN × List TN)) (w : World) (F : Nat → Prop) (hF : ∀ b, F b → b < w.heap.size) (hr : RowOf 2 EPair w F A ps) (hlc : ps.length ≤ c) (hc : c ≤ maxLen)
    (hz : ∀ p ∈ ps, (∀ t ∈ p.1, t.name.size ≤ 9223372036854775807) ∧ ∀ t ∈ p.2, t.name.size ≤ 9223372036854775807) (hfew : ps.length ≤ 4096 → ∀ k out, k ≤ ps.length → SolvedTo ps k out → k ≤ 1000) :
    Calls Try.prog 21 #[.slice A ps.length c] w (SolveRes w ps) := by
  have HR := Lib.hid hr; have HZ := Lib.hid hz; have HFEW := Lib.hid hfew; have HFF := Lib.hid hF
  unfold maxLen at hc
  obtain ⟨n, hn⟩ : ∃ n, ps.length = n := ⟨_, rfl⟩
  have HN := Lib.hid hn
  rw [hn] at hlc
  rw [hn]
  clear hr hz hfew hn
  go_enter Try.func21, Try.ntmps21
  by_cases hbig : 4096 < n
  · have hbig' : (4096 : Int) < n := by omega
    have HS : Hid (SolveSays ps 3 0 []) := Lib.hid (.inl ⟨by rw [HN.out]; exact hbig, rfl, rfl, rfl⟩)
    go_wp2
    refine bodyPost_ret (v := .tuple #[.slice none 0 0, .int .i64 0, .int .i64 3]) (by simp [results, Try.results21, go_sem]) rfl ?_
    exact ⟨3, 0, [], _, HS.out, rfl, IsRow.nil, Below.refl _ _⟩
  have hbig' : ¬ (4096 : Int) < n := by omega
  have HAI := RAI.start w
  obtain ⟨B, hB⟩ : ∃ q, w.heap.size = q := ⟨_, rfl⟩
  rw [hB] at HAI
  obtain ⟨w0, hw0⟩ : ∃ q : World, w.alloc (.cells #[.slice none 0 0, .slice none 0 0] 90) = q := ⟨_, rfl⟩
  rw [hw0] at HAI
  have HAI0 : Hid (RAI B B (512 * 0) w w0 (.slice none 0 0) (.slice none 0 0) [] [] webNil0 (eqsP ps 0)) := Lib.hid HAI
  clear HAI
  go_upto_region 6 with fail
  (try rw [hB])
  (try rw [hw0])
  clear hw0
  have HBE : Hid (w.heap.size = B) := Lib.hid hB
  clear hB
  go_loopg [5, 7] n (fun g s5 s7 wx => ∃ (k : Nat) (out : List ABind) (nv cv : Value) (ns : List TN) (cl : List Nat) (W : WebT), s7 = .int .i64 k ∧ g = n - k ∧ k ≤ n ∧ SolvedTo ps k out ∧ IsRow 2 EBind wx (fun b => w.heap.size ≤ b ∧ b < wx.heap.size) s5 out ∧ RAI B B (512 * k) w wx nv cv ns cl W (eqsP ps k))
  case atStart => exact ⟨0, [], _, _, _, _, _, rfl, rfl, Nat.zero_le _, SolvedTo.start, IsRow.nil, HAI0.out⟩
  case round =>
    clear HAI0
    obtain ⟨k, out, nv, cv, ns, cl, W, rfl, rfl, hk, hso, hro, hI⟩ := hrel
    have HSO := Lib.hid hso; have HI := Lib.hid hI
    obtain ⟨Ao, co, rfl, o1, o2, o3⟩ := hro
    have HRO := Lib.hid o3; have HOC : Hid (out.length ≤ co ∧ co ≤ maxLen) := Lib.hid ⟨o1, o2⟩
    have k0 : (0 : Int) ≤ k := by omega
    have hk1000 := HFEW.out (by rw [HN.out]; omega) k out (by rw [HN.out]; omega) hso
    clear hso hI o1 o2 o3
    by_cases hkn : k < n
    · have hkn' : (k : Int) < n := by omega
      have HKP : Hid (k < ps.length) := Lib.hid (by rw [HN.out]; exact hkn)
      obtain ⟨b, off, S1, c1, S2, c2, rfl, hbF, d0, d1, ⟨x1, x2, x3⟩, y1, y2, y3⟩ := pair_at HR.out HKP.out
      obtain ⟨l1, hl1⟩ : ∃ z, (ps[k]'HKP.out).1 = z := ⟨_, rfl⟩
      obtain ⟨l2, hl2⟩ : ∃ z, (ps[k]'HKP.out).2 = z := ⟨_, rfl⟩
      have HL : Hid ((ps[k]'HKP.out).1 = l1 ∧ (ps[k]'HKP.out).2 = l2) := Lib.hid ⟨hl1, hl2⟩
      have HZK := Lib.hid (HZ.out _ (List.getElem_mem HKP.out))
      rw [hl1] at d0 x1 x3 HZK
      rw [hl2] at d1 y1 y3 HZK
      obtain ⟨m1, hm1⟩ : ∃ z, l1.length = z := ⟨_, rfl⟩
      obtain ⟨m2, hm2⟩ : ∃ z, l2.length = z := ⟨_, rfl⟩
      have HM1 := Lib.hid hm1; have HM2 := Lib.hid hm2
      have HX : Hid (l1.length ≤ c1 ∧ c1 ≤ maxLen ∧ l2.length ≤ c2 ∧ c2 ≤ maxLen) := Lib.hid ⟨x1, x2, y1, y2⟩
      have HX3 := Lib.hid x3; have HY3 := Lib.hid y3
      rw [hm1] at d0
      rw [hm2] at d1
      have HFA : Hid (∀ w', Below B w w' → Below w.heap.size w w') := Lib.hid (fun w' hb => by rw [HBE.out]; exact hb)
      have HD : Hid (∀ w', Below w.heap.size w w' → w'.cell? ⟨b, off + k * 2, none⟩ = some (.slice S1 m1 c1) ∧ w'.cell? ⟨b, off + k * 2 + 1, none⟩ = some (.slice S2 m2 c2)) := Lib.hid (fun w' hb => ⟨(hb.cell (p := ⟨b, _, none⟩) (HFF.out b hbF)).trans d0, (hb.cell (p := ⟨b, _, none⟩) (HFF.out b hbF)).trans d1⟩)
      have HRI1 : Hid (∀ w', Below w.heap.size w w' → Calls Try.prog 29 #[.agg #[.slice S1 m1 c1]] w' fun e w2 => e = .returned (.int .i64 (rightI l1)) ∧ Below w'.heap.size w' w2) := Lib.hid (fun w' hb => by
        have := rright_any S1 c1 l1 w' F (fun b h => Nat.lt_of_lt_of_le (HFF.out b h) hb.size) (x3.keep ETN.stays (Keep.below hb HFF.out) (fun _ h => h)) x1 x2 HZK.out.1
        rw [hm1] at this; exact this)
      have HRI2 : Hid (∀ w', Below w.heap.size w w' → Calls Try.prog 29 #[.agg #[.slice S2 m2 c2]] w' fun e w2 => e = .returned (.int .i64 (rightI l2)) ∧ Below w'.heap.size w' w2) := Lib.hid (fun w' hb => by
        have := rright_any S2 c2 l2 w' F (fun b h => Nat.lt_of_lt_of_le (HFF.out b h) hb.size) (y3.keep ETN.stays (Keep.below hb HFF.out) (fun _ h => h)) y1 y2 HZK.out.2
        rw [hm2] at this; exact this)
      obtain ⟨ri1, hri1⟩ : ∃ q, rightI l1 = q := ⟨_, rfl⟩
      obtain ⟨ri2, hri2⟩ : ∃ q, rightI l2 = q := ⟨_, rfl⟩
      have HRE1 := Lib.hid hri1; have HRE2 := Lib.hid hri2
      rw [hri1] at HRI1
      rw [hri2] at HRI2
      have HB0 := Lib.hid (HFA.out _ HI.out.below)
      clear hl1 hl2 x1 x2 x3 y1 y2 y3 d0 d1 hm1 hm2 hri1 hri2
      obtain ⟨d0, d1⟩ := HD.out _ HB0.out
      go_wp2_with fail
      clear d0 d1
      refine (HRI1.out _ HB0.out).mono ?_
      rintro _ w3 ⟨rfl, hb3⟩
      have HI3 : Hid (RAI B B (512 * k) w w3 nv cv ns cl W (eqsP ps k)) := Lib.hid { HI.out with below := HI.out.below.trans (hb3.mono HI.out.size), rm := HI.out.rm.below hb3 }
      clear hb3 HI HB0
      have HB3 := Lib.hid (HFA.out _ HI3.out.below)
      by_cases hri0 : ri1 = 0
      case neg =>
        have e1 : (ri1 == 0) = false := by simp; exact hri0
        have e2 : (ri1 != 0) = true := by simp; exact hri0
        have HS : Hid (SolveSays ps ri1 (k : Nat) []) := Lib.hid (.inr (.inr ⟨by rw [HN.out]; omega, k, out, HSO.out, ⟨HKP.out, .inl ⟨by rw [HL.out.1, HRE1.out]; exact hri0, by rw [HL.out.1, HRE1.out]⟩⟩, rfl, rfl⟩))
        clear hri0
        go_wp2
        refine bodyPost_ret (v := .tuple #[.slice none 0 0, .int .i64 k, .int .i64 ri1]) (by simp [results, Try.results21, go_sem]) rfl ?_
        exact ⟨ri1, (k : Nat), [], _, HS.out, rfl, IsRow.nil, HB3.out⟩
      case pos =>
      subst hri0
      obtain ⟨d0, d1⟩ := HD.out _ HB3.out
      go_wp2_with fail
      clear d0 d1
      refine (HRI2.out _ HB3.out).mono ?_
      rintro _ w4 ⟨rfl, hb4⟩
      have HI4 : Hid (RAI B B (512 * k) w w4 nv cv ns cl W (eqsP ps k)) := Lib.hid { HI3.out with below := HI3.out.below.trans (hb4.mono HI3.out.size), rm := HI3.out.rm.below hb4 }
      clear hb4 HI3 HB3
      have HB4 := Lib.hid (HFA.out _ HI4.out.below)
      by_cases hri0 : ri2 = 0
      case neg =>
        have e2 : (ri2 != 0) = true := by simp; exact hri0
        have HS : Hid (SolveSays ps ri2 (k : Nat) []) := Lib.hid (.inr (.inr ⟨by rw [HN.out]; omega, k, out, HSO.out, ⟨HKP.out, .inr (.inl ⟨by rw [HL.out.1]; exact HRE1.out, by rw [HL.out.2, HRE2.out]; exact hri0, by rw [HL.out.2, HRE2.out]⟩)⟩, rfl, rfl⟩))
        clear hri0
        go_wp2
        refine bodyPost_ret (v := .tuple #[.slice none 0 0, .int .i64 k, .int .i64 ri2]) (by simp [results, Try.results21, go_sem]) rfl ?_
        exact ⟨ri2, (k : Nat), [], _, HS.out, rfl, IsRow.nil, HB4.out⟩
      case pos =>
      subst hri0
      have HT1 := Lib.hid (treeOf_ok HRE1.out); have HT2 := Lib.hid (treeOf_ok HRE2.out)
      have HSW1 := HFA.out _ HI4.out.below
      have HCALL := HI4.out.lay (F := F) (T := treeOf l1) (by omega) HT1.out.1 HT1.out.2.1 HT1.out.2.2.2 HT1.out.2.2.1 (fun b hb => ⟨Nat.lt_of_lt_of_le (HFF.out b hb) HSW1.size, fun hw => by have h1 := (HI4.out.wr_lt hw).1; have h2 := HFF.out b hb; have h3 := HBE.out; omega⟩) (HX3.out.keep ETN.stays (Keep.below (w := w) HSW1 HFF.out) (fun _ h => h)) HX.out.1 HX.out.2.1
      rw [HM1.out] at HCALL
      have HC1 := Lib.hid HCALL
      obtain ⟨d0, d1⟩ := HD.out _ HSW1
      clear HCALL HSW1
      go_wp2_with fail
      clear d0 d1
      refine HC1.out.mono ?_
      clear HC1
      rintro _ u1 ⟨rfl, hnv1, hcv1, hns1, hcl1, W1, hI1, hold1, hk1, ht1, _⟩
      obtain ⟨k1, hkk1⟩ : ∃ z, ns.length = z := ⟨_, rfl⟩
      rw [hkk1] at hk1 ht1
      rw [hkk1]
      have HJ1 := Lib.hid hI1
      have HK1 : Hid (k1 < W1.n ∧ W1.tr k1 = treeOf l1) := Lib.hid ⟨hk1, ht1⟩
      clear hI1 hold1 hk1 ht1 hkk1 HI4 HB4
      have HSW2 := HFA.out _ HJ1.out.below
      have HCALL := HJ1.out.lay (F := F) (T := treeOf l2) (by omega) HT2.out.1 HT2.out.2.1 HT2.out.2.2.2 HT2.out.2.2.1 (fun b hb => ⟨Nat.lt_of_lt_of_le (HFF.out b hb) HSW2.size, fun hw => by have h1 := (HJ1.out.wr_lt hw).1; have h2 := HFF.out b hb; have h3 := HBE.out; omega⟩) (HY3.out.keep ETN.stays (Keep.below (w := w) HSW2 HFF.out) (fun _ h => h)) HX.out.2.2.1 HX.out.2.2.2
      rw [HM2.out] at HCALL
      have HC2 := Lib.hid HCALL
      obtain ⟨d0, d1⟩ := HD.out _ HSW2
      clear HCALL HSW2
      go_wp2_with fail
      clear d0 d1
      refine HC2.out.mono ?_
      clear HC2
      rintro _ u2 ⟨rfl, hnv2, hcv2, hns2, hcl2, W2, hI2, hold2, hk2, ht2, _⟩
      obtain ⟨k2, hkk2⟩ : ∃ z, hns1.length = z := ⟨_, rfl⟩
      rw [hkk2] at hk2 ht2
      rw [hkk2]
      have HJ2 := Lib.hid hI2
      have HK2 : Hid (k1 < W2.n ∧ W2.tr k1 = treeOf l1 ∧ k2 < W2.n ∧ W2.tr k2 = treeOf l2) := Lib.hid ⟨(hold2 k1 HK1.out.1).1, (hold2 k1 HK1.out.1).2.trans HK1.out.2, hk2, ht2⟩
      clear hI2 hold2 hk2 ht2 hkk2 HJ1 HK1
      have HC4 := Lib.hid (HJ2.out.join (by omega) HK2.out.1 HK2.out.2.2.1 (q := (treeOf l1, treeOf l2)) HK2.out.2.1 HK2.out.2.2.2)
      go_wp2_with fail
      refine HC4.out.mono ?_
      clear HC4
      rintro _ u4 ⟨⟨bb, hbb⟩, cl4, hI5, _⟩
      unfold IsB at hbb
      subst hbb
      have HEQ : Hid (eqsP ps (k + 1) = eqsP ps k ++ [(treeOf l1, treeOf l2)]) := Lib.hid (by rw [eqsP_next HKP.out, HL.out.1, HL.out.2])
      rw [← HEQ.out] at hI5
      have HI5 := Lib.hid hI5
      have hnpos : 0 < hns2.length := by rw [← hI5.rw.n]; exact Nat.lt_of_le_of_lt (Nat.zero_le _) HK2.out.1
      obtain ⟨g, cn, gc, cc, e1, e2, _, _⟩ := hI5.rm.shape hI5.rw.cn hnpos
      subst e1; subst e2
      have HSV : Hid (Calls Try.prog 37 #[.pointer (some ⟨B, 0, none⟩)] u4 (SomeSolved u4 B B (.slice (some ⟨g, 0, none⟩) hns2.length cn) (.slice (some ⟨gc, 0, none⟩) hns2.length cc) W2 (eqsP ps (k + 1)) hns2)) := Lib.hid (rsolved_any u4 B B g gc hns2.length cn cc hns2 cl4 W2 _ hI5.rm hI5.rw hI5.meets (by have := hI5.few; omega) rfl)
      clear hI5 HJ2 hnpos
      go_wp2_with fail
      refine HSV.out.mono ?_
      clear HSV
      rintro _ u5 ⟨cl5, o, err, out', v, hrm, hrw, hme, hg5, hcs, hoi, rfl, hrow⟩
      have hb5 : Below B w u5 := HI5.out.below.grown hg5 HI5.out.size (fun k e => (HI5.out.rm.cls.lt k e).1)
      have HI6 : Hid (RAI B B (512 * (k + 1)) w u5 (.slice (some ⟨g, 0, none⟩) hns2.length cn) (.slice (some ⟨gc, 0, none⟩) hns2.length cc) hns2 cl5 W2 (eqsP ps (k + 1))) := Lib.hid ⟨hb5, HI5.out.hB, hrm, hrw, hme, by have := HI5.out.few; omega⟩
      have HROW : Hid (IsRow 2 EBind u5 (fun b => w.heap.size ≤ b ∧ b < u5.heap.size) v out') := Lib.hid (hrow.keep EBind.stays (Keep.refl _ _) (fun b h => ⟨Nat.le_trans (HFA.out _ HI5.out.below).size h.1, h.2⟩))
      have HCS := Lib.hid hcs; have HOI := Lib.hid hoi
      have HB6 := Lib.hid (HFA.out _ HI6.out.below)
      clear hrm hrw hme hg5 hcs hoi hrow hb5 HI5
      by_cases he : err = 0
      · subst he
        have HNX : Hid (SolvedTo ps (k + 1) out') := Lib.hid (by
          have hcs := HCS.out
          have hoi := HOI.out
          cases o with
          | ok bs => rw [hoi.2]; exact HSO.out.next HKP.out (by rw [HL.out.1]; exact HRE1.out) (by rw [HL.out.2]; exact HRE2.out) hcs
          | clash => exact absurd hoi.1 (by decide)
          | occurs => exact absurd hoi.1 (by decide)
          | long => exact absurd hoi.1 (by decide))
        go_wp2_with fail
        go_roundg (n - (k + 1))
        case measure => omega
        case rel => exact ⟨k + 1, out', _, _, _, _, _, by go_num, rfl, by omega, HNX.out, HROW.out, HI6.out⟩
      · have he' : (err != 0) = true := by simp; exact he
        have HS : Hid (SolveSays ps err (k : Nat) []) := Lib.hid (by
          have hcs := HCS.out
          have hoi := HOI.out
          refine .inr (.inr ⟨by rw [HN.out]; omega, k, out, HSO.out, ⟨HKP.out, .inr (.inr ⟨by rw [HL.out.1]; exact HRE1.out, by rw [HL.out.2]; exact HRE2.out, o, hcs, fun bs e => ?_, ?_⟩)⟩, rfl, rfl⟩)
          · subst e; exact he hoi.1
          · cases o with
            | ok bs => exact absurd hoi.1 he
            | clash => exact ⟨hoi.1, rfl⟩
            | occurs => exact ⟨hoi.1, rfl⟩
            | long => exact ⟨hoi.1, rfl⟩)
        clear he
        go_wp2_with fail
        refine bodyPost_ret (v := .tuple #[.slice none 0 0, .int .i64 k, .int .i64 err]) (by simp [results, Try.results21, go_sem]) rfl ?_
        exact ⟨err, (k : Nat), [], _, HS.out, rfl, IsRow.nil, HB6.out⟩
    · have hkn' : ¬ (k : Int) < n := by omega
      have hke : k = ps.length := by rw [HN.out]; omega
      have HS : Hid (SolveSays ps 0 0 out) := Lib.hid (.inr (.inl ⟨by rw [HN.out]; omega, by rw [← hke]; exact HSO.out, rfl, rfl⟩))
      have HB9 : Hid (Below w.heap.size w wr) := Lib.hid (by rw [HBE.out]; exact HI.out.below)
      clear hke
      go_wp2_with fail
      refine bodyPost_ret (v := .tuple #[.slice Ao out.length co, .int .i64 0, .int .i64 0]) (by simp [results, Try.results21, go_sem]) rfl ?_
      exact ⟨0, 0, out, _, HS.out, rfl, ⟨Ao, co, rfl, HOC.out.1, HOC.out.2, HRO.out⟩, HB9.out⟩
end Go.Proofs.Ytgcbnndbeoekgaa
end
