import Derived.Test.YtpjkifbicfcajaaPastP
import Derived.Test.YtpjkifbicfcajaaHSame
import Derived.Test.YtpjkifbicfcajaaRPush
set_option linter.unusedSimpArgs false
set_option linter.unusedVariables false
section
/- models are many, or not -/
namespace Go.Proofs.Ytpjkifbicfcajaa
open Go Go.RowKit

def SomeBool (e : Ending) : Prop := ∃ b : Bool, e = .returned (.bool b)
set_option maxRecDepth 100000 in
set_option maxHeartbeats 2000000 in
theorem great_any (A : Option Addr) (c : Nat) (L : List AModel) (w : World) (F : Nat → Prop) (hF : ∀ b, F b → b < w.heap.size) (h : RowOf 2 EModel w F A L) (hz : ∀ m ∈ L, ModAll m) (hl : L.length ≤ 9223372036854775807) :
    Calls Try.prog 10 #[.slice A L.length c] w fun e w' => SomeBool e ∧ Below w.heap.size w w' := by
  have HH := Lib.hid h
  have HZ := Lib.hid hz
  clear h hz
  go_enter Try.func10, Try.ntmps10
  go_wp2_with fail
  go_loopg [3, 4, 5, 6] L.length (fun g s3 s4 s5 s6 wx => ∃ i n : Nat, s3 = .int .i64 n ∧ s4 = .int .i64 i ∧ g = L.length - i ∧ i ≤ L.length ∧ i ≤ 1000 ∧ (n : Int) ≤ 1001000 * (i : Int) ∧ Below w.heap.size w wx)
  case atStart => exact ⟨0, 0, rfl, rfl, rfl, Nat.zero_le _, Nat.zero_le _, by omega, Below.refl _ _⟩
  case round =>
    obtain ⟨i, n, rfl, rfl, rfl, hil, hi1, hn, hb⟩ := hrel
    obtain ⟨wo, hwo⟩ : ∃ x, x = wr := ⟨_, rfl⟩
    subst hwo
    have HB := Lib.hid hb
    have HN := Lib.hid hn
    clear hb hn
    have i0 : (0 : Int) ≤ i := by omega
    by_cases hlt : i < L.length
    · have hlt' : (i : Int) < L.length := by omega
      have hd1 : decide ((i : Int) < L.length) = true := decide_eq_true hlt'
      by_cases h1 : i < 1000
      · have hd2 : decide ((i : Int) < 1000) = true := decide_eq_true (by omega)
        obtain ⟨b, off, S, cs, hA, hbF, d0, d1, hs1, hs2, hrow⟩ := model_at (RowOf.keep EModel.stays (Keep.below HB.out hF) (F' := F) (fun _ h => h) HH.out) hlt
        have HZX := Lib.hid (HZ.out _ (List.getElem_mem hlt))
        obtain ⟨m, hm⟩ : ∃ m, L[i] = m := ⟨_, rfl⟩
        rw [hm] at HZX d0 d1 hrow
        have HROW := Lib.hid hrow
        have hbw : b < w.heap.size := hF b hbF
        have HD : Hid (∀ w', Below wo.heap.size wo w' → w'.cell? ⟨b, off + i * 2 + 1, none⟩ = some (.slice S m.nodes.length cs)) := Lib.hid (fun w' hb' => (hb'.cell (p := ⟨b, _, none⟩) (Nat.lt_of_lt_of_le hbw HB.out.size)).trans d1)
        clear hm d0 d1 hrow hs1 hs2
        subst hA
        go_wp2_with fail
        go_loopg [3, 5, 6] m.nodes.length (fun g s3 s5 s6 wx => ∃ k n : Nat, s3 = .int .i64 n ∧ s5 = .int .i64 k ∧ g = m.nodes.length - k ∧ k ≤ m.nodes.length ∧ k ≤ 1000 ∧ (n : Int) ≤ 1001000 * (i : Int) + 1001 * (k : Int) ∧ Below wo.heap.size wo wx)
        case atStart => exact ⟨0, n, rfl, rfl, rfl, Nat.zero_le _, Nat.zero_le _, by have := HN.out; omega, Below.refl _ _⟩
        case round =>
          obtain ⟨k, n2, rfl, rfl, rfl, hkl, hk1, hn2, hb2⟩ := hrel
          have HB2 := Lib.hid hb2; have HN2 := Lib.hid hn2
          have d1 := HD.out _ hb2
          clear hb2 hn2
          have k0 : (0 : Int) ≤ k := by omega
          by_cases hkt : k < m.nodes.length
          · have hkt' : (k : Int) < m.nodes.length := by omega
            have hd3 : decide ((k : Int) < m.nodes.length) = true := decide_eq_true hkt'
            by_cases h2 : k < 1000
            · have hd4 : decide ((k : Int) < 1000) = true := decide_eq_true (by omega)
              have hFw : ∀ b, F b → b < wo.heap.size := fun b hx => Nat.lt_of_lt_of_le (hF b hx) HB.out.size
              obtain ⟨nb, noff, Sp, cp, Sk, ck, Sr, cr, rfl, hbF2, e0, e1, e2, e3, e4, e5, e6, hp, hk, hr⟩ := node_at (RowOf.keep ENode.stays (Keep.below HB2.out hFw) (F' := F) (fun _ h => h) HROW.out) hkt
              have hzx := (HZX.out.1 _ (List.getElem_mem hkt)).2.1
              obtain ⟨x, hx⟩ : ∃ x, m.nodes[k] = x := ⟨_, rfl⟩
              rw [hx] at e0 e1 e2 e3 e4 e5 e6 hzx
              obtain ⟨z1, z2, z3⟩ := hzx
              clear hx hp hk hr
              have hnb : (n2 : Int) ≤ 2003000000 := by have := HN2.out; omega
              go_wp2
              · go_roundg (m.nodes.length - (k + 1))
                case measure => omega
                case rel => exact ⟨k + 1, n2 + 1 + (x.props.length + x.refs.length + x.kids.length / 8), by congr 1, by go_num, rfl, by omega, by omega, by have := HN2.out; omega, HB2.out.alloc HB2.out.size _⟩
              · go_roundg (m.nodes.length - (k + 1))
                case measure => omega
                case rel => exact ⟨k + 1, n2 + 1 + 1000, by congr 1, by go_num, rfl, by omega, by omega, by have := HN2.out; omega, HB2.out.alloc HB2.out.size _⟩
            · have hd4 : decide ((k : Int) < 1000) = false := decide_eq_false (by omega)
              go_wp2
              go_roundg (L.length - (i + 1))
              case measure => omega
              case rel => exact ⟨i + 1, n2, rfl, by go_num, rfl, by omega, by omega, by have := HN2.out; omega, HB.out.trans (HB2.out.mono HB.out.size)⟩
          · have hkt' : ¬ (k : Int) < m.nodes.length := by omega
            have hd3 : decide ((k : Int) < m.nodes.length) = false := decide_eq_false hkt'
            go_wp2
            go_roundg (L.length - (i + 1))
            case measure => omega
            case rel => exact ⟨i + 1, n2, rfl, by go_num, rfl, by omega, by omega, by have := HN2.out; omega, HB.out.trans (HB2.out.mono HB.out.size)⟩
      · have hd2 : decide ((i : Int) < 1000) = false := decide_eq_false (by omega)
        go_wp2
        go_ret
        exact ⟨⟨_, rfl⟩, HB.out⟩
    · have hlt' : ¬ (i : Int) < L.length := by omega
      have hd1 : decide ((i : Int) < L.length) = false := decide_eq_false hlt'
      go_wp2
      go_ret
      exact ⟨⟨_, rfl⟩, HB.out⟩
end Go.Proofs.Ytpjkifbicfcajaa
end
section
/- what holds of both pasts, and of the elder ones, from act to act -/
namespace Go.Proofs.Ytpjkifbicfcajaa
open Go Go.RowKit

theorem pushP_all {P : APast} {m : AModel} (h : ∀ x ∈ P.list, ModAll x) (hm : ModAll m) : ∀ x ∈ (pushP P m).2.list, ModAll x := by
  unfold pushP
  split
  · exact h
  · split
    · exact h
    · intro x hx
      unfold APast.list at hx
      rcases List.mem_append.1 hx with hx | hx
      · refine h x ?_
        have hx2 : x ∈ P.ahead ++ [P.here] := by
          simp only at hx
          split at hx
          · exact List.mem_of_mem_tail hx
          · exact hx
        unfold APast.list
        rcases List.mem_append.1 hx2 with h2 | h2
        · exact List.mem_append_left _ h2
        · simp at h2; subst h2; simp
      · simp at hx; subst hx; exact hm
/-- blocks that nobody writes any more; T: those that are still to be written over -/
def Frz (w : World) (p q : Nat) (vo vw : Value) (T : Nat → Prop) (b : Nat) : Prop := b < w.heap.size ∧ b ≠ p ∧ b ≠ q ∧ vo.ownBlock ≠ some b ∧ vw.ownBlock ≠ some b ∧ ¬ T b
def NoT (_ : Nat) : Prop := False
structure Old where
  p : Nat
  q : Nat
  P : APast
def Old.pp (o : Old) : Value := .pointer (some ⟨o.p, 0, none⟩)
def Old.qq (o : Old) : Value := .pointer (some ⟨o.q, 0, none⟩)
structure OldOK (w : World) (F : Nat → Prop) (o : Old) : Prop where
  past : IsPast w F o.p o.P
  rpast : IsRPast w F o.q o.P
  fp : F o.p
  fq : F o.q
  fits : o.P.Fits
  all : ModAll o.P.here
theorem OldOK.keep {w w' : World} {F F' : Nat → Prop} {o : Old} (h : OldOK w F o) (hk : ∀ b, F b → w'.heap[b]? = w.heap[b]?) (hF : ∀ b, F b → F' b) : OldOK w' F' o :=
  ⟨h.past.keep (fun q hq => World.cell?_of_block (hk _ hq)) hF (hk _ h.fp), h.rpast.keep (fun q hq => World.cell?_of_block (hk _ hq)) hF (hk _ h.fq), hF _ h.fp, hF _ h.fq, h.fits, h.all⟩
structure J (base : Nat) (w : World) (p q : Nat) (vo vw : Value) (T : Nat → Prop) (P Q : APast) (Os : List Old) : Prop where
  past : IsPast w (Frz w p q vo vw T) p P
  rpast : IsRPast w (Frz w p q vo vw T) q Q
  pq : p ≠ q
  bp : base ≤ p
  bq : base ≤ q
  fits : P.Fits
  fitsq : Q.Fits
  all : ∀ m ∈ P.list, ModAll m
  ro : w.ownsRow base 29 1 vo Os.length (Os.map Old.pp)
  rw : w.ownsRow base 33 1 vw Os.length (Os.map Old.qq)
  so : ∀ b, vo.ownBlock = some b → b ≠ p ∧ b ≠ q ∧ vw.ownBlock ≠ some b
  sw : ∀ b, vw.ownBlock = some b → b ≠ p ∧ b ≠ q
  olds : ∀ o ∈ Os, OldOK w (Frz w p q vo vw T) o
section
variable {base : Nat} {wx wy : World} {p q : Nat} {vo vw : Value} {T T' : Nat → Prop} {P P' Q Q' : APast} {Os : List Old} {F1 F2 : Nat → Prop}
theorem J.hereAll (h : J base wx p q vo vw T P Q Os) : ModAll P.here := h.all _ (by unfold APast.list; simp)
theorem J.plt (h : J base wx p q vo vw T P Q Os) : p < wx.heap.size := h.past.lt
theorem J.qlt (h : J base wx p q vo vw T P Q Os) : q < wx.heap.size := h.rpast.lt
/-- what is new is none of theirs -/
theorem J.sep (h : J base wx p q vo vw T P Q Os) : ∀ b, wx.heap.size ≤ b → b ≠ p ∧ b ≠ q ∧ vo.ownBlock ≠ some b ∧ vw.ownBlock ≠ some b := fun b hb =>
  ⟨by have := h.plt; omega, by have := h.qlt; omega, fun e => by have := (h.ro.lt b e).2; omega, fun e => by have := (h.rw.lt b e).2; omega⟩
theorem Frz.up (hs : wx.heap.size ≤ wy.heap.size) (hT : ∀ b, T' b → T b ∨ wx.heap.size ≤ b) (b : Nat) (h : Frz wx p q vo vw T b) : Frz wy p q vo vw T' b :=
  ⟨Nat.lt_of_lt_of_le h.1 hs, h.2.1, h.2.2.1, h.2.2.2.1, h.2.2.2.2.1, fun e => (hT b e).elim h.2.2.2.2.2 (fun e => by have := h.1; omega)⟩
/-- the program's past has turned -/
theorem J.stepP (h : J base wx p q vo vw T P Q Os) (hk : KeepO (· = p) wx wy) (hT : ∀ b, T' b → T b ∨ wx.heap.size ≤ b) (h1 : IsPast wy F1 p P') (f1 : ∀ b, F1 b → Frz wy p q vo vw T' b) (hfit : P'.Fits) (hall : ∀ m ∈ P'.list, ModAll m) : J base wy p q vo vw T' P' Q Os := by
  have hkF : ∀ b, Frz wx p q vo vw T b → wy.heap[b]? = wx.heap[b]? := fun b hb => hk.block b hb.1 hb.2.1
  have hF := Frz.up (wx := wx) (wy := wy) (p := p) (q := q) (vo := vo) (vw := vw) hk.size hT
  exact ⟨h1.mono f1, h.rpast.keep (fun a ha => World.cell?_of_block (hkF _ ha)) hF (hk.block q h.qlt (fun e => h.pq e.symm)), h.pq, h.bp, h.bq, hfit, h.fitsq, hall,
    own_keep h.ro fun b e => hk.block b (h.ro.lt b e).2 (h.so b e).1, own_keep h.rw fun b e => hk.block b (h.rw.lt b e).2 (h.sw b e).1, h.so, h.sw, fun o ho => (h.olds o ho).keep hkF hF⟩
/-- the document's past has turned -/
theorem J.stepQ (h : J base wx p q vo vw T P Q Os) (hk : KeepO (· = q) wx wy) (hT : ∀ b, T' b → T b ∨ wx.heap.size ≤ b) (h1 : IsRPast wy F1 q Q') (f1 : ∀ b, F1 b → Frz wy p q vo vw T' b) (hfit : Q'.Fits) : J base wy p q vo vw T' P Q' Os := by
  have hkF : ∀ b, Frz wx p q vo vw T b → wy.heap[b]? = wx.heap[b]? := fun b hb => hk.block b hb.1 hb.2.2.1
  have hF := Frz.up (wx := wx) (wy := wy) (p := p) (q := q) (vo := vo) (vw := vw) hk.size hT
  exact ⟨h.past.keep (fun a ha => World.cell?_of_block (hkF _ ha)) hF (hk.block p h.plt h.pq), h1.keep (Keep.refl _ _) f1 rfl, h.pq, h.bp, h.bq, h.fits, hfit, h.all,
    own_keep h.ro fun b e => hk.block b (h.ro.lt b e).2 (h.so b e).2.1, own_keep h.rw fun b e => hk.block b (h.rw.lt b e).2 (h.sw b e).2, h.so, h.sw, fun o ho => (h.olds o ho).keep hkF hF⟩
theorem J.belowT (h : J base wx p q vo vw T P Q Os) (hb : Below wx.heap.size wx wy) (hT : ∀ b, T' b → T b ∨ wx.heap.size ≤ b) : J base wy p q vo vw T' P Q Os :=
  h.stepP ((KeepO.refl (· = p) wx).below hb) hT (h.past.below hb (fun _ h => h.1)) (Frz.up hb.size hT) h.fits h.all
theorem J.below (h : J base wx p q vo vw T P Q Os) (hb : Below wx.heap.size wx wy) : J base wy p q vo vw T P Q Os := h.belowT hb (fun _ h => .inl h)
/-- what was to be written over is written over -/
theorem J.freed {O : Nat → Prop} (h : J base wx p q vo vw T P Q Os) (hk : KeepO O wx wy) (hO : ∀ b, O b → T b ∧ b ≠ p ∧ b ≠ q ∧ vo.ownBlock ≠ some b ∧ vw.ownBlock ≠ some b) : J base wy p q vo vw NoT P Q Os := by
  have hkF : ∀ b, Frz wx p q vo vw T b → wy.heap[b]? = wx.heap[b]? := fun b hb => hk.block b hb.1 (fun e => hb.2.2.2.2.2 (hO b e).1)
  have hF : ∀ b, Frz wx p q vo vw T b → Frz wy p q vo vw NoT b := Frz.up hk.size (fun b e => e.elim)
  have hK : Keep (Frz wx p q vo vw T) wx wy := fun a ha => World.cell?_of_block (hkF _ ha)
  exact ⟨h.past.keep hK hF (hk.block p h.plt (fun e => (hO p e).2.1 rfl)), h.rpast.keep hK hF (hk.block q h.qlt (fun e => (hO q e).2.2.1 rfl)), h.pq, h.bp, h.bq, h.fits, h.fitsq, h.all,
    own_keep h.ro fun b e => hk.block b (h.ro.lt b e).2 (fun e2 => (hO b e2).2.2.2.1 e), own_keep h.rw fun b e => hk.block b (h.rw.lt b e).2 (fun e2 => (hO b e2).2.2.2.2 e), h.so, h.sw, fun o ho => (h.olds o ho).keep hkF hF⟩
/-- both go on as copies -/
theorem J.copy {p' q' : Nat} {vo' vw' : Value} (h : J base wx p q vo vw NoT P P Os) (hs : wx.heap.size ≤ wy.heap.size) (hk : ∀ b, b < wx.heap.size → vo.ownBlock ≠ some b → vw.ownBlock ≠ some b → wy.heap[b]? = wx.heap[b]?)
    (ro : wy.ownsRow base 29 1 vo' (Os.length + 1) (Os.map Old.pp ++ [.pointer (some ⟨p, 0, none⟩)])) (rw' : wy.ownsRow base 33 1 vw' (Os.length + 1) (Os.map Old.qq ++ [.pointer (some ⟨q, 0, none⟩)]))
    (ho : ∀ b, vo'.ownBlock = some b → vo.ownBlock = some b ∨ wx.heap.size ≤ b) (hw : ∀ b, vw'.ownBlock = some b → vw.ownBlock = some b ∨ wx.heap.size ≤ b)
    (so : ∀ b, vo'.ownBlock = some b → b ≠ p' ∧ b ≠ q' ∧ vw'.ownBlock ≠ some b) (sw : ∀ b, vw'.ownBlock = some b → b ≠ p' ∧ b ≠ q') (hpq : p' ≠ q') (hp : wx.heap.size ≤ p') (hq : wx.heap.size ≤ q') (hbase : base ≤ wx.heap.size)
    (h1 : IsPast wy F1 p' P) (f1 : ∀ b, F1 b → Frz wy p' q' vo' vw' NoT b) (h2 : IsRPast wy F2 q' P) (f2 : ∀ b, F2 b → Frz wy p' q' vo' vw' NoT b) : J base wy p' q' vo' vw' NoT P P (Os ++ [⟨p, q, P⟩]) := by
  have hF : ∀ b, b < wx.heap.size → vo.ownBlock ≠ some b → vw.ownBlock ≠ some b → Frz wy p' q' vo' vw' NoT b := fun b a1 a2 a3 =>
    ⟨by omega, by omega, by omega, fun e => by rcases ho b e with h | h; exact a2 h; omega, fun e => by rcases hw b e with h | h; exact a3 h; omega, fun e => e⟩
  have hF' : ∀ b, Frz wx p q vo vw NoT b → Frz wy p' q' vo' vw' NoT b := fun b hx => hF b hx.1 hx.2.2.2.1 hx.2.2.2.2.1
  have hkF : ∀ b, Frz wx p q vo vw NoT b → wy.heap[b]? = wx.heap[b]? := fun b hx => hk b hx.1 hx.2.2.2.1 hx.2.2.2.2.1
  have hK : Keep (Frz wx p q vo vw NoT) wx wy := fun a ha => World.cell?_of_block (hkF _ ha)
  have np : vo.ownBlock ≠ some p ∧ vw.ownBlock ≠ some p := ⟨fun e => (h.so p e).1 rfl, fun e => (h.sw p e).1 rfl⟩
  have nq : vo.ownBlock ≠ some q ∧ vw.ownBlock ≠ some q := ⟨fun e => (h.so q e).2.1 rfl, fun e => (h.sw q e).2 rfl⟩
  refine ⟨h1.mono f1, h2.keep (Keep.refl _ _) f2 rfl, hpq, by omega, by omega, h.fits, h.fits, h.all, by simpa [Old.pp] using ro, by simpa [Old.qq] using rw', so, sw, fun o hm => ?_⟩
  rcases List.mem_append.1 hm with hm | hm
  · exact (h.olds o hm).keep hkF hF'
  · simp only [List.mem_cons, List.not_mem_nil, or_false] at hm
    subst hm
    exact ⟨h.past.keep hK hF' (hk p h.plt np.1 np.2), h.rpast.keep hK hF' (hk q h.qlt nq.1 nq.2), hF p h.plt np.1 np.2, hF q h.qlt nq.1 nq.2, h.fits, h.hereAll⟩
end
theorem undoP_two (P : APast) : (undoP P).1 = 0 ∨ (undoP P).1 = 270 := by
  unfold undoP
  split
  · exact .inr rfl
  · exact .inl rfl
theorem redoP_two (P : APast) : (redoP P).1 = 0 ∨ (redoP P).1 = 270 := by
  unfold redoP
  split
  · exact .inr rfl
  · exact .inl rfl
theorem rundo_any (p : Nat) (P : APast) (w : World) (F : Nat → Prop) (hF : ∀ b, F b → b < w.heap.size) (hpF : ¬ F p) (h : IsRPast w F p P) (hfit : P.Fits) :
    Calls Try.prog 19 #[.pointer (some ⟨p, 0, none⟩)] w fun e w' => RPost w w' F p (undoP P) e := by
  unfold undoP
  cases hl : P.ahead.getLast? with
  | none => exact rundo_none p P (List.getLast?_eq_none_iff.1 hl) w F hF hpF h hfit
  | some m =>
    obtain ⟨ys, hy⟩ := List.getLast?_eq_some_iff.1 hl
    have := rundo_some p ys m P.here P.behind P (by cases P; simp at hy; subst hy; rfl) w F hF hpF h hfit
    simpa [hy] using this
theorem rredo_any (p : Nat) (P : APast) (w : World) (F : Nat → Prop) (hF : ∀ b, F b → b < w.heap.size) (hpF : ¬ F p) (h : IsRPast w F p P) (hfit : P.Fits) :
    Calls Try.prog 22 #[.pointer (some ⟨p, 0, none⟩)] w fun e w' => RPost w w' F p (redoP P) e := by
  unfold redoP
  cases hl : P.behind with
  | nil => exact rredo_none p P hl w F hF hpF h hfit
  | cons m r => exact rredo_some p P.ahead m P.here r P (by cases P; simp at hl; subst hl; rfl) w F hF hpF h hfit
theorem hpp_info : (Try.prog.info? 29).map (fun i => (i.zero, i.size, i.bytes)) = some (some (.pointer none), 1, 8) := by kernel_rfl
theorem hqq_info : (Try.prog.info? 33).map (fun i => (i.zero, i.size, i.bytes)) = some (some (.pointer none), 1, 8) := by kernel_rfl
end Go.Proofs.Ytpjkifbicfcajaa
end
