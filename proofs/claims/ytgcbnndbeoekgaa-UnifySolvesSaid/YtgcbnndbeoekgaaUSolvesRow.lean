import Derived.Test.YtgcbnndbeoekgaaBase
import Derived.ProofKit
import Derived.Deep.Slices
import Derived.ChangeSame
import Derived.Test.YtgcbnndbeoekgaaMapI
import Derived.Test.YtgcbnndbeoekgaaFindB
import Derived.Test.YtgcbnndbeoekgaaAlike
import Derived.Lib.QuietBelow
import Derived.Test.YtgcbnndbeoekgaaFewP
import Derived.Test.YtgcbnndbeoekgaaRSolve
import Derived.OpenShut
import Derived.Test.YtgcbnndbeoekgaaUSolve
import Derived.Test.YtgcbnndbeoekgaaRows
import Derived.HandedShaped
import Derived.ChangeMaps5
set_option linter.unusedSimpArgs false
set_option linter.unusedVariables false
section
namespace Go.Proofs.Ytgcbnndbeoekgaa
open Go.ChangeShapes Go.WideShapes Go.ChangeAt Go.RowKit Go.Deep

/-! ### From the data that an argument reads as to the lists of the walks -/
section
variable {H : Type} {enc : TypeId × Value → H} {P : Program} {w : World} {base : Nat} {spare : Nat → Bool} {held : Bool}

theorem addr_of_cell {a : Addr} {v : Value} (h : w.cell? a = some v) : a = ⟨a.block, a.off, none⟩ := by
  obtain ⟨b, o, s⟩ := a
  cases s with
  | none => rfl
  | some x => simp [World.cell?] at h; split at h <;> simp at h

end

/-- the last step of a law's row: what is behind the call, below the call's own blocks, is as it was -/
theorem post_of_below {H : Type} {enc : TypeId × Value → H} {P : Program} {f : Func} {s : ChangeSpec} {apart fresh handsOn again : Bool} {W W' : World} {args : Array Value} {v : Value} {ds gs : List (DataW H)} {before pa pv : List MemPlace}
    (hW : DataW.Whole enc P f.params.toList s.vars apart W args.toList ds gs before)
    (hres : ∀ (b : Nat) (sp : Nat → Bool) (hd : Bool), DataW.TrodAll enc P W' b sp hd f.resultTypes.toList (v.resultList f.resultTypes.size) (s.fn H (ds ++ gs)).results [])
    (hargs : ∀ sp : Nat → Bool, (∀ p ∈ before, sp p.block = true) → DataW.TrodAll enc P W' 0 sp true f.params.toList args.toList (s.fn H (ds ++ gs)).args pa)
    (hvars : ∀ sp : Nat → Bool, (∀ p ∈ before, sp p.block = true) → DataW.TrodVars enc P W' sp s.vars (s.fn H (ds ++ gs)).vars pv)
    (hps : before = pa ++ pv) (hb : Below W.heap.size W W')
    (hok : ∀ (j : Nat) (t : TypeId) (r : Value), f.resultTypes[j]? = some t → (v.resultList f.resultTypes.size)[j]? = some r → Value.okWide P W' .any 0 t r) :
    s.post enc P f apart fresh handsOn again W args v W' := by
  have hlt : ∀ p ∈ before, p.block < W.heap.size := fun p hp => hW.lt p hp
  have hold : ∀ p ∈ before, (fun b => decide (b < W.heap.size)) p.block = true := fun p hp => by simpa using hlt p hp
  refine ⟨ds, gs, before, [], pa, pv, hW, hres _ _ _, hargs _ hold, hvars _ hold, World.keptBut_mono (fun p hp => ⟨hp, ?_⟩) (hb.frame (· ∈ before)), fun _ => ?_⟩
  · rw [hps, List.mem_append] at hp
    exact Or.inr hp
  · obtain ⟨_, _, _, _, _, hz, hn⟩ := hW
    refine ⟨hok, _, _, ([] ++ pa) ++ pv, ⟨[] ++ pa, pv, trodAll_append (hargs _ (fun _ _ => rfl)) (hres _ _ _), hvars _ (fun _ _ => rfl), rfl, ?_, ?_⟩, ?_⟩
    · intro b off hp
      have hin : MemPlace.cell b off ∈ before := by rw [hps]; simpa using hp
      rw [hb.frozen (hlt _ hin)]
      exact hz b off hin
    · intro ha
      have := hn ha
      rw [hps] at this
      simpa using this
    · intro p hp _
      rw [hps]
      simpa using hp

/-- an argument is read behind the call as it was ahead of it, whatever spare is asked for -/
theorem trod_behind {H : Type} {enc : TypeId × Value → H} {P : Program} {t : TypeId} (hl : laidOutB P = true) (hr : P.readableRec t = true) (hrow : t < P.types.size) {W W' : World} {v : Value} {d : DataW H} {ps : List MemPlace}
    (h : DataW.Trod enc P W 0 (fun _ => true) true t v d ps) (hb : Below W.heap.size W W') (hlt : ∀ x ∈ ps, x.block < W.heap.size) (sp : Nat → Bool) (hsp : ∀ x ∈ ps, sp x.block = true) :
    DataW.Trod enc P W' 0 sp true t v d ps :=
  WideElems.Trod_stays hl hr hrow h (fun x hx => hb.same (hlt x hx)) hsp
end Go.Proofs.Ytgcbnndbeoekgaa
end
section
namespace Go.Proofs.Ytgcbnndbeoekgaa
open Go.ChangeShapes Go.WideShapes Go.ChangeAt Go.RowKit Go.Deep

/-! ### Data within the form's reach: no slice, no string in it is longer than what can be read -/
section
variable {H : Type} {enc : TypeId × Value → H} {P : Program} {w : World} {base : Nat} {spare : Nat → Bool} {held : Bool}
def WtOK (P : Program) (t : TypeId) (d : DataW H) : Prop := ∀ n ∈ d.weights P t, n ≤ reachBytes
theorem weightsEach_at : ∀ (ts : List TypeId) (ds : List (DataW H)) (i : Nat) (t : TypeId) (d : DataW H), ts[i]? = some t → ds[i]? = some d → ∀ n ∈ d.weights P t, n ∈ DataW.weightsEach P ts ds := by
  intro ts
  induction ts with
  | nil => intro ds i t d h; simp at h
  | cons t0 ts ih =>
    intro ds i t d h1 h2 n hn
    cases ds with
    | nil => simp at h2
    | cons d0 ds =>
      unfold DataW.weightsEach
      cases i with
      | zero => simp at h1 h2; subst h1 h2; exact List.mem_append_left _ hn
      | succ i => exact List.mem_append_right _ (ih ds i t d (by simpa using h1) (by simpa using h2) n hn)
theorem weightsAll_at : ∀ (ds : List (DataW H)) (e : TypeId) (d : DataW H), d ∈ ds → ∀ n ∈ d.weights P e, n ∈ DataW.weightsAll P e ds := by
  intro ds
  induction ds with
  | nil => intro e d h; simp at h
  | cons d0 ds ih =>
    intro e d h n hn
    unfold DataW.weightsAll
    rcases List.mem_cons.1 h with rfl | h
    · exact List.mem_append_left _ hn
    · exact List.mem_append_right _ (ih e d h n hn)
theorem WtOK.args {ts : List TypeId} {ds : List (DataW H)} (h : (DataW.weightsEach P ts ds).all (· ≤ reachBytes) = true) {i : Nat} {t : TypeId} {d : DataW H} (h1 : ts[i]? = some t) (h2 : ds[i]? = some d) : WtOK P t d := fun n hn => by
  have := List.all_eq_true.1 h n (weightsEach_at ts ds i t d h1 h2 n hn)
  simpa using this
theorem WtOK.slice {t e : TypeId} {elems sp : List (DataW H)} (ht : P.underlying t = some (.slice e)) (h : WtOK P t (.slice elems sp)) : (elems.length + sp.length) * P.bytesOf e ≤ reachBytes ∧ ∀ d ∈ elems, WtOK P e d := by
  unfold WtOK DataW.weights at h
  rw [ht] at h
  exact ⟨h _ (by simp), fun d hd n hn => h n (by
    refine List.mem_cons_of_mem _ (List.mem_append_left _ (weightsAll_at elems e d hd n hn)))⟩
theorem WtOK.field {t : TypeId} {fs : Array Field} {parts : List (DataW H)} (ht : P.underlying t = some (.struct fs)) (h : WtOK P t (.agg parts)) {i : Nat} {f : Field} {d : DataW H} (hf : fs[i]? = some f) (hd : parts[i]? = some d) : WtOK P f.type d := by
  unfold WtOK DataW.weights at h
  rw [ht] at h
  intro n hn
  exact h n (weightsEach_at _ _ i f.type d (by simp [hf]) hd n hn)

theorem rowOf_trodW {α : Type} [Inhabited α] {size : Nat} {E : World → (Nat → Prop) → α → List Value → Prop} {Pr : α → Prop} {t e : TypeId} (ht : P.underlying t = some (.slice e)) (hC : P.cellsOf e = size) (hs : 0 < size)
    (hel : ∀ fuel cs (x : DataW H × List MemPlace), cs.length = size → DataW.trod enc P w base spare held fuel e cs = some x → WtOK P e x.1 → ∃ y : α, E w (· < w.heap.size) y cs ∧ Pr y)
    {fuel : Nat} {v : Value} {x : DataW H × List MemPlace} (h : DataW.trod enc P w base spare held fuel t [v] = some x) (hw : WtOK P t x.1) :
    ∃ l : List α, IsRow size E w (· < w.heap.size) v l ∧ (∀ y ∈ l, Pr y) ∧ l.length * P.bytesOf e ≤ reachBytes := by
  rcases open_slice ht h with ⟨hv, _⟩ | ⟨a, len, cap, m, n, D, Pl, hv, hb, hl, hm, hmm, hx, hi⟩
  · simp only [List.cons.injEq, and_true] at hv
    subst hv
    exact ⟨[], IsRow.nil, fun y hy => by simp at hy, by simp⟩
  · simp only [List.cons.injEq, and_true] at hv
    subst hv
    subst hx
    obtain ⟨hw1, hw2⟩ := hw.slice ht
    have hlm : len ≤ m := by rw [hmm]; split <;> omega
    obtain ⟨f, hf⟩ := choose_lt (n := len) (p := fun i (y : α) => Pr y ∧ ∃ cs, cs.length = size ∧ E w (· < w.heap.size) y cs ∧ ∀ j, j < size → w.cell? (a.add (i * size + j)) = cs[j]?) (fun i hil => by
      obtain ⟨cs, hc, ht'⟩ := hi i (by omega)
      obtain ⟨_, hcl, hat⟩ := World.cells?_some hc
      rw [hC] at hcl hat hc
      obtain ⟨y, hy, hp⟩ := hel n cs _ hcl ht' (hw2 _ (List.mem_map.2 ⟨i, List.mem_range.2 hil, rfl⟩))
      refine ⟨y, hp, cs, hcl, hy, fun j hj => ?_⟩
      rw [← Go.Deep.add_add]
      exact hat j hj)
    refine ⟨(List.range len).map f, ⟨some a, cap, by simp, by simpa using hl, hm, ?_, ?_⟩, ?_, ?_⟩
    · intro hne
      have h0 : 0 < len := by
        rcases Nat.eq_zero_or_pos len with h0 | h0
        · subst h0; simp at hne
        · exact h0
      obtain ⟨_, cs, hcl, _, hat⟩ := hf 0 h0
      have h1 := hat 0 hs
      rw [List.getElem?_eq_getElem (by omega)] at h1
      have ha0 : a.add (0 * size + 0) = a := by simp [Addr.add]
      rw [ha0] at h1
      exact ⟨a.block, a.off, by rw [← addr_of_cell h1], World.block_lt_of_cell? w a h1⟩
    · intro i hil
      have hil' : i < len := by simpa using hil
      obtain ⟨_, cs, hcl, hy, hat⟩ := hf i hil'
      refine ⟨cs, hcl, by simpa using hy, fun b off hA j hj => ?_⟩
      cases hA
      rw [← hat j hj, add_some, Nat.add_assoc]
    · intro y hy
      obtain ⟨i, hi', rfl⟩ := List.mem_map.1 hy
      exact (hf i (by simpa using hi')).1
    · have h1 : len * P.bytesOf e ≤ (((List.range len).map D).length + ((List.range (m - len)).map fun j => D (len + j)).length) * P.bytesOf e := Nat.mul_le_mul_right _ (by simp)
      have := Nat.le_trans h1 hw1
      simpa using this
theorem field_of_trodW {t : TypeId} {fs : Array Field} {fuel : Nat} {cs : List Value} {x : DataW H × List MemPlace} (ht : P.underlying t = some (.struct fs)) (h : DataW.trod enc P w base spare held fuel t cs = some x) (hw : WtOK P t x.1) (i : Nat) (f : Field) (hf : fs[i]? = some f) (hk : P.cellsOf f.type = 1) (ho : f.offset < cs.length) :
    ∃ n y, DataW.trod enc P w base spare held n f.type [cs[f.offset]] = some y ∧ WtOK P f.type y.1 := by
  obtain ⟨xs, n, _, hxx, _, hlen, hx⟩ := DataW.trod_struct ht h
  have hi : i < xs.length := by rw [hlen]; exact (Array.getElem?_eq_some_iff.1 hf).1
  have h1 := hx i f hf
  rw [hk, List.drop_eq_getElem_cons ho] at h1
  refine ⟨n, xs[i], by rw [List.getElem?_eq_getElem hi] at h1; exact h1, ?_⟩
  subst hxx
  exact hw.field ht hf (by simp [hi])
theorem wf_in {n : Int} (h : (Lit.int .i64 n).wf = true) : -9223372036854775808 ≤ n ∧ n ≤ 9223372036854775807 := by
  have h1 : IntKind.i64.min = -9223372036854775808 := by decide
  have h2 : IntKind.i64.max = 9223372036854775807 := by decide
  simp only [Lit.wf, Bool.and_eq_true, decide_eq_true_eq, h1, h2] at h
  exact h
end
end Go.Proofs.Ytgcbnndbeoekgaa
end
section
/- terms and bounds that are read as data -/
namespace Go.Proofs.Ytgcbnndbeoekgaa
open Go.ChangeShapes Go.WideShapes Go.ChangeAt Go.RowKit Go.Deep

instance : Inhabited TN := ⟨⟨0, ByteArray.empty, []⟩⟩
instance : Inhabited ABind := ⟨⟨0, []⟩⟩
/-- all of a node's texts, lists and numbers are Go's -/
def TNAll (t : TN) : Prop := t.name.size ≤ 9223372036854775807 ∧ InI t.var ∧ t.args.length ≤ 17592186044416
def TermAll (l : List TN) : Prop := (∀ t ∈ l, TNAll t) ∧ l.length ≤ 2932031007402
section
variable {H : Type} {enc : TypeId × Value → H} {w : World} {base : Nat} {spare : Nat → Bool} {held : Bool}
theorem int_trod15 (fuel : Nat) (cs : List Value) (x : DataW H × List MemPlace) (_hl : cs.length = 1) (h : DataW.trod enc Try.prog w base spare held fuel 3 cs = some x) (_hw : WtOK Try.prog 3 x.1) :
    ∃ y : Int, EInt w (· < w.heap.size) y cs ∧ InI y := by
  obtain ⟨n, e1, _, hn⟩ := DataW.trod_int Try.underlying3 h
  exact ⟨n, e1, wf_in hn⟩
theorem tn_trod (fuel : Nat) (cs : List Value) (x : DataW H × List MemPlace) (hl : cs.length = 3) (h : DataW.trod enc Try.prog w base spare held fuel 66 cs = some x) (hw : WtOK Try.prog 66 x.1) :
    ∃ y : TN, ETN w (· < w.heap.size) y cs ∧ TNAll y := by
  match cs, hl with
  | [c0, c1, c2], _ =>
    obtain ⟨_, _, k0, _⟩ := field_of_trodW Try.underlying66 h hw 0 _ rfl (by kernel_rfl) (by simp)
    obtain ⟨_, _, k1, _⟩ := field_of_trodW Try.underlying66 h hw 1 _ rfl (by kernel_rfl) (by simp)
    obtain ⟨_, _, k2, w2⟩ := field_of_trodW Try.underlying66 h hw 2 _ rfl (by kernel_rfl) (by simp)
    obtain ⟨n0, e0, _, h0⟩ := DataW.trod_int Try.underlying3 k0
    obtain ⟨s1, e1, _, h1⟩ := DataW.trod_string Try.underlying9 k1
    obtain ⟨l2, hl2, hp2, b2⟩ := rowOf_trodW Try.underlying64 (by kernel_rfl : Try.prog.cellsOf 3 = 1) (by omega) int_trod15 k2 w2
    rw [show Try.prog.bytesOf 3 = 8 from by kernel_rfl] at b2
    simp at e0 e1 hl2
    subst e0 e1
    unfold maxLen at h1
    unfold reachBytes at b2
    exact ⟨⟨n0, s1, l2⟩, ⟨_, rfl, hl2⟩, h1, wf_in h0, by show l2.length ≤ _; omega⟩
theorem nodes_trod (fuel : Nat) (v : Value) (x : DataW H × List MemPlace) (h : DataW.trod enc Try.prog w base spare held fuel 22 [v] = some x) (hw : WtOK Try.prog 22 x.1) :
    ∃ l : List TN, IsRow 3 ETN w (· < w.heap.size) v l ∧ TermAll l := by
  obtain ⟨l, hl, hp, b⟩ := rowOf_trodW Try.underlying22 (by kernel_rfl : Try.prog.cellsOf 66 = 3) (by omega) tn_trod h hw
  rw [show Try.prog.bytesOf 66 = 48 from by kernel_rfl] at b
  unfold reachBytes at b
  exact ⟨l, hl, hp, by omega⟩
theorem term_trod (fuel : Nat) (v : Value) (x : DataW H × List MemPlace) (h : DataW.trod enc Try.prog w base spare held fuel 24 [v] = some x) (hw : WtOK Try.prog 24 x.1) :
    ∃ l : List TN, IsRow 3 ETN w (· < w.heap.size) v l ∧ TermAll l := by
  obtain ⟨n, y, k0, w0⟩ := field_of_trodW Try.underlying24 h hw 0 _ rfl (by kernel_rfl) (by simp)
  exact nodes_trod n v y k0 w0
end
end Go.Proofs.Ytgcbnndbeoekgaa
end
section
/- two bounds that read alike are the same -/
namespace Go.Proofs.Ytgcbnndbeoekgaa
open Go Go.RowKit

set_option maxRecDepth 100000 in
set_option maxHeartbeats 4000000 in
theorem sameB_any (A A' : Option Addr) (c c' : Nat) (bd : List ABind) (w : World) (hr : RowOf 2 EBind w (fun b => b < w.heap.size) A bd) (hr' : RowOf 2 EBind w (fun b => b < w.heap.size) A' bd) (hc1 : bd.length ≤ c) (hc2 : c ≤ maxLen) :
    Calls Try.prog 16 #[.slice A bd.length c, .slice A' bd.length c'] w fun e w' => e = .returned (.bool true) ∧ Below w.heap.size w w' := by
  have HR := Lib.hid hr; have HR' := Lib.hid hr'
  have hll : bd.length ≤ 9223372036854775807 := by unfold maxLen at hc2; omega
  clear hr hr' hc1 hc2
  go_enter Try.func16, Try.ntmps16
  go_wp2
  go_loopg [5] bd.length (fun g s5 wx => ∃ i : Nat, s5 = .int .i64 i ∧ g = bd.length - i ∧ i ≤ bd.length ∧ Below w.heap.size w wx)
  case atStart => exact ⟨0, rfl, rfl, Nat.zero_le _, Below.refl _ _⟩
  case round =>
    obtain ⟨i, rfl, rfl, hi, hb⟩ := hrel
    have HB := Lib.hid hb
    have i0 : (0 : Int) ≤ i := by omega
    by_cases hlt : i < bd.length
    · have hlt' : (i : Int) < bd.length := by omega
      obtain ⟨b, off, S, k, rfl, hbF, d0, d1, hk1, hk2, hrow⟩ := bind_at HR.out hlt
      obtain ⟨b', off', S', k', rfl, hbF', d0', d1', hk1', hk2', hrow'⟩ := bind_at HR'.out hlt
      have d0 := (hb.cell (p := ⟨b, off + i * 2, none⟩) hbF).trans d0
      have d1 := (hb.cell (p := ⟨b, off + i * 2 + 1, none⟩) hbF).trans d1
      have d0' := (hb.cell (p := ⟨b', off' + i * 2, none⟩) hbF').trans d0'
      have d1' := (hb.cell (p := ⟨b', off' + i * 2 + 1, none⟩) hbF').trans d1'
      have HAL := Lib.hid (fun (w' : World) (hb : Below w.heap.size w w') => alike_any (.slice S bd[i].term.length k) (.slice S' bd[i].term.length k') bd[i].term w' ⟨S, k, rfl, hk1, hk2, hrow.keep ETN.stays (Keep.below hb fun _ h => h) (fun b h => Nat.lt_of_lt_of_le h hb.size)⟩ ⟨S', k', rfl, hk1', hk2', hrow'.keep ETN.stays (Keep.below hb fun _ h => h) (fun b h => Nat.lt_of_lt_of_le h hb.size)⟩)
      generalize bd[i].term.length = n at *
      generalize bd[i].hole = x at *
      have g0 : (x != x) = false := by simp
      clear hrow hrow' hk1 hk2 hk1' hk2' hb
      go_upto_region 6 with fail
      have k0 := cell_regrown (d0)
      have k1 := cell_regrown (d1)
      have k2 := cell_regrown (d0')
      have k3 := cell_regrown (d1')
      have CH := Lib.hid (fun (d : Nat) (os : Array Obj) => Calls.regrown_of (w := wr) (d := d) (os := os) (HAL.out _ (HB.out.trans ((below_regrown wr d os).mono HB.out.size))))
      refine wp_region_quiet_below (by kernel_rfl) (by kernel_rfl) ?_
      repeat (first | go_big_quiet_step (exact CH.out _ _) | quiet_step (exact CH.out _ _))
      refine wpQuiet_nil ?_
      intro _ hw'
      obtain ⟨⟨dq, osq⟩, hw''⟩ := hw'
      subst hw''
      have hbq := below_regrown wr dq osq
      have HB2 := Lib.hid (HB.out.trans (hbq.mono HB.out.size))
      clear hbq
      go_wp2
      go_roundg (bd.length - (i + 1))
      case measure => omega
      case rel => exact ⟨i + 1, by go_num, rfl, by omega, HB2.out⟩
    · have hlt' : ¬ (i : Int) < bd.length := by omega
      clear hb
      go_wp2
      go_ret
      exact ⟨rfl, HB.out⟩
end Go.Proofs.Ytgcbnndbeoekgaa
end
section
/- the law: both solve any pairs alike -/
namespace Go.Proofs.Ytgcbnndbeoekgaa
open Go Go.RowKit Go.Maps

set_option maxRecDepth 100000 in
set_option maxHeartbeats 8000000 in
theorem solves_any (v0 : Value) (ps : List (List TN × List TN)) (w : World) (hr0 : IsRow 2 EPair w (fun b => b < w.heap.size) v0 ps) (hz : ∀ p ∈ ps, TermAll p.1 ∧ TermAll p.2) :
    Calls Try.prog 6 #[v0] w fun e w' => e = .returned (.bool true) ∧ Below w.heap.size w w' := by
  obtain ⟨A, c, rfl, b1, b2, hr⟩ := hr0
  have HR := Lib.hid hr; have HZ := Lib.hid hz
  have HC : Hid (ps.length ≤ c ∧ c ≤ maxLen) := Lib.hid ⟨b1, b2⟩
  have HLB : Hid (∀ n ∈ pairLens ps 1000, n ≤ 140737488355328) := Lib.hid (fun n hn => by
    obtain ⟨p, hp, h⟩ := List.mem_flatMap.1 hn
    have hp := hz p (List.mem_of_mem_take hp)
    have h1 := hp.1.2; have h2 := hp.2.2
    simp only [List.mem_cons, List.not_mem_nil, or_false] at h
    rcases h with rfl | rfl <;> omega)
  have HLL : Hid ((pairLens ps 1000).length ≤ 4000) := Lib.hid (by have := pairLens_len ps 1000; omega)
  have HOF := Lib.hid (of_any A c ps w (fun b => b < w.heap.size) (fun b h => h) hr b1 b2)
  have HB := Lib.hid (Below.refl w.heap.size w)
  unfold maxLen at b2
  obtain ⟨n, hn⟩ : ∃ n, ps.length = n := ⟨_, rfl⟩
  have HN := Lib.hid hn
  rw [hn] at b1 HOF ⊢
  clear hr hz hn
  go_enter Try.func6, Try.ntmps6
  by_cases hbig : 4096 < n
  · have hbig' : ¬ (n : Int) ≤ 4096 := by omega
    have HT : Hid (Tried ps) := Lib.hid (fun h => by rw [HN.out] at h; omega)
    go_upto_region 3 with fail
    have HS := Lib.hid (usolve_any _ c ps w (fun b => b < w.heap.size) (fun b h => Nat.lt_of_lt_of_le h HB.out.size) (HR.out.keep EPair.stays (Keep.below HB.out (fun b h => h)) (fun _ h => h)) HC.out.1 HC.out.2 (fun p hp => ⟨fun t ht => ((HZ.out p hp).1.1 t ht).1, fun t ht => ((HZ.out p hp).2.1 t ht).1⟩) HT.out.few)
    rw [HN.out] at HS
    go_wp2_with fail
    refine HS.out.mono ?_
    rintro _ w5 ⟨err, at_, out, v, hsay, rfl, hrow, hb5⟩
    have HSAY := Lib.hid hsay
    have HB5 := Lib.hid (HB.out.trans (hb5.mono HB.out.size))
    have HRW : Hid (IsRow 2 EBind w5 (fun b => b < w5.heap.size) v out) := Lib.hid (hrow.keep EBind.stays (Keep.refl _ _) (fun b h => h.2))
    clear HS hsay hrow hb5
    have HS2 := Lib.hid (rsolve_any _ c ps w5 (fun b => b < w.heap.size) (fun b h => Nat.lt_of_lt_of_le h HB5.out.size) (HR.out.keep EPair.stays (Keep.below HB5.out (fun b h => h)) (fun _ h => h)) HC.out.1 HC.out.2 (fun p hp => ⟨fun t ht => ((HZ.out p hp).1.1 t ht).1, fun t ht => ((HZ.out p hp).2.1 t ht).1⟩) HT.out.soon)
    rw [HN.out] at HS2
    go_wp2_with fail
    refine HS2.out.mono ?_
    rintro _ w7 ⟨err', at', out', v', hsay, rfl, hrow, hb7⟩
    obtain ⟨he, ha, ho⟩ := hsay.same HSAY.out
    subst he; subst ha; subst ho
    have HB7 := Lib.hid (HB5.out.trans (hb7.mono HB5.out.size))
    obtain ⟨Ag, cg, rfl, z1, z2, z3⟩ := hrow
    obtain ⟨Ad, cd, rfl, y1, y2, y3⟩ := HRW.out
    have HSM := Lib.hid (sameB_any Ad Ag cd cg out' w7 (y3.keep EBind.stays (Keep.below hb7 (fun b h => h)) (fun b h => Nat.lt_of_lt_of_le h hb7.size)) (z3.keep EBind.stays (Keep.refl _ _) (fun b h => h.2)) y1 y2)
    clear HS2 hsay hb7 z1 z2 z3 y1 y2 y3 HSAY HRW HB5
    have g1 : (err' == err') = true := by simp
    have g2 : (at' == at') = true := by simp
    go_wp2_with fail
    refine HSM.out.mono ?_
    rintro _ w8 ⟨rfl, hb8⟩
    have HB8 := Lib.hid (HB7.out.trans (hb8.mono HB7.out.size))
    clear hb8 HSM
    go_wp2
    go_ret
    exact ⟨rfl, HB8.out⟩
  have hbig' : (n : Int) ≤ 4096 := by omega
  by_cases h100 : 100 < n
  · have h100' : (100 : Int) < n := by omega
    have HP0 : Hid (0 < ps.length) := Lib.hid (by rw [HN.out]; omega)
    obtain ⟨b, off, S1, k1, S2, k2, rfl, hbF, d0, d1, x1, x2⟩ := pair_at HR.out HP0.out
    obtain ⟨t1, ht1⟩ : ∃ q, (ps[0]'HP0.out).1.length = q := ⟨_, rfl⟩
    have HT1 := Lib.hid ht1
    rw [ht1] at d0
    simp only [Nat.zero_mul, Nat.add_zero] at d0
    clear ht1 d1 x1 x2
    by_cases h0 : 0 < t1
    · have h0' : (0 : Int) < t1 := by omega
      go_wp2_with fail
      go_ret
      exact ⟨rfl, HB.out⟩
    · have h0' : ¬ (0 : Int) < t1 := by omega
      go_wp2_with fail
      refine HOF.out.mono ?_
      rintro _ w1 ⟨v1, rfl, hv1, hb1⟩
      have HB1 := Lib.hid hb1
      have HV1 := Lib.hid (wide_any v1 (pairLens ps 1000) w1 _ hv1 HLB.out HLL.out)
      clear hv1 hb1 HOF HLB HLL
      by_cases hw : 400 < (pairLens ps 1000).sum
      · have HD : Hid (decide (400 < (pairLens ps 1000).sum) = true) := Lib.hid (decide_eq_true hw)
        rw [HD.out] at HV1
        clear hw
        go_wp2_with (go_at_call 10; refine HV1.out.mono ?_; rintro e w' ⟨rfl, rfl⟩)
        go_ret
        exact ⟨rfl, HB1.out⟩
      have HD : Hid (decide (400 < (pairLens ps 1000).sum) = false) := Lib.hid (decide_eq_false hw)
      rw [HD.out] at HV1
      have HT : Hid (Tried ps) := Lib.hid (fun _ => ⟨by omega, .inr fun _ => by rw [HT1.out]; omega⟩)
      clear hw
      go_upto_region 3 with (go_at_call 10; refine HV1.out.mono ?_; rintro e w' ⟨rfl, rfl⟩)
      clear HV1 HD
      have HS := Lib.hid (usolve_any _ c ps w1 (fun b => b < w.heap.size) (fun b h => Nat.lt_of_lt_of_le h HB1.out.size) (HR.out.keep EPair.stays (Keep.below HB1.out (fun b h => h)) (fun _ h => h)) HC.out.1 HC.out.2 (fun p hp => ⟨fun t ht => ((HZ.out p hp).1.1 t ht).1, fun t ht => ((HZ.out p hp).2.1 t ht).1⟩) HT.out.few)
      rw [HN.out] at HS
      go_wp2_with fail
      refine HS.out.mono ?_
      rintro _ w5 ⟨err, at_, out, v, hsay, rfl, hrow, hb5⟩
      have HSAY := Lib.hid hsay
      have HB5 := Lib.hid (HB1.out.trans (hb5.mono HB1.out.size))
      have HRW : Hid (IsRow 2 EBind w5 (fun b => b < w5.heap.size) v out) := Lib.hid (hrow.keep EBind.stays (Keep.refl _ _) (fun b h => h.2))
      clear HS hsay hrow hb5
      have HS2 := Lib.hid (rsolve_any _ c ps w5 (fun b => b < w.heap.size) (fun b h => Nat.lt_of_lt_of_le h HB5.out.size) (HR.out.keep EPair.stays (Keep.below HB5.out (fun b h => h)) (fun _ h => h)) HC.out.1 HC.out.2 (fun p hp => ⟨fun t ht => ((HZ.out p hp).1.1 t ht).1, fun t ht => ((HZ.out p hp).2.1 t ht).1⟩) HT.out.soon)
      rw [HN.out] at HS2
      go_wp2_with fail
      refine HS2.out.mono ?_
      rintro _ w7 ⟨err', at', out', v', hsay, rfl, hrow, hb7⟩
      obtain ⟨he, ha, ho⟩ := hsay.same HSAY.out
      subst he; subst ha; subst ho
      have HB7 := Lib.hid (HB5.out.trans (hb7.mono HB5.out.size))
      obtain ⟨Ag, cg, rfl, z1, z2, z3⟩ := hrow
      obtain ⟨Ad, cd, rfl, y1, y2, y3⟩ := HRW.out
      have HSM := Lib.hid (sameB_any Ad Ag cd cg out' w7 (y3.keep EBind.stays (Keep.below hb7 (fun b h => h)) (fun b h => Nat.lt_of_lt_of_le h hb7.size)) (z3.keep EBind.stays (Keep.refl _ _) (fun b h => h.2)) y1 y2)
      clear HS2 hsay hb7 z1 z2 z3 y1 y2 y3 HSAY HRW HB5
      have g1 : (err' == err') = true := by simp
      have g2 : (at' == at') = true := by simp
      go_wp2_with fail
      refine HSM.out.mono ?_
      rintro _ w8 ⟨rfl, hb8⟩
      have HB8 := Lib.hid (HB7.out.trans (hb8.mono HB7.out.size))
      clear hb8 HSM
      go_wp2
      go_ret
      exact ⟨rfl, HB8.out⟩
  · have h100' : ¬ (100 : Int) < n := by omega
    go_wp2_with fail
    refine HOF.out.mono ?_
    rintro _ w1 ⟨v1, rfl, hv1, hb1⟩
    have HB1 := Lib.hid hb1
    have HV1 := Lib.hid (wide_any v1 (pairLens ps 1000) w1 _ hv1 HLB.out HLL.out)
    clear hv1 hb1 HOF HLB HLL
    by_cases hw : 400 < (pairLens ps 1000).sum
    · have HD : Hid (decide (400 < (pairLens ps 1000).sum) = true) := Lib.hid (decide_eq_true hw)
      rw [HD.out] at HV1
      clear hw
      go_wp2_with (go_at_call 10; refine HV1.out.mono ?_; rintro e w' ⟨rfl, rfl⟩)
      go_ret
      exact ⟨rfl, HB1.out⟩
    have HD : Hid (decide (400 < (pairLens ps 1000).sum) = false) := Lib.hid (decide_eq_false hw)
    rw [HD.out] at HV1
    have HT : Hid (Tried ps) := Lib.hid (fun _ => ⟨by omega, .inl (by rw [HN.out]; omega)⟩)
    clear hw
    go_upto_region 3 with (go_at_call 10; refine HV1.out.mono ?_; rintro e w' ⟨rfl, rfl⟩)
    clear HV1 HD
    have HS := Lib.hid (usolve_any _ c ps w1 (fun b => b < w.heap.size) (fun b h => Nat.lt_of_lt_of_le h HB1.out.size) (HR.out.keep EPair.stays (Keep.below HB1.out (fun b h => h)) (fun _ h => h)) HC.out.1 HC.out.2 (fun p hp => ⟨fun t ht => ((HZ.out p hp).1.1 t ht).1, fun t ht => ((HZ.out p hp).2.1 t ht).1⟩) HT.out.few)
    rw [HN.out] at HS
    go_wp2_with fail
    refine HS.out.mono ?_
    rintro _ w5 ⟨err, at_, out, v, hsay, rfl, hrow, hb5⟩
    have HSAY := Lib.hid hsay
    have HB5 := Lib.hid (HB1.out.trans (hb5.mono HB1.out.size))
    have HRW : Hid (IsRow 2 EBind w5 (fun b => b < w5.heap.size) v out) := Lib.hid (hrow.keep EBind.stays (Keep.refl _ _) (fun b h => h.2))
    clear HS hsay hrow hb5
    have HS2 := Lib.hid (rsolve_any _ c ps w5 (fun b => b < w.heap.size) (fun b h => Nat.lt_of_lt_of_le h HB5.out.size) (HR.out.keep EPair.stays (Keep.below HB5.out (fun b h => h)) (fun _ h => h)) HC.out.1 HC.out.2 (fun p hp => ⟨fun t ht => ((HZ.out p hp).1.1 t ht).1, fun t ht => ((HZ.out p hp).2.1 t ht).1⟩) HT.out.soon)
    rw [HN.out] at HS2
    go_wp2_with fail
    refine HS2.out.mono ?_
    rintro _ w7 ⟨err', at', out', v', hsay, rfl, hrow, hb7⟩
    obtain ⟨he, ha, ho⟩ := hsay.same HSAY.out
    subst he; subst ha; subst ho
    have HB7 := Lib.hid (HB5.out.trans (hb7.mono HB5.out.size))
    obtain ⟨Ag, cg, rfl, z1, z2, z3⟩ := hrow
    obtain ⟨Ad, cd, rfl, y1, y2, y3⟩ := HRW.out
    have HSM := Lib.hid (sameB_any Ad Ag cd cg out' w7 (y3.keep EBind.stays (Keep.below hb7 (fun b h => h)) (fun b h => Nat.lt_of_lt_of_le h hb7.size)) (z3.keep EBind.stays (Keep.refl _ _) (fun b h => h.2)) y1 y2)
    clear HS2 hsay hb7 z1 z2 z3 y1 y2 y3 HSAY HRW HB5
    have g1 : (err' == err') = true := by simp
    have g2 : (at' == at') = true := by simp
    go_wp2_with fail
    refine HSM.out.mono ?_
    rintro _ w8 ⟨rfl, hb8⟩
    have HB8 := Lib.hid (HB7.out.trans (hb8.mono HB7.out.size))
    clear hb8 HSM
    go_wp2
    go_ret
    exact ⟨rfl, HB8.out⟩
end Go.Proofs.Ytgcbnndbeoekgaa
end
section
/- pairs of terms that are read as data -/
namespace Go.Proofs.Ytgcbnndbeoekgaa
open Go.ChangeShapes Go.WideShapes Go.ChangeAt Go.RowKit Go.Deep

section
variable {H : Type} {enc : TypeId × Value → H} {w : World} {base : Nat} {spare : Nat → Bool} {held : Bool}
theorem WtOK.array {P : Program} {t e : TypeId} {n : Nat} {parts : List (DataW H)} (ht : P.underlying t = some (.array n e)) (h : WtOK P t (.agg parts)) {d : DataW H} (hd : d ∈ parts) : WtOK P e d := by
  unfold WtOK DataW.weights at h
  rw [ht] at h
  exact fun n hn => h n (weightsAll_at parts e d hd n hn)
set_option maxRecDepth 100000 in
theorem pair_trod (fuel : Nat) (cs : List Value) (x : DataW H × List MemPlace) (hl : cs.length = 2) (h : DataW.trod enc Try.prog w base spare held fuel 53 cs = some x) (hw : WtOK Try.prog 53 x.1) :
    ∃ y : List TN × List TN, EPair w (· < w.heap.size) y cs ∧ TermAll y.1 ∧ TermAll y.2 := by
  match cs, hl with
  | [c0, c1], _ =>
    obtain ⟨xs, m, _, hx, _, hlen, hat⟩ := DataW.trod_array Try.underlying53 h
    subst hx
    have k0 := hat 0 (by omega)
    have k1 := hat 1 (by omega)
    rw [show Try.prog.cellsOf 24 = 1 from by kernel_rfl] at k0 k1
    have h0 : 0 < xs.length := by omega
    have h1 : 1 < xs.length := by omega
    rw [List.getElem?_eq_getElem h0] at k0
    rw [List.getElem?_eq_getElem h1] at k1
    obtain ⟨l0, a0, b0⟩ := term_trod m c0 _ k0 (hw.array Try.underlying53 (List.mem_map_of_mem (List.getElem_mem h0)))
    obtain ⟨l1, a1, b1⟩ := term_trod m c1 _ k1 (hw.array Try.underlying53 (List.mem_map_of_mem (List.getElem_mem h1)))
    exact ⟨(l0, l1), ⟨c0, c1, rfl, a0, a1⟩, b0, b1⟩
set_option maxRecDepth 100000 in
/-- pairs that are an argument -/
theorem pairs_arg {r : Go.Reach} {b0 : Nat} {v : Value} {d : DataW H} {ps : List MemPlace} (hval : Value.okWide Try.prog w r b0 52 v) (h : DataW.Trod enc Try.prog w base spare held 52 v d ps) (hw : WtOK Try.prog 52 d) :
    ∃ l : List (List TN × List TN), IsRow 2 EPair w (· < w.heap.size) v l ∧ ∀ y ∈ l, TermAll y.1 ∧ TermAll y.2 := by
  obtain ⟨a0, len, cap, rfl⟩ := okWide_slice Try.underlying52 hval
  obtain ⟨fuel, hf⟩ := h
  obtain ⟨l, hl, hp, _⟩ := rowOf_trodW Try.underlying52 (by kernel_rfl : Try.prog.cellsOf 53 = 2) (by omega) pair_trod (by simpa [Value.cells] using hf) hw
  exact ⟨l, hl, hp⟩
end
end Go.Proofs.Ytgcbnndbeoekgaa
end
section
/- PROVED: UnifySolves answers true for every input, and its argument reads afterwards as it read before. No condition. -/
namespace Go.Proofs.Ytgcbnndbeoekgaa
open Go.ChangeShapes Go.WideShapes Go.ChangeAt Go.RowKit Go.Deep

theorem Try.own : ownKnob Try.prog.godebug = none := by kernel_rfl
theorem Try.laidOut : laidOutB Try.prog = true := by kernel_rfl

set_option maxRecDepth 100000 in
theorem solves_lifted (os : Os) (started : os.Started) (H : Type) (enc : TypeId × Value → H) :
    ReturnsInHanded {} Try.checked os 6 .any (Rows.unifySolvesSpec.pre6 enc Try.prog Try.f6 Rows.unifySolvesRow.domain false) (Rows.unifySolvesSpec.post enc Try.prog Try.f6 false true false false) := by
  refine returnsInHanded_of_change_shaped (C := Try.checked) Try.own started (by kernel_rfl) Try.func6
    (ChangeSpec.witness6 (enc := enc) (C := Try.checked) false ⟨#[], #[.slice none 0 0], []⟩ 8 (by kernel_rfl) (by kernel_rfl) (by kernel_rfl) (by kernel_rfl)) ?_
  intro W base args ds gs before hval0 hW hcnd hwt _ _
  have hval : ∀ (j : Nat) t v, Try.f6.params[j]? = some t → args[j]? = some v → Value.okWide Try.prog W .any base t v := hval0
  have hW' := hW
  obtain ⟨p, q, hA0, hV, rfl, hfz, hnd⟩ := hW
  have hA : DataW.TrodAll enc Try.prog W 0 (fun _ => true) true Try.f6.params.toList args.toList ds p := hA0
  have hwt : (DataW.weightsEach Try.prog (Try.f6.params.toList ++ Rows.unifySolvesSpec.plain.varTypes Try.prog) (ds ++ gs)).all (· ≤ reachBytes) = true := hwt
  rw [Try.params6] at hA hval hwt
  obtain ⟨v0, d0, rfl, rfl, h0⟩ := trodAll_one hA
  obtain ⟨rfl, rfl⟩ := trodVars_none hV
  obtain ⟨l, hl, hzl⟩ := pairs_arg (hval 0 52 v0 rfl rfl) h0 (WtOK.args hwt (i := 0) rfl rfl)
  clear hA0 hval0
  simp only [List.append_nil] at hW'
  have hlt : ∀ x ∈ p, x.block < W.heap.size := fun x hx => hW'.lt x (by simpa using hx)
  refine (solves_any v0 l W hl hzl).mono fun e W' ⟨he, hbw⟩ => ?_
  subst he
  exact ⟨_, rfl, post_of_below (pa := p) (pv := []) hW' (fun _ _ _ => trodAll_mk1 (shut_bool Try.underlying4 _))
    (fun sp hsp => trodAll_mk1 (trod_behind Try.laidOut (by kernel_rfl) (of_decide_eq_true (by kernel_rfl)) h0 hbw (fun x hx => hlt x hx) sp (fun x hx => hsp x hx)))
    (fun _ _ => rfl) (by simp) hbw (ok_one (by kernel_rfl) rfl (okWide_bool_mk Try.underlying4 _))⟩

theorem unifySolves_holds : Rows.UnifySolvesSaid :=
  OpenClaim.holds_of_wide 6 Try.f6 rfl rfl rfl rfl rfl rfl rfl ⟨rfl, rfl, rfl, rfl, rfl⟩ rfl rfl rfl rfl rfl (by kernel_rfl) Try.func6 (by kernel_rfl)
    (of_decide_eq_true (by kernel_rfl)) (by unfold Func.isWrapper; rw [if_neg (of_decide_eq_false (by kernel_rfl))]; exact ⟨rfl, rfl⟩)
    (fun os started H enc _ => solves_lifted os started H enc)
#print axioms unifySolves_holds
end Go.Proofs.Ytgcbnndbeoekgaa
end
