import Derived.Test.YtpkapommekkbcaaDoorBase
import Derived.ProofKit
import Derived.Deep.Slices
import Derived.ChangeSame
import Derived.Test.YtpkapommekkbcaaDoorALentI
set_option linter.unusedSimpArgs false
set_option linter.unusedVariables false
section
namespace Go.Proofs.YtpkapommekkbcaaDoor
open Go.ChangeShapes Go.WideShapes Go.ChangeAt Go.RowKit Go.Deep

/-! ### From the data that an argument reads as to the lists of the walks -/
section
variable {H : Type} {enc : TypeId × Value → H} {P : Program} {w : World} {base : Nat} {spare : Nat → Bool} {held : Bool}

theorem addr_of_cell {a : Addr} {v : Value} (h : w.cell? a = some v) : a = ⟨a.block, a.off, none⟩ := by
  obtain ⟨b, o, s⟩ := a
  cases s with
  | none => rfl
  | some x => simp [World.cell?] at h; split at h <;> simp at h

end

/-- the last step of a law's row: what is behind the call, below the call's own blocks, is as it was -/
theorem post_of_below {H : Type} {enc : TypeId × Value → H} {P : Program} {f : Func} {s : ChangeSpec} {apart fresh handsOn again : Bool} {W W' : World} {args : Array Value} {v : Value} {ds gs : List (DataW H)} {before pa pv : List MemPlace}
    (hW : DataW.Whole enc P f.params.toList s.vars apart W args.toList ds gs before)
    (hres : ∀ (b : Nat) (sp : Nat → Bool) (hd : Bool), DataW.TrodAll enc P W' b sp hd f.resultTypes.toList (v.resultList f.resultTypes.size) (s.fn H (ds ++ gs)).results [])
    (hargs : ∀ sp : Nat → Bool, (∀ p ∈ before, sp p.block = true) → DataW.TrodAll enc P W' 0 sp true f.params.toList args.toList (s.fn H (ds ++ gs)).args pa)
    (hvars : ∀ sp : Nat → Bool, (∀ p ∈ before, sp p.block = true) → DataW.TrodVars enc P W' sp s.vars (s.fn H (ds ++ gs)).vars pv)
    (hps : before = pa ++ pv) (hb : Below W.heap.size W W')
    (hok : ∀ (j : Nat) (t : TypeId) (r : Value), f.resultTypes[j]? = some t → (v.resultList f.resultTypes.size)[j]? = some r → Value.okWide P W' .any 0 t r) :
    s.post enc P f apart fresh handsOn again W args v W' := by
  have hlt : ∀ p ∈ before, p.block < W.heap.size := fun p hp => hW.lt p hp
  have hold : ∀ p ∈ before, (fun b => decide (b < W.heap.size)) p.block = true := fun p hp => by simpa using hlt p hp
  refine ⟨ds, gs, before, [], pa, pv, hW, hres _ _ _, hargs _ hold, hvars _ hold, World.keptBut_mono (fun p hp => ⟨hp, ?_⟩) (hb.frame (· ∈ before)), fun _ => ?_⟩
  · rw [hps, List.mem_append] at hp
    exact Or.inr hp
  · obtain ⟨_, _, _, _, _, hz, hn⟩ := hW
    refine ⟨hok, _, _, ([] ++ pa) ++ pv, ⟨[] ++ pa, pv, trodAll_append (hargs _ (fun _ _ => rfl)) (hres _ _ _), hvars _ (fun _ _ => rfl), rfl, ?_, ?_⟩, ?_⟩
    · intro b off hp
      have hin : MemPlace.cell b off ∈ before := by rw [hps]; simpa using hp
      rw [hb.frozen (hlt _ hin)]
      exact hz b off hin
    · intro ha
      have := hn ha
      rw [hps] at this
      simpa using this
    · intro p hp _
      rw [hps]
      simpa using hp

/-- an argument is read behind the call as it was ahead of it, whatever spare is asked for -/
theorem trod_behind {H : Type} {enc : TypeId × Value → H} {P : Program} {t : TypeId} (hl : laidOutB P = true) (hr : P.readableRec t = true) (hrow : t < P.types.size) {W W' : World} {v : Value} {d : DataW H} {ps : List MemPlace}
    (h : DataW.Trod enc P W 0 (fun _ => true) true t v d ps) (hb : Below W.heap.size W W') (hlt : ∀ x ∈ ps, x.block < W.heap.size) (sp : Nat → Bool) (hsp : ∀ x ∈ ps, sp x.block = true) :
    DataW.Trod enc P W' 0 sp true t v d ps :=
  WideElems.Trod_stays hl hr hrow h (fun x hx => hb.same (hlt x hx)) hsp
end Go.Proofs.YtpkapommekkbcaaDoor
end
section
namespace Go.Proofs.YtpkapommekkbcaaDoor
open Go.ChangeShapes Go.WideShapes Go.ChangeAt Go.RowKit Go.Deep

/-! ### Data within the form's reach: no slice, no string in it is longer than what can be read -/
section
variable {H : Type} {enc : TypeId × Value → H} {P : Program} {w : World} {base : Nat} {spare : Nat → Bool} {held : Bool}
def WtOK (P : Program) (t : TypeId) (d : DataW H) : Prop := ∀ n ∈ d.weights P t, n ≤ reachBytes
theorem weightsEach_at : ∀ (ts : List TypeId) (ds : List (DataW H)) (i : Nat) (t : TypeId) (d : DataW H), ts[i]? = some t → ds[i]? = some d → ∀ n ∈ d.weights P t, n ∈ DataW.weightsEach P ts ds := by
  intro ts
  induction ts with
  | nil => intro ds i t d h; simp at h
  | cons t0 ts ih =>
    intro ds i t d h1 h2 n hn
    cases ds with
    | nil => simp at h2
    | cons d0 ds =>
      unfold DataW.weightsEach
      cases i with
      | zero => simp at h1 h2; subst h1 h2; exact List.mem_append_left _ hn
      | succ i => exact List.mem_append_right _ (ih ds i t d (by simpa using h1) (by simpa using h2) n hn)
theorem weightsAll_at : ∀ (ds : List (DataW H)) (e : TypeId) (d : DataW H), d ∈ ds → ∀ n ∈ d.weights P e, n ∈ DataW.weightsAll P e ds := by
  intro ds
  induction ds with
  | nil => intro e d h; simp at h
  | cons d0 ds ih =>
    intro e d h n hn
    unfold DataW.weightsAll
    rcases List.mem_cons.1 h with rfl | h
    · exact List.mem_append_left _ hn
    · exact List.mem_append_right _ (ih e d h n hn)
theorem WtOK.args {ts : List TypeId} {ds : List (DataW H)} (h : (DataW.weightsEach P ts ds).all (· ≤ reachBytes) = true) {i : Nat} {t : TypeId} {d : DataW H} (h1 : ts[i]? = some t) (h2 : ds[i]? = some d) : WtOK P t d := fun n hn => by
  have := List.all_eq_true.1 h n (weightsEach_at ts ds i t d h1 h2 n hn)
  simpa using this
theorem WtOK.slice {t e : TypeId} {elems sp : List (DataW H)} (ht : P.underlying t = some (.slice e)) (h : WtOK P t (.slice elems sp)) : (elems.length + sp.length) * P.bytesOf e ≤ reachBytes ∧ ∀ d ∈ elems, WtOK P e d := by
  unfold WtOK DataW.weights at h
  rw [ht] at h
  exact ⟨h _ (by simp), fun d hd n hn => h n (by
    refine List.mem_cons_of_mem _ (List.mem_append_left _ (weightsAll_at elems e d hd n hn)))⟩
theorem WtOK.field {t : TypeId} {fs : Array Field} {parts : List (DataW H)} (ht : P.underlying t = some (.struct fs)) (h : WtOK P t (.agg parts)) {i : Nat} {f : Field} {d : DataW H} (hf : fs[i]? = some f) (hd : parts[i]? = some d) : WtOK P f.type d := by
  unfold WtOK DataW.weights at h
  rw [ht] at h
  intro n hn
  exact h n (weightsEach_at _ _ i f.type d (by simp [hf]) hd n hn)

theorem rowOf_trodW {α : Type} [Inhabited α] {size : Nat} {E : World → (Nat → Prop) → α → List Value → Prop} {Pr : α → Prop} {t e : TypeId} (ht : P.underlying t = some (.slice e)) (hC : P.cellsOf e = size) (hs : 0 < size)
    (hel : ∀ fuel cs (x : DataW H × List MemPlace), cs.length = size → DataW.trod enc P w base spare held fuel e cs = some x → WtOK P e x.1 → ∃ y : α, E w (· < w.heap.size) y cs ∧ Pr y)
    {fuel : Nat} {v : Value} {x : DataW H × List MemPlace} (h : DataW.trod enc P w base spare held fuel t [v] = some x) (hw : WtOK P t x.1) :
    ∃ l : List α, IsRow size E w (· < w.heap.size) v l ∧ (∀ y ∈ l, Pr y) ∧ l.length * P.bytesOf e ≤ reachBytes := by
  rcases open_slice ht h with ⟨hv, _⟩ | ⟨a, len, cap, m, n, D, Pl, hv, hb, hl, hm, hmm, hx, hi⟩
  · simp only [List.cons.injEq, and_true] at hv
    subst hv
    exact ⟨[], IsRow.nil, fun y hy => by simp at hy, by simp⟩
  · simp only [List.cons.injEq, and_true] at hv
    subst hv
    subst hx
    obtain ⟨hw1, hw2⟩ := hw.slice ht
    have hlm : len ≤ m := by rw [hmm]; split <;> omega
    obtain ⟨f, hf⟩ := choose_lt (n := len) (p := fun i (y : α) => Pr y ∧ ∃ cs, cs.length = size ∧ E w (· < w.heap.size) y cs ∧ ∀ j, j < size → w.cell? (a.add (i * size + j)) = cs[j]?) (fun i hil => by
      obtain ⟨cs, hc, ht'⟩ := hi i (by omega)
      obtain ⟨_, hcl, hat⟩ := World.cells?_some hc
      rw [hC] at hcl hat hc
      obtain ⟨y, hy, hp⟩ := hel n cs _ hcl ht' (hw2 _ (List.mem_map.2 ⟨i, List.mem_range.2 hil, rfl⟩))
      refine ⟨y, hp, cs, hcl, hy, fun j hj => ?_⟩
      rw [← Go.Deep.add_add]
      exact hat j hj)
    refine ⟨(List.range len).map f, ⟨some a, cap, by simp, by simpa using hl, hm, ?_, ?_⟩, ?_, ?_⟩
    · intro hne
      have h0 : 0 < len := by
        rcases Nat.eq_zero_or_pos len with h0 | h0
        · subst h0; simp at hne
        · exact h0
      obtain ⟨_, cs, hcl, _, hat⟩ := hf 0 h0
      have h1 := hat 0 hs
      rw [List.getElem?_eq_getElem (by omega)] at h1
      have ha0 : a.add (0 * size + 0) = a := by simp [Addr.add]
      rw [ha0] at h1
      exact ⟨a.block, a.off, by rw [← addr_of_cell h1], World.block_lt_of_cell? w a h1⟩
    · intro i hil
      have hil' : i < len := by simpa using hil
      obtain ⟨_, cs, hcl, hy, hat⟩ := hf i hil'
      refine ⟨cs, hcl, by simpa using hy, fun b off hA j hj => ?_⟩
      cases hA
      rw [← hat j hj, add_some, Nat.add_assoc]
    · intro y hy
      obtain ⟨i, hi', rfl⟩ := List.mem_map.1 hy
      exact (hf i (by simpa using hi')).1
    · have h1 : len * P.bytesOf e ≤ (((List.range len).map D).length + ((List.range (m - len)).map fun j => D (len + j)).length) * P.bytesOf e := Nat.mul_le_mul_right _ (by simp)
      have := Nat.le_trans h1 hw1
      simpa using this
theorem field_of_trodW {t : TypeId} {fs : Array Field} {fuel : Nat} {cs : List Value} {x : DataW H × List MemPlace} (ht : P.underlying t = some (.struct fs)) (h : DataW.trod enc P w base spare held fuel t cs = some x) (hw : WtOK P t x.1) (i : Nat) (f : Field) (hf : fs[i]? = some f) (hk : P.cellsOf f.type = 1) (ho : f.offset < cs.length) :
    ∃ n y, DataW.trod enc P w base spare held n f.type [cs[f.offset]] = some y ∧ WtOK P f.type y.1 := by
  obtain ⟨xs, n, _, hxx, _, hlen, hx⟩ := DataW.trod_struct ht h
  have hi : i < xs.length := by rw [hlen]; exact (Array.getElem?_eq_some_iff.1 hf).1
  have h1 := hx i f hf
  rw [hk, List.drop_eq_getElem_cons ho] at h1
  refine ⟨n, xs[i], by rw [List.getElem?_eq_getElem hi] at h1; exact h1, ?_⟩
  subst hxx
  exact hw.field ht hf (by simp [hi])
theorem wf_in {n : Int} (h : (Lit.int .i64 n).wf = true) : -9223372036854775808 ≤ n ∧ n ≤ 9223372036854775807 := by
  have h1 : IntKind.i64.min = -9223372036854775808 := by decide
  have h2 : IntKind.i64.max = 9223372036854775807 := by decide
  simp only [Lit.wf, Bool.and_eq_true, decide_eq_true_eq, h1, h2] at h
  exact h
end
end Go.Proofs.YtpkapommekkbcaaDoor
end
section
namespace Go.Proofs.YtpkapommekkbcaaDoor
open Go.ChangeShapes Go.WideShapes Go.ChangeAt Go.RowKit Go.Deep

instance : Inhabited AProp := ⟨⟨ByteArray.empty, ByteArray.empty⟩⟩
instance : Inhabited ARef := ⟨⟨ByteArray.empty, 0⟩⟩
instance : Inhabited ANode := ⟨⟨0, ByteArray.empty, 0, ByteArray.empty, [], [], []⟩⟩
section
variable {H : Type} {enc : TypeId × Value → H} {w : World} {base : Nat} {spare : Nat → Bool} {held : Bool}
theorem prop_trod (fuel : Nat) (cs : List Value) (x : DataW H × List MemPlace) (hl : cs.length = 2) (h : DataW.trod enc Tryd.prog w base spare held fuel 57 cs = some x) (hw : WtOK Tryd.prog 57 x.1) :
    ∃ y : AProp, EProp w (· < w.heap.size) y cs ∧ (y.name.size ≤ 9223372036854775807 ∧ y.value.size ≤ 9223372036854775807) := by
  match cs, hl with
  | [c0, c1], _ =>
    obtain ⟨_, _, k0, _⟩ := field_of_trodW Tryd.underlying57 h hw 0 _ rfl (by kernel_rfl) (by simp)
    obtain ⟨_, _, k1, _⟩ := field_of_trodW Tryd.underlying57 h hw 1 _ rfl (by kernel_rfl) (by simp)
    obtain ⟨s, e0, _, hs⟩ := DataW.trod_string Tryd.underlying9 k0
    obtain ⟨s', e1, _, hs'⟩ := DataW.trod_string Tryd.underlying9 k1
    simp at e0 e1
    subst e0 e1
    exact ⟨⟨s, s'⟩, rfl, by unfold maxLen at hs; exact hs, by unfold maxLen at hs'; exact hs'⟩
theorem ref_trod (fuel : Nat) (cs : List Value) (x : DataW H × List MemPlace) (hl : cs.length = 2) (h : DataW.trod enc Tryd.prog w base spare held fuel 60 cs = some x) (hw : WtOK Tryd.prog 60 x.1) :
    ∃ y : ARef, ERef w (· < w.heap.size) y cs ∧ (y.role.size ≤ 9223372036854775807 ∧ InR y.target) := by
  match cs, hl with
  | [c0, c1], _ =>
    obtain ⟨_, _, k0, _⟩ := field_of_trodW Tryd.underlying60 h hw 0 _ rfl (by kernel_rfl) (by simp)
    obtain ⟨_, _, k1, _⟩ := field_of_trodW Tryd.underlying60 h hw 1 _ rfl (by kernel_rfl) (by simp)
    obtain ⟨s, e0, _, hs⟩ := DataW.trod_string Tryd.underlying9 k0
    obtain ⟨n, e1, _, hn⟩ := DataW.trod_int Tryd.underlying3 k1
    simp at e0 e1
    subst e0 e1
    exact ⟨⟨s, n⟩, rfl, by unfold maxLen at hs; exact hs, wf_in hn⟩
theorem int_trod (fuel : Nat) (cs : List Value) (x : DataW H × List MemPlace) (_hl : cs.length = 1) (h : DataW.trod enc Tryd.prog w base spare held fuel 3 cs = some x) (_hw : WtOK Tryd.prog 3 x.1) :
    ∃ y : Int, EInt w (· < w.heap.size) y cs ∧ InR y := by
  obtain ⟨n, e1, _, hn⟩ := DataW.trod_int Tryd.underlying3 h
  exact ⟨n, e1, wf_in hn⟩
/-- all of a node's texts, lists and numbers are Go's -/
def NodeAll (x : ANode) : Prop := NodeOK x ∧ LensOK x ∧ InR x.id ∧ ∀ r ∈ x.refs, InR r.target
theorem node_trod (fuel : Nat) (cs : List Value) (x : DataW H × List MemPlace) (hl : cs.length = 7) (h : DataW.trod enc Tryd.prog w base spare held fuel 37 cs = some x) (hw : WtOK Tryd.prog 37 x.1) :
    ∃ y : ANode, ENode w (· < w.heap.size) y cs ∧ NodeAll y := by
  match cs, hl with
  | [c0, c1, c2, c3, c4, c5, c6], _ =>
    obtain ⟨_, _, k0, _⟩ := field_of_trodW Tryd.underlying37 h hw 0 _ rfl (by kernel_rfl) (by simp)
    obtain ⟨_, _, k1, _⟩ := field_of_trodW Tryd.underlying37 h hw 1 _ rfl (by kernel_rfl) (by simp)
    obtain ⟨_, _, k2, _⟩ := field_of_trodW Tryd.underlying37 h hw 2 _ rfl (by kernel_rfl) (by simp)
    obtain ⟨_, _, k3, _⟩ := field_of_trodW Tryd.underlying37 h hw 3 _ rfl (by kernel_rfl) (by simp)
    obtain ⟨_, _, k4, w4⟩ := field_of_trodW Tryd.underlying37 h hw 4 _ rfl (by kernel_rfl) (by simp)
    obtain ⟨_, _, k5, w5⟩ := field_of_trodW Tryd.underlying37 h hw 5 _ rfl (by kernel_rfl) (by simp)
    obtain ⟨_, _, k6, w6⟩ := field_of_trodW Tryd.underlying37 h hw 6 _ rfl (by kernel_rfl) (by simp)
    obtain ⟨n0, e0, _, h0⟩ := DataW.trod_int Tryd.underlying3 k0
    obtain ⟨s1, e1, _, h1⟩ := DataW.trod_string Tryd.underlying9 k1
    obtain ⟨n2, e2, _, h2⟩ := DataW.trod_int Tryd.underlying3 k2
    obtain ⟨s3, e3, _, h3⟩ := DataW.trod_string Tryd.underlying9 k3
    obtain ⟨l4, hl4, hp4, b4⟩ := rowOf_trodW Tryd.underlying33 (by kernel_rfl : Tryd.prog.cellsOf 57 = 2) (by omega) prop_trod k4 w4
    obtain ⟨l5, hl5, hp5, b5⟩ := rowOf_trodW Tryd.underlying34 (by kernel_rfl : Tryd.prog.cellsOf 3 = 1) (by omega) int_trod k5 w5
    obtain ⟨l6, hl6, hp6, b6⟩ := rowOf_trodW Tryd.underlying35 (by kernel_rfl : Tryd.prog.cellsOf 60 = 2) (by omega) ref_trod k6 w6
    rw [show Tryd.prog.bytesOf 57 = 32 from by kernel_rfl] at b4
    rw [show Tryd.prog.bytesOf 3 = 8 from by kernel_rfl] at b5
    rw [show Tryd.prog.bytesOf 60 = 24 from by kernel_rfl] at b6
    simp at e0 e1 e2 e3 hl4 hl5 hl6
    subst e0 e1 e2 e3
    unfold maxLen at h1 h3
    unfold reachBytes at b4 b5 b6
    exact ⟨⟨n0, s1, n2, s3, l4, l5, l6⟩, ⟨_, _, _, rfl, hl4, hl5, hl6⟩, ⟨⟨h1, h3, hp4, fun r hr => (hp6 r hr).1⟩, wf_in h2, hp5⟩, ⟨b4, b5, b6⟩, wf_in h0, fun r hr => (hp6 r hr).2⟩
/-- a model that is read as data -/
theorem model_trod {v : Value} {x : DataW H × List MemPlace} {fuel : Nat} {cs : List Value} (hv : cs.length = 2) (h : DataW.trod enc Tryd.prog w base spare held fuel 24 cs = some x) (hw : WtOK Tryd.prog 24 x.1) (he : v = .agg cs.toArray) :
    ∃ m : AModel, IsModel w (· < w.heap.size) v m ∧ (∀ y ∈ m.nodes, NodeAll y) ∧ InR m.next := by
  match cs, hv with
  | [c0, c1], _ =>
    obtain ⟨_, _, k0, _⟩ := field_of_trodW Tryd.underlying24 h hw 0 _ rfl (by kernel_rfl) (by simp)
    obtain ⟨_, _, k1, w1⟩ := field_of_trodW Tryd.underlying24 h hw 1 _ rfl (by kernel_rfl) (by simp)
    obtain ⟨n0, e0, _, h0⟩ := DataW.trod_int Tryd.underlying3 k0
    obtain ⟨l, hl, hp, _⟩ := rowOf_trodW Tryd.underlying22 (by kernel_rfl : Tryd.prog.cellsOf 37 = 7) (by omega) node_trod k1 w1
    simp at e0 hl
    subst e0
    exact ⟨⟨n0, l⟩, ⟨c1, by rw [he], hl⟩, hp, wf_in h0⟩
theorem arr_two {α : Type} {xs : Array α} (h : xs.size = 2) : ∃ a b, xs = #[a, b] := by
  obtain ⟨l⟩ := xs
  match l, h with
  | [a, b], _ => exact ⟨a, b, rfl⟩
set_option maxRecDepth 100000 in
/-- a model that is an argument -/
theorem model_arg {r : Reach} {b0 : Nat} {v : Value} {d : DataW H} {ps : List MemPlace} (hval : Value.okWide Tryd.prog w r b0 24 v) (h : DataW.Trod enc Tryd.prog w base spare held 24 v d ps) (hw : WtOK Tryd.prog 24 d) :
    ∃ m : AModel, IsModel w (· < w.heap.size) v m ∧ (∀ y ∈ m.nodes, NodeAll y) ∧ InR m.next := by
  obtain ⟨cs, rfl, hsz⟩ := okWide_struct Tryd.underlying24 hval
  have hsz2 := hsz.trans (by kernel_rfl : Tryd.prog.cellsOf 24 = 2)
  obtain ⟨c0, c1, rfl⟩ := arr_two hsz2
  obtain ⟨fuel, hf⟩ := h
  exact model_trod (cs := [c0, c1]) rfl (by simpa [Value.cells] using hf) hw rfl
end
end Go.Proofs.YtpkapommekkbcaaDoor
end
