import Derived.Test.YtgcbnndbeoekgaaDoorBoundP
import Derived.Test.YtgcbnndbeoekgaaDoorNFP
import Derived.Test.YtgcbnndbeoekgaaDoorLayP
import Derived.Test.YtgcbnndbeoekgaaDoorUBound
import Derived.Test.YtgcbnndbeoekgaaDoorUMeet
import Derived.Test.YtgcbnndbeoekgaaDoorULay
set_option linter.unusedSimpArgs false
set_option linter.unusedVariables false
section
/- the document's web, its classes and what is told of them: in plain Lean -/
namespace Go.Proofs.YtgcbnndbeoekgaaDoor
open Go Go.RowKit Go.Maps

def ndT (t : TN) : Nd := if 0 < t.var then .hole t.var.toNat else .app t.name (t.args.map Int.toNat)
def shiftT (o : Nat) (t : TN) : TN := { t with args := t.args.map fun a => (o : Int) + a }
def rOf (cl : List Nat) (i : Nat) : Nat := cl.getD i i
theorem rOf_at {cl : List Nat} {i : Nat} (h : i < cl.length) : rOf cl i = cl[i] := by unfold rOf; simp [List.getD_eq_getElem?_getD, h]
theorem rOf_out {cl : List Nat} {i : Nat} (h : cl.length ≤ i) : rOf cl i = i := by unfold rOf; simp [List.getD_eq_getElem?_getD, List.getElem?_eq_none h]
/-- nodes as they lie in the web -/
structure NodeW (n : Nat) (t : TN) : Prop where
  var : 0 ≤ t.var ∧ t.var ≤ 2147483647
  few : t.args.length ≤ 256
  hole : 0 < t.var → t.args = []
  args : ∀ a ∈ t.args, 0 ≤ a ∧ a < n
structure RW (W : WebT) (E : List (Fo × Fo)) (ns : List TN) (cl : List Nat) : Prop where
  n : W.n = ns.length
  cn : cl.length = ns.length
  nd : ∀ i (h : i < ns.length), W.nd i = ndT ns[i]
  node : ∀ t ∈ ns, NodeW ns.length t
  ok : W.OK
  lt : ∀ i, i < ns.length → rOf cl i < ns.length
  idem : ∀ i, i < ns.length → rOf cl (rOf cl i) = rOf cl i
  sound : Sound W (rOf cl) E
/-- nothing yet -/
def webNil0 : WebT := ⟨0, fun _ => .hole 0, fun _ => .nil⟩
theorem RW.nil (E : List (Fo × Fo)) : RW webNil0 E [] [] where
  n := rfl
  cn := rfl
  nd := fun i h => absurd h (Nat.not_lt_zero _)
  node := fun t h => by cases h
  ok := ⟨fun i h hi => absurd hi (Nat.not_lt_zero _), fun i nm ks hi => absurd hi (Nat.not_lt_zero _)⟩
  lt := fun i h => absurd h (Nat.not_lt_zero _)
  idem := fun i h => absurd h (Nat.not_lt_zero _)
  sound := fun θ _ i j hi => absurd hi (Nat.not_lt_zero _)
theorem flat_args : ∀ (F : Fo) (o : Nat), ∀ t ∈ F.flat o, t.args.length ≤ F.size
  | .nil, _, t, h => by cases h
  | .hole n r, o, t, h => by
    have hs : (Fo.hole n r).size = 1 + r.size := rfl
    rcases List.mem_cons.1 h with e | e
    · rw [e]; simp
    · have := flat_args r (o + 1) t e; omega
  | .app nm k r, o, t, h => by
    have hs : (Fo.app nm k r).size = 1 + k.size + r.size := rfl
    rcases List.mem_cons.1 h with e | e
    · rw [e]; show (k.offs (o + 1)).length ≤ _; rw [Fo.offs_len]; have := Fo.cnt_size k; omega
    · rcases List.mem_append.1 e with e | e
      · have := flat_args k (o + 1) t e; omega
      · have := flat_args r (o + 1 + k.size) t e; omega
theorem flat_var : ∀ (F : Fo) (o : Nat), F.wf → ∀ t ∈ F.flat o, 0 ≤ t.var ∧ t.var ≤ 2147483647
  | .nil, _, _, t, h => by cases h
  | .hole n r, o, hw, t, h => by
    rcases List.mem_cons.1 h with e | e
    · have := hw.2.1; rw [e]; show (0 : Int) ≤ (n : Int) ∧ (n : Int) ≤ 2147483647; omega
    · exact flat_var r (o + 1) hw.2.2 t e
  | .app nm k r, o, hw, t, h => by
    rcases List.mem_cons.1 h with e | e
    · rw [e]; show (0 : Int) ≤ 0 ∧ (0 : Int) ≤ 2147483647; omega
    · rcases List.mem_append.1 e with e | e
      · exact flat_var k (o + 1) hw.2.1 t e
      · exact flat_var r (o + 1 + k.size) hw.2.2 t e
section
variable {W : WebT} {E : List (Fo × Fo)} {ns : List TN} {cl : List Nat}
theorem RW.more (h : RW W E ns cl) (F : List (Fo × Fo)) : RW W (E ++ F) ns cl := { h with sound := fun θ hθ => h.sound θ (sat_more hθ) }
theorem RW.rlt (h : RW W E ns cl) {i : Nat} (hi : i < W.n) : rOf cl i < W.n := by rw [h.n] at hi ⊢; exact h.lt i hi
/-- the classes of the nodes that are laid -/
def layC (cl : List Nat) (n k : Nat) : List Nat := cl ++ List.range' n k
theorem rOf_lay_old {n k i : Nat} (hc : cl.length = n) (hi : i < n) : rOf (layC cl n k) i = rOf cl i := by
  rw [rOf_at (show i < (layC cl n k).length by unfold layC; simp; omega), rOf_at (show i < cl.length by omega)]
  unfold layC
  rw [List.getElem_append_left (by omega)]
theorem rOf_lay_new {n k i : Nat} (hc : cl.length = n) (hi : n ≤ i) : rOf (layC cl n k) i = i := by
  by_cases h : i < n + k
  · rw [rOf_at (show i < (layC cl n k).length by unfold layC; simp; omega)]
    unfold layC
    rw [List.getElem_append_right (by omega)]
    simp
    omega
  · exact rOf_out (by unfold layC; simp; omega)
theorem RW.lay (h : RW W E ns cl) {T : Fo} (h1 : T.one) (hw : T.wf) (hs : T.size ≤ 256) : ∃ W', RW W' E (ns ++ (T.flat 0).map (shiftT ns.length)) (layC cl ns.length T.size) ∧ (∀ i, i < W.n → W'.tr i = W.tr i) ∧ W'.tr ns.length = T ∧ W'.n = ns.length + T.size ∧ ∀ F, Meets W (rOf cl) F → Meets W' (rOf (layC cl ns.length T.size)) F := by
  obtain ⟨tr, ht, ht0⟩ := tree_trees h1 hw
  obtain ⟨m, hm⟩ : ∃ m, m = ns.length := ⟨_, rfl⟩
  obtain ⟨ns', hns'⟩ : ∃ q, q = ns ++ (T.flat 0).map (shiftT ns.length) := ⟨_, rfl⟩
  have hl' : ns'.length = m + T.size := by rw [hns']; simp [Fo.flat_len, hm]
  have hold : ∀ i (h' : i < ns'.length) (hi : i < ns.length), ns'[i] = ns[i] := fun i h' hi => by simp only [hns']; rw [List.getElem_append_left hi]
  have hnew : ∀ j (hj : j < (T.flat 0).length) (h' : m + j < ns'.length), ns'[m + j] = shiftT m (T.flat 0)[j] := fun j hj h' => by simp only [hns']; rw [List.getElem_append_right (by omega)]; simp [hm]
  rw [← hns', ← hm]
  let W' : WebT := ⟨m + T.size, fun i => if h : i < ns'.length then ndT ns'[i] else .hole 0, fun i => if i < m then W.tr i else tr (i - m)⟩
  have hnd : ∀ i (h' : i < ns'.length), W'.nd i = ndT ns'[i] := fun i h' => dif_pos h'
  have hWn : W.n = m := by rw [h.n, hm]
  have trO : ∀ i, i < m → W'.tr i = W.tr i := fun i hi => if_pos hi
  have trN : ∀ j, W'.tr (m + j) = tr j := fun j => by show (if m + j < m then _ else tr (m + j - m)) = _; rw [if_neg (by omega), Nat.add_sub_cancel_left]
  have ndO : ∀ i, i < m → W'.nd i = W.nd i := fun i hi => by rw [hnd i (by omega), h.nd i (by omega), hold i (by omega) (by omega)]
  have at_ := fun j hj => by have := ht.at_ j hj; rw [Nat.zero_add] at this; exact this
  have hok : W'.OK := by
    refine ⟨fun i x hi e => ?_, fun i nm ks hi e => ?_⟩
    · by_cases hi2 : i < m
      · rw [ndO i hi2] at e; rw [trO i hi2]; exact h.ok.hole i x (by omega) e
      · obtain ⟨j, rfl⟩ : ∃ j, i = m + j := ⟨i - m, by omega⟩
        have hi : m + j < m + T.size := hi
        have hj : j < (T.flat 0).length := by rw [Fo.flat_len]; omega
        rw [hnd _ (by omega), hnew j hj (by omega)] at e
        rw [trN]
        rcases at_ j hj with ⟨n, a1, a2, a3⟩ | ⟨nm, ks, a1, a2, a3⟩
        · rw [a2] at e
          have e : ndT ⟨(n : Int), ByteArray.empty, []⟩ = .hole x := e
          unfold ndT at e
          rw [if_pos (show (0 : Int) < (n : Int) by omega)] at e
          injection e with e
          have e : n = x := by simpa using e
          rw [← e]; exact ⟨a1, a3⟩
        · rw [a1] at e
          have e : ndT ⟨0, nm, _⟩ = .hole x := e
          unfold ndT at e
          rw [if_neg (by simp)] at e
          cases e
    · by_cases hi2 : i < m
      · rw [ndO i hi2] at e
        obtain ⟨b1, b2⟩ := h.ok.app i nm ks (by omega) e
        refine ⟨fun a ha => by have := b1 a ha; show a < m + T.size; omega, ?_⟩
        rw [trO i hi2, b2]
        congr 2
        exact (List.map_congr_left fun a ha => trO a (by have := b1 a ha; omega)).symm
      · obtain ⟨j, rfl⟩ : ∃ j, i = m + j := ⟨i - m, by omega⟩
        have hi : m + j < m + T.size := hi
        have hj : j < (T.flat 0).length := by rw [Fo.flat_len]; omega
        rw [hnd _ (by omega), hnew j hj (by omega)] at e
        rcases at_ j hj with ⟨n, a1, a2, a3⟩ | ⟨nm', bs, a1, a2, a3⟩
        · rw [a2] at e
          have e : ndT ⟨(n : Int), ByteArray.empty, []⟩ = .app nm ks := e
          unfold ndT at e
          rw [if_pos (show (0 : Int) < (n : Int) by omega)] at e
          cases e
        · rw [a1] at e
          have e : ndT ⟨0, nm', (bs.map fun a : Nat => (a : Int)).map fun a => (m : Int) + a⟩ = .app nm ks := e
          unfold ndT at e
          rw [if_neg (by simp)] at e
          injection e with e1 e2
          have e2 : ks = bs.map fun a => m + a := by
            rw [← e2]
            simp only [List.map_map]
            exact List.map_congr_left fun a _ => by show ((m : Int) + (a : Int)).toNat = m + a; omega
          refine ⟨fun a ha => ?_, ?_⟩
          · rw [e2] at ha
            obtain ⟨b, hb, rfl⟩ := List.mem_map.1 ha
            have := a3 b hb
            show m + b < m + T.size
            omega
          · rw [trN, a2, e2, List.map_map, ← e1]
            congr 2
            exact (List.map_congr_left fun a _ => trN a).symm
  have hcn := h.cn
  have rold : ∀ i, i < m → rOf (layC cl m T.size) i = rOf cl i := fun i hi => rOf_lay_old (by omega) hi
  have rnew : ∀ i, m ≤ i → rOf (layC cl m T.size) i = i := fun i hi => rOf_lay_new (by omega) hi
  have rlow : ∀ i, i < m → rOf cl i < m := fun i hi => by rw [hm]; exact h.lt i (by omega)
  refine ⟨W', ⟨hl'.symm, by unfold layC; simp; omega, hnd, fun t ht' => ?_, hok, fun i hi => ?_, fun i hi => ?_, fun θ hθ i j hi hj e => ?_⟩, fun i hi => trO i (by omega), by have := trN 0; rw [Nat.add_zero] at this; rw [this, ht0], rfl, fun F hF p hp => ?_⟩
  · rw [hns'] at ht'
    rcases List.mem_append.1 ht' with h2 | h2
    · have hN := h.node t h2
      exact ⟨hN.var, hN.few, hN.hole, fun a ha => by have := hN.args a ha; omega⟩
    · obtain ⟨u, hu, rfl⟩ := List.mem_map.1 h2
      obtain ⟨j, hj, e⟩ := List.getElem_of_mem hu
      refine ⟨flat_var T 0 hw u hu, by show (u.args.map _).length ≤ 256; rw [List.length_map]; have := flat_args T 0 u hu; omega, fun hv => ?_, fun a ha => ?_⟩
      · rcases at_ j hj with ⟨n, a1, a2, a3⟩ | ⟨nm', bs, a1, a2, a3⟩
        · rw [← e, a2]; rfl
        · rw [← e, a1] at hv; exact absurd hv (by show ¬ (0 : Int) < 0; omega)
      · have ha : a ∈ u.args.map fun a => (ns.length : Int) + a := ha
        obtain ⟨b, hb, rfl⟩ := List.mem_map.1 ha
        rcases at_ j hj with ⟨n, a1, a2, a3⟩ | ⟨nm', bs, a1, a2, a3⟩
        · rw [← e, a2] at hb; cases hb
        · rw [← e, a1] at hb
          obtain ⟨c, hc, rfl⟩ := List.mem_map.1 hb
          have := a3 c hc
          omega
  · by_cases hi2 : i < m
    · rw [rold i hi2]; have := rlow i hi2; omega
    · rw [rnew i (by omega)]; exact hi
  · by_cases hi2 : i < m
    · rw [rold i hi2, rold _ (rlow i hi2)]; exact h.idem i (by omega)
    · rw [rnew i (by omega), rnew i (by omega)]
  · have hi : i < m + T.size := hi
    have hj : j < m + T.size := hj
    by_cases hi2 : i < m <;> by_cases hj2 : j < m
    · rw [rold i hi2, rold j hj2] at e
      have := h.sound θ hθ i j (by omega) (by omega) e
      unfold WebT.val at this ⊢
      rw [trO i hi2, trO j hj2]; exact this
    · rw [rold i hi2, rnew j (by omega)] at e
      have := rlow i hi2; omega
    · rw [rnew i (by omega), rold j hj2] at e
      have := rlow j hj2; omega
    · rw [rnew i (by omega), rnew j (by omega)] at e
      rw [e]
  · obtain ⟨i, j, hi, hj, e1, e2, e3⟩ := hF p hp
    exact ⟨i, j, by show i < m + T.size; omega, by show j < m + T.size; omega, by rw [trO i (by omega)]; exact e1, by rw [trO j (by omega)]; exact e2, by rw [rold i (by omega), rold j (by omega)]; exact e3⟩

/-! ### Two classes become one -/
def joinC (cl : List Nat) (x y : Nat) : List Nat := cl.map fun c => if c = y then x else c
theorem joinC_len (cl : List Nat) (x y : Nat) : (joinC cl x y).length = cl.length := List.length_map ..
theorem rOf_join {x y i : Nat} (hi : i < cl.length) : rOf (joinC cl x y) i = uniR (rOf cl) x y i := by
  rw [rOf_at (by rw [joinC_len]; exact hi)]
  unfold uniR joinC
  rw [rOf_at hi, List.getElem_map]
theorem RW.roots (h : RW W E ns cl) {a b : Nat} (ha : a < ns.length) (hb : b < ns.length) (hne : rOf cl a ≠ rOf cl b) : rootsN ns.length (rOf (joinC cl (rOf cl a) (rOf cl b))) < rootsN ns.length (rOf cl) := by
  have e : rootsN ns.length (rOf (joinC cl (rOf cl a) (rOf cl b))) = rootsN ns.length (uniR (rOf cl) (rOf cl a) (rOf cl b)) := by
    unfold rootsN
    congr 1
    refine List.filter_congr fun i hi => ?_
    have hi := List.mem_range.1 hi
    rw [rOf_join (by have := h.cn; omega)]
  rw [e]
  exact rootsN_uni (h.lt b hb) (h.idem a ha) (h.idem b hb) hne

/-! ### All that meets by what met -/
/-- the way through all pairs: what has come of the classes so far -/
structure CR (n : Nat) (cl0 cl : List Nat) (more : Bool) : Prop where
  no : more = false → cl = cl0
  yes : more = true → rootsN n (rOf cl) < rootsN n (rOf cl0)
theorem CR.start (n : Nat) (cl : List Nat) : CR n cl cl false := ⟨fun _ => rfl, fun h => by cases h⟩
theorem RW.clash (h : RW W E ns cl) {i k : Nat} (hi : i < ns.length) (hk : k < ns.length) (hr : rOf cl i = rOf cl k) {nm nm' : ByteArray} {ks ks' : List Nat} (e1 : W.nd i = .app nm ks) (e2 : W.nd k = .app nm' ks') (hne : nm ≠ nm' ∨ ks.length ≠ ks'.length) : Comes E .clash :=
  comes_clash h.ok (by rw [h.n]; exact hi) (by rw [h.n]; exact hk) (fun θ hθ => h.sound θ hθ i k (by rw [h.n]; exact hi) (by rw [h.n]; exact hk) hr) e1 e2 hne

/-! ### A class's term, its least hole -/
def isTm (ns : List TN) (cl : List Nat) (c i : Nat) : Bool := rOf cl i == c && (ns[i]?.map TN.var) == some 0
def tmR (ns : List TN) (cl : List Nat) (c : Nat) : Option Nat := (List.range ns.length).find? (isTm ns cl c)
theorem isTm_iff {c i : Nat} (hi : i < ns.length) : isTm ns cl c i = true ↔ rOf cl i = c ∧ ns[i].var = 0 := by unfold isTm; simp [hi]
theorem tmR_is {c i : Nat} (h : tmR ns cl c = some i) : ∃ hi : i < ns.length, rOf cl i = c ∧ ns[i].var = 0 := by
  have h1 := List.find?_some h
  have h2 := List.mem_range.1 (List.mem_of_find?_eq_some h)
  exact ⟨h2, (isTm_iff h2).1 h1⟩
theorem tmR_not {c : Nat} (h : tmR ns cl c = none) {i : Nat} (hi : i < ns.length) (hc : rOf cl i = c) : ns[i].var ≠ 0 := fun e => by
  unfold tmR at h
  rw [List.find?_eq_none] at h
  exact h i (List.mem_range.2 hi) ((isTm_iff hi).2 ⟨hc, e⟩)
def lowStep (ns : List TN) (cl : List Nat) (c n i : Nat) : Nat :=
  let v := ((ns[i]?.map TN.var).getD 0).toNat
  if rOf cl i = c ∧ 0 < v ∧ (n = 0 ∨ v < n) then v else n
def lowTo (ns : List TN) (cl : List Nat) (c : Nat) : Nat → Nat
  | 0 => 0
  | i + 1 => lowStep ns cl c (lowTo ns cl c i) i
def loR (ns : List TN) (cl : List Nat) (c : Nat) : Nat := lowTo ns cl c ns.length
theorem lowTo_is (c : Nat) : ∀ m, m ≤ ns.length → (lowTo ns cl c m = 0 ∧ ∀ j (hj : j < ns.length), j < m → rOf cl j = c → ¬ 0 < ns[j].var) ∨ (1 ≤ lowTo ns cl c m ∧ (∃ j, ∃ hj : j < ns.length, j < m ∧ rOf cl j = c ∧ ns[j].var = (lowTo ns cl c m : Nat)) ∧ ∀ j (hj : j < ns.length), j < m → rOf cl j = c → 0 < ns[j].var → ((lowTo ns cl c m : Nat) : Int) ≤ ns[j].var)
  | 0, _ => .inl ⟨rfl, fun j _ h => absurd h (Nat.not_lt_zero _)⟩
  | m + 1, hm => by
    have ih := lowTo_is c m (by omega)
    have hmn : m < ns.length := by omega
    have hv : ((ns[m]?.map TN.var).getD 0).toNat = ns[m].var.toNat := by simp [hmn]
    have hs : lowTo ns cl c (m + 1) = if rOf cl m = c ∧ 0 < ns[m].var.toNat ∧ (lowTo ns cl c m = 0 ∨ ns[m].var.toNat < lowTo ns cl c m) then ns[m].var.toNat else lowTo ns cl c m := by
      show lowStep ns cl c (lowTo ns cl c m) m = _
      unfold lowStep
      rw [hv]
    rw [hs]
    have split : ∀ j, j < m + 1 → j < m ∨ j = m := fun j h => by omega
    by_cases hc : rOf cl m = c ∧ 0 < ns[m].var.toNat ∧ (lowTo ns cl c m = 0 ∨ ns[m].var.toNat < lowTo ns cl c m)
    · rw [if_pos hc]
      refine .inr ⟨hc.2.1, ⟨m, hmn, by omega, hc.1, by have := hc.2.1; omega⟩, fun j hj hjm hjc hjv => ?_⟩
      rcases split j hjm with h1 | h1
      · rcases ih with ⟨i1, i2⟩ | ⟨i1, _, i3⟩
        · exact absurd hjv (i2 j hj h1 hjc)
        · have := i3 j hj h1 hjc hjv
          have := hc.2.2
          omega
      · subst h1; omega
    · rw [if_neg hc]
      rcases ih with ⟨i1, i2⟩ | ⟨i1, ⟨j0, i2, i3, i4, i5⟩, i6⟩
      · refine .inl ⟨i1, fun j hj hjm hjc hjv => ?_⟩
        rcases split j hjm with h1 | h1
        · exact i2 j hj h1 hjc hjv
        · subst h1; exact hc ⟨hjc, by omega, .inl i1⟩
      · refine .inr ⟨i1, ⟨j0, i2, by omega, i4, i5⟩, fun j hj hjm hjc hjv => ?_⟩
        rcases split j hjm with h1 | h1
        · exact i6 j hj h1 hjc hjv
        · subst h1
          rcases Nat.lt_or_ge ns[j].var.toNat (lowTo ns cl c j) with h2 | h2
          · exact absurd ⟨hjc, by omega, .inr h2⟩ hc
          · omega
theorem RW.app_ (h : RW W E ns cl) {i : Nat} (hi : i < ns.length) (h0 : ns[i].var = 0) : W.nd i = .app ns[i].name (ns[i].args.map Int.toNat) := by rw [h.nd i hi]; exact if_neg (by omega)
theorem RW.hole_ (h : RW W E ns cl) {i : Nat} (hi : i < ns.length) (h0 : 0 < ns[i].var) : W.nd i = .hole ns[i].var.toNat := by rw [h.nd i hi]; exact if_pos h0
theorem RW.of_app (h : RW W E ns cl) {i : Nat} {nm : ByteArray} {ks : List Nat} (hi : i < ns.length) (e : W.nd i = .app nm ks) : ns[i].var = 0 ∧ ns[i].name = nm ∧ ns[i].args.map Int.toNat = ks := by
  rw [h.nd i hi] at e
  unfold ndT at e
  by_cases h0 : 0 < ns[i].var
  · rw [if_pos h0] at e; cases e
  · rw [if_neg h0] at e; injection e with e1 e2
    have := (h.node _ (List.getElem_mem hi)).var
    exact ⟨by omega, e1, e2⟩
theorem RW.heads (h : RW W E ns cl) : Heads W (rOf cl) (tmR ns cl) (loR ns cl) := by
  refine ⟨fun i t hi ht => ?_, fun i hi ht => ?_⟩
  · obtain ⟨h1, h2, h3⟩ := tmR_is ht
    exact ⟨by rw [h.n]; exact h1, h2, _, _, h.app_ h1 h3⟩
  · have hi' : i < ns.length := by rw [← h.n]; exact hi
    have hv : 0 < ns[i].var := by
      have h1 := tmR_not ht hi' rfl
      have := (h.node _ (List.getElem_mem hi')).var
      omega
    rcases lowTo_is (ns := ns) (cl := cl) (rOf cl i) ns.length (Nat.le_refl _) with ⟨h1, h2⟩ | ⟨h1, ⟨j, hj, _, h3, h4⟩, h5⟩
    · exact absurd hv (h2 i hi' hi' rfl)
    · have h6 := h5 i hi' hi' rfl hv
      refine ⟨⟨_, h.hole_ hi' hv, ?_⟩, j, by rw [h.n]; exact hj, h3, ?_⟩
      · show lowTo ns cl (rOf cl i) ns.length ≤ _; omega
      · rw [h.hole_ hj (by omega), h4]
        show Nd.hole _ = Nd.hole (lowTo ns cl (rOf cl i) ns.length)
        simp
end
end Go.Proofs.YtgcbnndbeoekgaaDoor
end
section
/- pair by pair: what holds between two pairs; in plain Lean -/
namespace Go.Proofs.YtgcbnndbeoekgaaDoor
open Go Go.RowKit Go.Maps

section
variable {W W' : WebT} {r r' : Nat → Nat} {tm tm' : Nat → Option Nat} {lo lo' : Nat → Nat} {td : List (Nat × Nat)} {E : List (Fo × Fo)}
theorem USt.more (h : USt W r tm lo td E) (F : List (Fo × Fo)) : USt W r tm lo td (E ++ F) :=
  ⟨h.ok, h.lt, h.idem, h.hol, h.some_, h.none_, h.low, h.cong, fun θ hθ => h.sound θ (sat_more hθ), fun p hp => ⟨(h.todo p hp).1, (h.todo p hp).2.1, fun θ hθ => (h.todo p hp).2.2 θ (sat_more hθ)⟩⟩
/-- the pair of an equation is to meet -/
theorem USt.pair (h : USt W r tm lo [] E) {a b : Nat} (ha : a < W.n) (hb : b < W.n) {p : Fo × Fo} (hp : p ∈ E) (e1 : W.tr a = p.1) (e2 : W.tr b = p.2) : USt W r tm lo [(a, b)] E := by
  refine ⟨h.ok, h.lt, h.idem, h.hol, h.some_, h.none_, h.low, fun i t nm ks nm' ks' hi e ht e' => ?_, h.sound, fun q hq => ?_⟩
  · obtain ⟨c1, c2, c3⟩ := h.cong i t nm ks nm' ks' hi e ht e'
    exact ⟨c1, c2, fun k x y hx hy => (c3 k x y hx hy).mono (fun _ _ => .cls) (fun _ _ h => by cases h)⟩
  · simp only [List.mem_cons, List.not_mem_nil, or_false] at hq
    subst hq
    exact ⟨ha, hb, fun θ hθ => by unfold WebT.val; rw [e1, e2]; exact hθ p hp⟩
theorem Meets.grown (h : Meets W r E) (hg : Grown W W' r tm tm' lo lo') : Meets W' r E := fun p hp => by
  obtain ⟨i, j, hi, hj, e1, e2, e3⟩ := h p hp
  exact ⟨i, j, Nat.lt_of_lt_of_le hi hg.n, Nat.lt_of_lt_of_le hj hg.n, by rw [(hg.nd i hi).2]; exact e1, by rw [(hg.nd j hj).2]; exact e2, e3⟩
theorem Meets.then (h : Meets W r E) (hr : ∀ i j, r i = r j → r' i = r' j) {a b : Nat} {p : Fo × Fo} (ha : a < W.n) (hb : b < W.n) (e1 : W.tr a = p.1) (e2 : W.tr b = p.2) (hab : r' a = r' b) : Meets W r' (E ++ [p]) := fun q hq => by
  rcases List.mem_append.1 hq with hq | hq
  · obtain ⟨i, j, hi, hj, f1, f2, f3⟩ := h q hq
    exact ⟨i, j, hi, hj, f1, f2, hr i j f3⟩
  · simp only [List.mem_cons, List.not_mem_nil, or_false] at hq
    subst hq
    exact ⟨a, b, ha, hb, e1, e2, hab⟩
end
/-- nothing yet -/
def webNil : WebT := ⟨0, fun _ => .hole 0, fun _ => .nil⟩
theorem ust_nil (E : List (Fo × Fo)) : USt webNil (fun i => i) (fun _ => none) (fun _ => 0) [] E :=
  ⟨⟨fun i h hi => absurd hi (Nat.not_lt_zero _), fun i nm ks hi => absurd hi (Nat.not_lt_zero _)⟩, fun i hi => absurd hi (Nat.not_lt_zero _), fun i hi => absurd hi (Nat.not_lt_zero _), fun i j x hi => absurd hi (Nat.not_lt_zero _), fun i t hi => absurd hi (Nat.not_lt_zero _), fun i hi => absurd hi (Nat.not_lt_zero _), fun i hi => absurd hi (Nat.not_lt_zero _), fun i t nm ks nm' ks' hi => absurd hi (Nat.not_lt_zero _), fun θ _ i j hi => absurd hi (Nat.not_lt_zero _), fun p hp => by cases hp⟩
theorem pw_nil : PW webNil (fun i => i) (fun _ => none) (fun _ => 0) [] [] :=
  ⟨rfl, fun i h => absurd h (by simp), fun i h => absurd h (by simp), ⟨fun _ => 0, ⟨fun i h => absurd h (by simp), fun i h => absurd h (by simp), fun i h => absurd h (by simp), fun i h => absurd h (by simp), fun i h => absurd h (by simp), fun i h => absurd h (by simp)⟩⟩, fun _ _ => rfl, fun i h => absurd h (by simp), fun i h => absurd h (by simp), fun h k => ⟨fun h => (by cases h), fun ⟨h, _⟩ => absurd h (Nat.not_lt_zero _)⟩⟩
/-- a bound's equations have a solution -/
theorem bound_sat {bs : List (Nat × Fo)} (h : NF bs) (j : Nat) : ∃ θ, Sat θ (eqsB (bs.take j)) := by
  refine ⟨valB bs, sat_eqsB.2 fun p hp => valB_sat h p (List.mem_of_mem_take hp)⟩
end Go.Proofs.YtgcbnndbeoekgaaDoor
end
section
/- between two pairs of Add: the web in memory and what it says -/
namespace Go.Proofs.YtgcbnndbeoekgaaDoor
open Go Go.RowKit Go.Maps

structure AddI (B p mb N : Nat) (wB wx : World) (lv tv : Value) (l : List PN) (hm td : List (Nat × Nat)) (W : WebT) (r : Nat → Nat) (tm : Nat → Option Nat) (lo : Nat → Nat) (E : List (Fo × Fo)) : Prop where
  below : Below B wB wx
  hB : B ≤ wB.heap.size
  web : WebAt wx B p lv mb tv l hm td
  pw : PW W r tm lo l hm
  ust : USt W r tm lo [] E
  meets : Meets W r E
  ok : ∀ x ∈ l, NOk x
  few : l.length ≤ N ∧ hm.length ≤ N
  holes : ∀ q ∈ hm, q.1 ≤ 2147483647
section
variable {B p mb N : Nat} {wB wx w' : World} {lv lv' tv : Value} {l : List PN} {hm td : List (Nat × Nat)} {W : WebT} {r : Nat → Nat} {tm : Nat → Option Nat} {lo : Nat → Nat} {E : List (Fo × Fo)} {T : Fo}
theorem AddI.size (h : AddI B p mb N wB wx lv tv l hm td W r tm lo E) : B ≤ wx.heap.size := Nat.le_trans h.hB h.below.size
theorem AddI.alloc (h : AddI B p mb N wB wx lv tv l hm td W r tm lo E) (o : Obj) : AddI B p mb N wB (wx.alloc o) lv tv l hm td W r tm lo E :=
  { h with below := h.below.alloc h.size o, web := h.web.alloc o }
theorem AddI.drew (h : AddI B p mb N wB wx lv tv l hm td W r tm lo E) : AddI B p mb N wB wx.drew lv tv l hm td W r tm lo E :=
  { h with below := h.below.drew, web := h.web.drewN 1 }
theorem flat_argsIn {T : Fo} (h1 : T.one) (hw : T.wf) : ∀ t ∈ T.flat 0, ∀ a ∈ t.args, 0 ≤ a ∧ a < (T.flat 0).length := fun t ht a ha => by
  obtain ⟨tr, hT, _⟩ := tree_trees h1 hw
  obtain ⟨j, hj, rfl⟩ := List.getElem_of_mem ht
  have hl := Fo.flat_len T 0
  rcases hT.at_ j hj with ⟨n, _, e, _⟩ | ⟨nm, ks, e, _, h3⟩
  · rw [e] at ha; cases ha
  · rw [e] at ha
    obtain ⟨b, hb, rfl⟩ := List.mem_map.1 ha
    have := h3 b hb
    show (0 : Int) ≤ (b : Int) ∧ (b : Int) < _
    omega
theorem AddI.layin (h : AddI B p mb N wB wx lv tv l hm td W r tm lo E) (h1 : T.one) (hw : T.wf) (h3 : T.size ≤ 256) (hN : N ≤ 549755813888) (hnr : ∀ t ∈ T.flat 0, NodeR t) : LayIn (T.flat 0) l hm := by
  have hl := Fo.flat_len T 0
  have hp := Fo.one_size h1
  refine ⟨⟨by omega, by omega⟩, ⟨by have := h.few.1; omega, by have := h.few.2; omega⟩, fun x k k' a b => ?_, fun q hq => ?_, hnr, fun t ht => ⟨by have := flat_args T 0 t ht; omega, flat_argsIn h1 hw t ht⟩⟩
  · obtain ⟨a1, a2⟩ := (h.pw.holes x k).1 a
    obtain ⟨b1, b2⟩ := (h.pw.holes x k').1 b
    exact h.ust.hol k k' x a1 b1 a2 b2
  · obtain ⟨x, k⟩ := q
    obtain ⟨a1, a2⟩ := (h.pw.holes x k).1 hq
    exact ⟨by rw [← h.pw.len]; exact a1, (h.ust.ok.hole k x a1 a2).1⟩
theorem AddI.laid (h : AddI B p mb N wB wx lv tv l hm td W r tm lo E) (h1 : T.one) (hw : T.wf) (h3 : T.size ≤ 256) {l1 l2 : List PN} {hm' : List (Nat × Nat)} {at_ : List Nat} (hp : LayPost wx B p mb lv tv td (T.flat 0) l hm w' lv' l1 l2 hm' at_) :
    ∃ W' tm' lo', AddI B p mb (N + 256) wB w' lv' tv l2 hm' td W' r tm' lo' E ∧ (∀ i, i < W.n → i < W'.n ∧ W'.tr i = W.tr i) ∧ ∀ k, at_[0]? = some k → k < W'.n ∧ W'.tr k = T := by
  obtain ⟨W', tm', lo', hg, hpw, hn, hlen, h0, ha0, hat⟩ := lay_grown h1 hw rfl h.pw h.ust.ok h.ust.hol (fun t ht => (flat_var T 0 hw t ht).1) hp.one hp.two
  have hfl := Fo.flat_len T 0
  refine ⟨W', tm', lo', ⟨h.below.trans (hp.kb.below h.size (fun n hn => (h.web.wb_lt hn).1)), h.hB, hp.web, hpw, hg.ust _ _ h.ust, h.meets.grown hg, fun x hx => ?_, ⟨by have := h.few.1; omega, by have := h.few.2; have := hp.one.cnt; omega⟩, fun q hq => ?_⟩, fun i hi => ⟨by have := hg.n; omega, (hg.nd i hi).2⟩, fun k hk => ?_⟩
  · obtain ⟨k, hk, rfl⟩ := List.getElem_of_mem hx
    have hk1 : k < l1.length := by rw [← hp.two.len]; exact hk
    have hargs : ∀ t ∈ T.flat 0, t.args.length ≤ 256 := fun t ht => by have := flat_args T 0 t ht; omega
    have base : NOk l1[k] := by
      by_cases hk0 : k < l.length
      · rw [hp.one.pre k hk0 hk1]; exact h.ok _ (List.getElem_mem hk0)
      · rcases hp.one.new k hk1 (by omega) with ⟨x, _, e⟩ | ⟨j, a, b, c, d⟩
        · rw [e]; exact ⟨Nat.zero_le _, rfl⟩
        · obtain ⟨_, hk2, e⟩ := hp.one.aat j a b c
          subst d
          rw [e]; exact ⟨Nat.zero_le _, rfl⟩
    rcases hp.two.at_ k hk1 hk with ⟨j, a, b, c, d, e, av, f⟩ | ⟨_, f⟩
    · rw [f]
      refine ⟨?_, base.2⟩
      show (atArgs at_ _).length ≤ 256
      unfold atArgs
      rw [List.length_map]
      exact hargs _ (List.getElem_mem b)
    · rw [f]; exact base
  · rcases hp.one.rng q hq with h4 | ⟨t, ht, e⟩
    · exact h.holes q h4
    · have := (flat_var T 0 hw t ht).2; omega
  · rw [List.getElem?_eq_getElem h0] at hk
    injection hk with hk
    subst hk
    exact ⟨ha0, hat⟩
theorem AddI.met (h : AddI B p mb N wB wx lv tv l hm td W r tm lo E) {a b : Nat} (ha : a < W.n) (hb : b < W.n) {q : Fo × Fo} (e1 : W.tr a = q.1) (e2 : W.tr b = q.2) {tv' : Value} {l' : List PN} {r' : Nat → Nat} {tm' : Nat → Option Nat} {lo' : Nat → Nat}
    (hM : MeetM wx B p mb lv tv hm w' tv' l' []) (hP : PW W r' tm' lo' l' hm) (hU : USt W r' tm' lo' [] (E ++ [q])) (hr : ∀ i j, r i = r j → r' i = r' j) (hab : r' a = r' b) (hok : ∀ x ∈ l', NOk x) : AddI B p mb N wB w' lv tv' l' hm [] W r' tm' lo' (E ++ [q]) := by
  refine ⟨h.below.trans (hM.kb.below h.size fun n hn => (h.web.wb_lt hn).1), h.hB, hM.web, hP, hU, h.meets.then hr ha hb e1 e2 hab, hok, ⟨?_, h.few.2⟩, h.holes⟩
  have h1 := hP.len
  have h2 := h.pw.len
  have := h.few.1
  omega
theorem AddI.meet_in (h : AddI B p mb N wB wx lv tv l hm td W r tm lo E) {a b : Nat} (ha : a < W.n) (hb : b < W.n) {q : Fo × Fo} (e1 : W.tr a = q.1) (e2 : W.tr b = q.2) : USt W r tm lo [(a, b)] (E ++ [q]) :=
  (h.ust.more [q]).pair ha hb (List.mem_append_right _ (List.mem_cons_self ..)) e1 e2
theorem AddI.call (h : AddI B p mb N wB wx lv tv l hm td W r tm lo E) (hN : N ≤ 17179869184) {a b : Nat} (ha : a < W.n) (hb : b < W.n) {q : Fo × Fo} (e1 : W.tr a = q.1) (e2 : W.tr b = q.2) :
    Calls Tryd.prog 35 #[.pointer (some ⟨p, 0, none⟩), .int .i64 a, .int .i64 b] wx (fun e w' => (e = .returned (.bool true) ∧ ∃ tv' l' r' tm' lo', AddI B p mb N wB w' lv tv' l' hm [] W r' tm' lo' (E ++ [q]) ∧ Kb (Wb p mb lv tv) wx w') ∨ (e = .returned (.bool false) ∧ Comes (E ++ [q]) .clash ∧ Kb (Wb p mb lv tv) wx w')) := by
  refine (umeet_any wx B p mb lv tv l hm td W (E ++ [q]) r tm lo a b h.size h.web h.pw (h.meet_in ha hb e1 e2) h.ok (by have := h.few.1; omega)).mono ?_
  rintro e w' (⟨rfl, tv', l', r', tm', lo', hM, hP, hU, hr, hab, hok⟩ | ⟨rfl, hc, hk⟩)
  · exact .inl ⟨rfl, tv', l', r', tm', lo', h.met ha hb e1 e2 hM hP hU hr hab hok, hM.kb⟩
  · exact .inr ⟨rfl, hc, hk⟩
/-- a term is laid: what comes -/
def LaidAs (B p mb N : Nat) (wB wx : World) (lv0 tv : Value) (td : List (Nat × Nat)) (W : WebT) (r : Nat → Nat) (E : List (Fo × Fo)) (T : Fo) (e : Ending) (w' : World) : Prop :=
  ∃ k : Nat, e = .returned (.int .i64 k) ∧ ∃ lv l hm W' tm' lo', AddI B p mb N wB w' lv tv l hm td W' r tm' lo' E ∧ (∀ i, i < W.n → i < W'.n ∧ W'.tr i = W.tr i) ∧ k < W'.n ∧ W'.tr k = T ∧ Kb (Wb p mb lv0 tv) wx w'
theorem AddI.lay (h : AddI B p mb N wB wx lv tv l hm td W r tm lo E) (hN : N ≤ 549755813888) (h1 : T.one) (hw : T.wf) (h3 : T.size ≤ 256) (hnr : ∀ t ∈ T.flat 0, NodeR t) {ts : List TN} (hts : ts = T.flat 0) {A : Option Addr} {c : Nat} {F : Nat → Prop} (hF : ∀ b, F b → b < wx.heap.size ∧ ¬ Wb p mb lv tv b) (hr : RowOf 3 ETN wx F A ts) (hlc : ts.length ≤ c) (hc : c ≤ maxLen) :
    Calls Tryd.prog 36 #[.pointer (some ⟨p, 0, none⟩), .agg #[.slice A ts.length c]] wx (LaidAs B p mb (N + 256) wB wx lv tv td W r E T) := by
  subst hts
  refine (ulay_any wx B p mb lv tv td (T.flat 0) l hm A c F hF hr hlc hc h.size h.web (h.layin h1 hw h3 hN hnr)).mono ?_
  rintro e w' ⟨lv', l1, l2, hm', at_, ⟨k, rfl, hk⟩, hp⟩
  obtain ⟨W', tm', lo', hI, hold, hat⟩ := h.laid h1 hw h3 hp
  exact ⟨k, rfl, lv', l2, hm', W', tm', lo', hI, hold, (hat k hk).1, (hat k hk).2, hp.kb⟩
end
/-- a hole's tree -/
theorem hole_nodeR {h : Nat} (h1 : 1 ≤ h) (h2 : h ≤ 2147483647) : ∀ t ∈ (Fo.hole h .nil).flat 0, NodeR t := fun t ht => by
  have ht : t ∈ [(⟨h, ByteArray.empty, []⟩ : TN)] := ht
  simp only [List.mem_cons, List.not_mem_nil, or_false] at ht
  subst ht
  exact .inl ⟨by show (1 : Int) ≤ (h : Int); omega, by show (h : Int) ≤ 2147483647; omega, rfl, rfl⟩
theorem hole_row {w : World} {q : Nat} {x : Int} (h : Blk w q 58 #[.int .i64 x, .string ByteArray.empty, .slice none 0 0]) : RowOf 3 ETN w (fun b => b = q) (some ⟨q, 0, none⟩) [(⟨x, ByteArray.empty, []⟩ : TN)] := by
  refine ⟨fun _ => ⟨q, 0, rfl, rfl⟩, fun i hi => ?_⟩
  have : i = 0 := by simp at hi; omega
  subst this
  refine ⟨[.int .i64 x, .string ByteArray.empty, .slice none 0 0], rfl, ⟨_, rfl, IsRow.nil⟩, fun b off e j hj => ?_⟩
  injection e with e
  injection e with e1 e2
  subst e1; subst e2
  rw [h.cell]
  match j, hj with
  | 0, _ => rfl
  | 1, _ => rfl
  | 2, _ => rfl
end Go.Proofs.YtgcbnndbeoekgaaDoor
end
