/- the document's web, its classes and what is told of them: in plain Lean -/
import Derived.Test.YtgcbnndbeoekgaaBoundP
import Derived.Test.YtgcbnndbeoekgaaNFP
set_option linter.unusedSimpArgs false
set_option linter.unusedVariables false
namespace Go.Proofs.Ytgcbnndbeoekgaa
open Go Go.RowKit Go.Maps

def ndT (t : TN) : Nd := if 0 < t.var then .hole t.var.toNat else .app t.name (t.args.map Int.toNat)
def shiftT (o : Nat) (t : TN) : TN := { t with args := t.args.map fun a => (o : Int) + a }
def rOf (cl : List Nat) (i : Nat) : Nat := cl.getD i i
theorem rOf_at {cl : List Nat} {i : Nat} (h : i < cl.length) : rOf cl i = cl[i] := by unfold rOf; simp [List.getD_eq_getElem?_getD, h]
theorem rOf_out {cl : List Nat} {i : Nat} (h : cl.length ≤ i) : rOf cl i = i := by unfold rOf; simp [List.getD_eq_getElem?_getD, List.getElem?_eq_none h]
/-- nodes as they lie in the web -/
structure NodeW (n : Nat) (t : TN) : Prop where
  var : 0 ≤ t.var ∧ t.var ≤ 2147483647
  few : t.args.length ≤ 256
  hole : 0 < t.var → t.args = []
  args : ∀ a ∈ t.args, 0 ≤ a ∧ a < n
structure RW (W : WebT) (E : List (Fo × Fo)) (ns : List TN) (cl : List Nat) : Prop where
  n : W.n = ns.length
  cn : cl.length = ns.length
  nd : ∀ i (h : i < ns.length), W.nd i = ndT ns[i]
  node : ∀ t ∈ ns, NodeW ns.length t
  ok : W.OK
  lt : ∀ i, i < ns.length → rOf cl i < ns.length
  idem : ∀ i, i < ns.length → rOf cl (rOf cl i) = rOf cl i
  sound : Sound W (rOf cl) E
/-- nothing yet -/
def webNil0 : WebT := ⟨0, fun _ => .hole 0, fun _ => .nil⟩
theorem RW.nil (E : List (Fo × Fo)) : RW webNil0 E [] [] where
  n := rfl
  cn := rfl
  nd := fun i h => absurd h (Nat.not_lt_zero _)
  node := fun t h => by cases h
  ok := ⟨fun i h hi => absurd hi (Nat.not_lt_zero _), fun i nm ks hi => absurd hi (Nat.not_lt_zero _)⟩
  lt := fun i h => absurd h (Nat.not_lt_zero _)
  idem := fun i h => absurd h (Nat.not_lt_zero _)
  sound := fun θ _ i j hi => absurd hi (Nat.not_lt_zero _)
theorem flat_args : ∀ (F : Fo) (o : Nat), ∀ t ∈ F.flat o, t.args.length ≤ F.size
  | .nil, _, t, h => by cases h
  | .hole n r, o, t, h => by
    have hs : (Fo.hole n r).size = 1 + r.size := rfl
    rcases List.mem_cons.1 h with e | e
    · rw [e]; simp
    · have := flat_args r (o + 1) t e; omega
  | .app nm k r, o, t, h => by
    have hs : (Fo.app nm k r).size = 1 + k.size + r.size := rfl
    rcases List.mem_cons.1 h with e | e
    · rw [e]; show (k.offs (o + 1)).length ≤ _; rw [Fo.offs_len]; have := Fo.cnt_size k; omega
    · rcases List.mem_append.1 e with e | e
      · have := flat_args k (o + 1) t e; omega
      · have := flat_args r (o + 1 + k.size) t e; omega
theorem flat_var : ∀ (F : Fo) (o : Nat), F.wf → ∀ t ∈ F.flat o, 0 ≤ t.var ∧ t.var ≤ 2147483647
  | .nil, _, _, t, h => by cases h
  | .hole n r, o, hw, t, h => by
    rcases List.mem_cons.1 h with e | e
    · have := hw.2.1; rw [e]; show (0 : Int) ≤ (n : Int) ∧ (n : Int) ≤ 2147483647; omega
    · exact flat_var r (o + 1) hw.2.2 t e
  | .app nm k r, o, hw, t, h => by
    rcases List.mem_cons.1 h with e | e
    · rw [e]; show (0 : Int) ≤ 0 ∧ (0 : Int) ≤ 2147483647; omega
    · rcases List.mem_append.1 e with e | e
      · exact flat_var k (o + 1) hw.2.1 t e
      · exact flat_var r (o + 1 + k.size) hw.2.2 t e
section
variable {W : WebT} {E : List (Fo × Fo)} {ns : List TN} {cl : List Nat}
theorem RW.more (h : RW W E ns cl) (F : List (Fo × Fo)) : RW W (E ++ F) ns cl := { h with sound := fun θ hθ => h.sound θ (sat_more hθ) }
theorem RW.rlt (h : RW W E ns cl) {i : Nat} (hi : i < W.n) : rOf cl i < W.n := by rw [h.n] at hi ⊢; exact h.lt i hi
/-- the classes of the nodes that are laid -/
def layC (cl : List Nat) (n k : Nat) : List Nat := cl ++ List.range' n k
theorem rOf_lay_old {n k i : Nat} (hc : cl.length = n) (hi : i < n) : rOf (layC cl n k) i = rOf cl i := by
  rw [rOf_at (show i < (layC cl n k).length by unfold layC; simp; omega), rOf_at (show i < cl.length by omega)]
  unfold layC
  rw [List.getElem_append_left (by omega)]
theorem rOf_lay_new {n k i : Nat} (hc : cl.length = n) (hi : n ≤ i) : rOf (layC cl n k) i = i := by
  by_cases h : i < n + k
  · rw [rOf_at (show i < (layC cl n k).length by unfold layC; simp; omega)]
    unfold layC
    rw [List.getElem_append_right (by omega)]
    simp
    omega
  · exact rOf_out (by unfold layC; simp; omega)
theorem RW.lay (h : RW W E ns cl) {T : Fo} (h1 : T.one) (hw : T.wf) (hs : T.size ≤ 256) : ∃ W', RW W' E (ns ++ (T.flat 0).map (shiftT ns.length)) (layC cl ns.length T.size) ∧ (∀ i, i < W.n → W'.tr i = W.tr i) ∧ W'.tr ns.length = T ∧ W'.n = ns.length + T.size ∧ ∀ F, Meets W (rOf cl) F → Meets W' (rOf (layC cl ns.length T.size)) F := by
  obtain ⟨tr, ht, ht0⟩ := tree_trees h1 hw
  obtain ⟨m, hm⟩ : ∃ m, m = ns.length := ⟨_, rfl⟩
  obtain ⟨ns', hns'⟩ : ∃ q, q = ns ++ (T.flat 0).map (shiftT ns.length) := ⟨_, rfl⟩
  have hl' : ns'.length = m + T.size := by rw [hns']; simp [Fo.flat_len, hm]
  have hold : ∀ i (h' : i < ns'.length) (hi : i < ns.length), ns'[i] = ns[i] := fun i h' hi => by simp only [hns']; rw [List.getElem_append_left hi]
  have hnew : ∀ j (hj : j < (T.flat 0).length) (h' : m + j < ns'.length), ns'[m + j] = shiftT m (T.flat 0)[j] := fun j hj h' => by simp only [hns']; rw [List.getElem_append_right (by omega)]; simp [hm]
  rw [← hns', ← hm]
  let W' : WebT := ⟨m + T.size, fun i => if h : i < ns'.length then ndT ns'[i] else .hole 0, fun i => if i < m then W.tr i else tr (i - m)⟩
  have hnd : ∀ i (h' : i < ns'.length), W'.nd i = ndT ns'[i] := fun i h' => dif_pos h'
  have hWn : W.n = m := by rw [h.n, hm]
  have trO : ∀ i, i < m → W'.tr i = W.tr i := fun i hi => if_pos hi
  have trN : ∀ j, W'.tr (m + j) = tr j := fun j => by show (if m + j < m then _ else tr (m + j - m)) = _; rw [if_neg (by omega), Nat.add_sub_cancel_left]
  have ndO : ∀ i, i < m → W'.nd i = W.nd i := fun i hi => by rw [hnd i (by omega), h.nd i (by omega), hold i (by omega) (by omega)]
  have at_ := fun j hj => by have := ht.at_ j hj; rw [Nat.zero_add] at this; exact this
  have hok : W'.OK := by
    refine ⟨fun i x hi e => ?_, fun i nm ks hi e => ?_⟩
    · by_cases hi2 : i < m
      · rw [ndO i hi2] at e; rw [trO i hi2]; exact h.ok.hole i x (by omega) e
      · obtain ⟨j, rfl⟩ : ∃ j, i = m + j := ⟨i - m, by omega⟩
        have hi : m + j < m + T.size := hi
        have hj : j < (T.flat 0).length := by rw [Fo.flat_len]; omega
        rw [hnd _ (by omega), hnew j hj (by omega)] at e
        rw [trN]
        rcases at_ j hj with ⟨n, a1, a2, a3⟩ | ⟨nm, ks, a1, a2, a3⟩
        · rw [a2] at e
          have e : ndT ⟨(n : Int), ByteArray.empty, []⟩ = .hole x := e
          unfold ndT at e
          rw [if_pos (show (0 : Int) < (n : Int) by omega)] at e
          injection e with e
          have e : n = x := by simpa using e
          rw [← e]; exact ⟨a1, a3⟩
        · rw [a1] at e
          have e : ndT ⟨0, nm, _⟩ = .hole x := e
          unfold ndT at e
          rw [if_neg (by simp)] at e
          cases e
    · by_cases hi2 : i < m
      · rw [ndO i hi2] at e
        obtain ⟨b1, b2⟩ := h.ok.app i nm ks (by omega) e
        refine ⟨fun a ha => by have := b1 a ha; show a < m + T.size; omega, ?_⟩
        rw [trO i hi2, b2]
        congr 2
        exact (List.map_congr_left fun a ha => trO a (by have := b1 a ha; omega)).symm
      · obtain ⟨j, rfl⟩ : ∃ j, i = m + j := ⟨i - m, by omega⟩
        have hi : m + j < m + T.size := hi
        have hj : j < (T.flat 0).length := by rw [Fo.flat_len]; omega
        rw [hnd _ (by omega), hnew j hj (by omega)] at e
        rcases at_ j hj with ⟨n, a1, a2, a3⟩ | ⟨nm', bs, a1, a2, a3⟩
        · rw [a2] at e
          have e : ndT ⟨(n : Int), ByteArray.empty, []⟩ = .app nm ks := e
          unfold ndT at e
          rw [if_pos (show (0 : Int) < (n : Int) by omega)] at e
          cases e
        · rw [a1] at e
          have e : ndT ⟨0, nm', (bs.map fun a : Nat => (a : Int)).map fun a => (m : Int) + a⟩ = .app nm ks := e
          unfold ndT at e
          rw [if_neg (by simp)] at e
          injection e with e1 e2
          have e2 : ks = bs.map fun a => m + a := by
            rw [← e2]
            simp only [List.map_map]
            exact List.map_congr_left fun a _ => by show ((m : Int) + (a : Int)).toNat = m + a; omega
          refine ⟨fun a ha => ?_, ?_⟩
          · rw [e2] at ha
            obtain ⟨b, hb, rfl⟩ := List.mem_map.1 ha
            have := a3 b hb
            show m + b < m + T.size
            omega
          · rw [trN, a2, e2, List.map_map, ← e1]
            congr 2
            exact (List.map_congr_left fun a _ => trN a).symm
  have hcn := h.cn
  have rold : ∀ i, i < m → rOf (layC cl m T.size) i = rOf cl i := fun i hi => rOf_lay_old (by omega) hi
  have rnew : ∀ i, m ≤ i → rOf (layC cl m T.size) i = i := fun i hi => rOf_lay_new (by omega) hi
  have rlow : ∀ i, i < m → rOf cl i < m := fun i hi => by rw [hm]; exact h.lt i (by omega)
  refine ⟨W', ⟨hl'.symm, by unfold layC; simp; omega, hnd, fun t ht' => ?_, hok, fun i hi => ?_, fun i hi => ?_, fun θ hθ i j hi hj e => ?_⟩, fun i hi => trO i (by omega), by have := trN 0; rw [Nat.add_zero] at this; rw [this, ht0], rfl, fun F hF p hp => ?_⟩
  · rw [hns'] at ht'
    rcases List.mem_append.1 ht' with h2 | h2
    · have hN := h.node t h2
      exact ⟨hN.var, hN.few, hN.hole, fun a ha => by have := hN.args a ha; omega⟩
    · obtain ⟨u, hu, rfl⟩ := List.mem_map.1 h2
      obtain ⟨j, hj, e⟩ := List.getElem_of_mem hu
      refine ⟨flat_var T 0 hw u hu, by show (u.args.map _).length ≤ 256; rw [List.length_map]; have := flat_args T 0 u hu; omega, fun hv => ?_, fun a ha => ?_⟩
      · rcases at_ j hj with ⟨n, a1, a2, a3⟩ | ⟨nm', bs, a1, a2, a3⟩
        · rw [← e, a2]; rfl
        · rw [← e, a1] at hv; exact absurd hv (by show ¬ (0 : Int) < 0; omega)
      · have ha : a ∈ u.args.map fun a => (ns.length : Int) + a := ha
        obtain ⟨b, hb, rfl⟩ := List.mem_map.1 ha
        rcases at_ j hj with ⟨n, a1, a2, a3⟩ | ⟨nm', bs, a1, a2, a3⟩
        · rw [← e, a2] at hb; cases hb
        · rw [← e, a1] at hb
          obtain ⟨c, hc, rfl⟩ := List.mem_map.1 hb
          have := a3 c hc
          omega
  · by_cases hi2 : i < m
    · rw [rold i hi2]; have := rlow i hi2; omega
    · rw [rnew i (by omega)]; exact hi
  · by_cases hi2 : i < m
    · rw [rold i hi2, rold _ (rlow i hi2)]; exact h.idem i (by omega)
    · rw [rnew i (by omega), rnew i (by omega)]
  · have hi : i < m + T.size := hi
    have hj : j < m + T.size := hj
    by_cases hi2 : i < m <;> by_cases hj2 : j < m
    · rw [rold i hi2, rold j hj2] at e
      have := h.sound θ hθ i j (by omega) (by omega) e
      unfold WebT.val at this ⊢
      rw [trO i hi2, trO j hj2]; exact this
    · rw [rold i hi2, rnew j (by omega)] at e
      have := rlow i hi2; omega
    · rw [rnew i (by omega), rold j hj2] at e
      have := rlow j hj2; omega
    · rw [rnew i (by omega), rnew j (by omega)] at e
      rw [e]
  · obtain ⟨i, j, hi, hj, e1, e2, e3⟩ := hF p hp
    exact ⟨i, j, by show i < m + T.size; omega, by show j < m + T.size; omega, by rw [trO i (by omega)]; exact e1, by rw [trO j (by omega)]; exact e2, by rw [rold i (by omega), rold j (by omega)]; exact e3⟩

/-! ### Two classes become one -/
def joinC (cl : List Nat) (x y : Nat) : List Nat := cl.map fun c => if c = y then x else c
theorem joinC_len (cl : List Nat) (x y : Nat) : (joinC cl x y).length = cl.length := List.length_map ..
theorem rOf_join {x y i : Nat} (hi : i < cl.length) : rOf (joinC cl x y) i = uniR (rOf cl) x y i := by
  rw [rOf_at (by rw [joinC_len]; exact hi)]
  unfold uniR joinC
  rw [rOf_at hi, List.getElem_map]
theorem joinC_same (cl : List Nat) (x : Nat) : joinC cl x x = cl := by
  unfold joinC
  have : ∀ c ∈ cl, (if c = x then x else c) = id c := fun c _ => by by_cases e : c = x <;> simp [e]
  rw [List.map_congr_left this, List.map_id]
theorem RW.join (h : RW W E ns cl) {a b : Nat} (ha : a < ns.length) (hb : b < ns.length) (hv : ∀ θ, Sat θ E → W.val θ a = W.val θ b) : RW W E ns (joinC cl (rOf cl a) (rOf cl b)) := by
  have hcn := h.cn
  have hl : (joinC cl (rOf cl a) (rOf cl b)).length = ns.length := by rw [joinC_len, hcn]
  have hx := h.lt a ha
  have hy := h.lt b hb
  have rx := h.idem a ha
  have ry := h.idem b hb
  obtain ⟨x, ex⟩ : ∃ x, rOf cl a = x := ⟨_, rfl⟩
  obtain ⟨y, ey⟩ : ∃ y, rOf cl b = y := ⟨_, rfl⟩
  rw [ex] at hx rx
  rw [ey] at hy ry
  rw [ex, ey] at hl ⊢
  have hr : ∀ i, i < ns.length → rOf (joinC cl x y) i = uniR (rOf cl) x y i := fun i hi => rOf_join (by omega)
  have hxy : ∀ θ, Sat θ E → W.val θ x = W.val θ y := fun θ hθ => by
    have h1 := h.sound θ hθ x a (by rw [h.n]; exact hx) (by rw [h.n]; exact ha) (by rw [rx, ex])
    have h2 := h.sound θ hθ y b (by rw [h.n]; exact hy) (by rw [h.n]; exact hb) (by rw [ry, ey])
    rw [h1, h2]; exact hv θ hθ
  refine { h with cn := hl, lt := fun i hi => ?_, idem := fun i hi => ?_, sound := fun θ hθ i j hi hj e => ?_ }
  · rw [hr i hi]
    unfold uniR
    by_cases e : rOf cl i = y
    · rw [if_pos e]; exact hx
    · rw [if_neg e]; exact h.lt i hi
  · rw [hr i hi]
    unfold uniR
    by_cases e : rOf cl i = y
    · rw [if_pos e, hr x hx]
      unfold uniR
      rw [rx]
      by_cases e2 : x = y
      · rw [if_pos e2]
      · rw [if_neg e2]
    · rw [if_neg e, hr _ (h.lt i hi)]
      unfold uniR
      rw [h.idem i hi, if_neg e]
  · have hi' : i < ns.length := by rw [← h.n]; exact hi
    have hj' : j < ns.length := by rw [← h.n]; exact hj
    rw [hr i hi', hr j hj'] at e
    have one : ∀ i, i < ns.length → W.val θ i = W.val θ (uniR (rOf cl) x y i) := fun i hi => by
      unfold uniR
      have hiW : i < W.n := by rw [h.n]; exact hi
      by_cases e : rOf cl i = y
      · rw [if_pos e, hxy θ hθ]
        exact h.sound θ hθ i y hiW (by rw [h.n]; exact hy) (by rw [e, ry])
      · rw [if_neg e]
        exact h.sound θ hθ i _ hiW (by rw [h.n]; exact h.lt i hi) (h.idem i hi).symm
    rw [one i hi', one j hj', e]
theorem join_mono {x y i j : Nat} (hi : i < cl.length) (hj : j < cl.length) (h : rOf cl i = rOf cl j) : rOf (joinC cl x y) i = rOf (joinC cl x y) j := by
  rw [rOf_join hi, rOf_join hj]; unfold uniR; rw [h]
theorem join_ab {a b : Nat} (ha : a < cl.length) (hb : b < cl.length) : rOf (joinC cl (rOf cl a) (rOf cl b)) a = rOf (joinC cl (rOf cl a) (rOf cl b)) b := by
  rw [rOf_join ha, rOf_join hb]
  unfold uniR
  rw [if_pos rfl]
  by_cases e : rOf cl a = rOf cl b
  · rw [if_pos e]
  · rw [if_neg e]
theorem Meets.joined (h : Meets W (rOf cl) E) (hn : W.n = cl.length) (x y : Nat) : Meets W (rOf (joinC cl x y)) E := fun p hp => by
  obtain ⟨i, j, hi, hj, e1, e2, e3⟩ := h p hp
  exact ⟨i, j, hi, hj, e1, e2, join_mono (by omega) (by omega) e3⟩
theorem RW.roots (h : RW W E ns cl) {a b : Nat} (ha : a < ns.length) (hb : b < ns.length) (hne : rOf cl a ≠ rOf cl b) : rootsN ns.length (rOf (joinC cl (rOf cl a) (rOf cl b))) < rootsN ns.length (rOf cl) := by
  have e : rootsN ns.length (rOf (joinC cl (rOf cl a) (rOf cl b))) = rootsN ns.length (uniR (rOf cl) (rOf cl a) (rOf cl b)) := by
    unfold rootsN
    congr 1
    refine List.filter_congr fun i hi => ?_
    have hi := List.mem_range.1 hi
    rw [rOf_join (by have := h.cn; omega)]
  rw [e]
  exact rootsN_uni (h.lt b hb) (h.idem a ha) (h.idem b hb) hne

/-! ### All that meets by what met -/
/-- a pair of nodes that asks for nothing more -/
structure CP (W : WebT) (r : Nat → Nat) (i k : Nat) : Prop where
  hole : ∀ h, W.nd i = .hole h → W.nd k = .hole h → r i = r k
  app : ∀ nm ks nm' ks', r i = r k → W.nd i = .app nm ks → W.nd k = .app nm' ks' → ks.length = ks'.length → ∀ (j a a' : Nat), ks[j]? = some a → ks'[j]? = some a' → r a = r a'
/-- the way through all pairs: what has come of the classes so far -/
structure CR (n : Nat) (cl0 cl : List Nat) (more : Bool) : Prop where
  no : more = false → cl = cl0
  yes : more = true → rootsN n (rOf cl) < rootsN n (rOf cl0)
theorem CR.start (n : Nat) (cl : List Nat) : CR n cl cl false := ⟨fun _ => rfl, fun h => by cases h⟩
theorem CR.join {cl0 : List Nat} {more : Bool} (h : CR ns.length cl0 cl more) (hW : RW W E ns cl) {a b : Nat} (ha : a < ns.length) (hb : b < ns.length) : CR ns.length cl0 (joinC cl (rOf cl a) (rOf cl b)) (more || !decide (rOf cl a = rOf cl b)) := by
  by_cases e : rOf cl a = rOf cl b
  · rw [e, joinC_same]; simpa using h
  · have h1 := hW.roots ha hb e
    refine ⟨fun h2 => by simp [e] at h2, fun _ => ?_⟩
    cases more
    · rw [← h.no rfl]; exact h1
    · exact Nat.lt_trans h1 (h.yes rfl)
theorem closed_of (h : RW W E ns cl) (hp : ∀ i k, k < i → i < ns.length → CP W (rOf cl) i k) (hc : ∀ i k, k < i → i < ns.length → ∀ nm ks nm' ks', rOf cl i = rOf cl k → W.nd i = .app nm ks → W.nd k = .app nm' ks' → nm = nm' ∧ ks.length = ks'.length) : Closed W (rOf cl) := by
  refine ⟨fun i j x hi hj e1 e2 => ?_, fun i j nm ks nm' ks' hi hj e e1 e2 => ?_⟩
  · rw [h.n] at hi hj
    rcases Nat.lt_trichotomy i j with h1 | h1 | h1
    · exact ((hp j i h1 hj).hole x e2 e1).symm
    · rw [h1]
    · exact (hp i j h1 hi).hole x e1 e2
  · rw [h.n] at hi hj
    rcases Nat.lt_trichotomy i j with h1 | h1 | h1
    · obtain ⟨c1, c2⟩ := hc j i h1 hj nm' ks' nm ks e.symm e2 e1
      exact ⟨c1.symm, c2.symm, fun k a a' ha ha' => ((hp j i h1 hj).app nm' ks' nm ks e.symm e2 e1 c2 k a' a ha' ha).symm⟩
    · subst h1
      rw [e1] at e2
      injection e2 with e3 e4
      subst e3; subst e4
      refine ⟨rfl, rfl, fun k a a' ha ha' => ?_⟩
      rw [ha] at ha'; injection ha' with ha'; rw [ha']
    · obtain ⟨c1, c2⟩ := hc i j h1 hi nm ks nm' ks' e e1 e2
      exact ⟨c1, c2, (hp i j h1 hi).app nm ks nm' ks' e e1 e2 c2⟩
/-- arguments of two terms of one class have one value -/
theorem RW.argv (h : RW W E ns cl) {i k : Nat} (hi : i < ns.length) (hk : k < ns.length) (hr : rOf cl i = rOf cl k) {nm nm' : ByteArray} {ks ks' : List Nat} (e1 : W.nd i = .app nm ks) (e2 : W.nd k = .app nm' ks') {j a a' : Nat} (ha : ks[j]? = some a) (ha' : ks'[j]? = some a') : ∀ θ, Sat θ E → W.val θ a = W.val θ a' := fun θ hθ => by
  have hiW : i < W.n := by rw [h.n]; exact hi
  have hkW : k < W.n := by rw [h.n]; exact hk
  have h1 := h.sound θ hθ i k hiW hkW hr
  funext q
  have h2 := congrFun h1 (j :: q)
  rw [val_cons h.ok hiW e1, val_cons h.ok hkW e2, ha, ha'] at h2
  exact h2
theorem RW.holev (h : RW W E ns cl) {i k x : Nat} (hi : i < ns.length) (hk : k < ns.length) (e1 : W.nd i = .hole x) (e2 : W.nd k = .hole x) : ∀ θ, Sat θ E → W.val θ i = W.val θ k := fun θ _ => by
  rw [val_hole h.ok (by rw [h.n]; exact hi) e1, val_hole h.ok (by rw [h.n]; exact hk) e2]
theorem RW.clash (h : RW W E ns cl) {i k : Nat} (hi : i < ns.length) (hk : k < ns.length) (hr : rOf cl i = rOf cl k) {nm nm' : ByteArray} {ks ks' : List Nat} (e1 : W.nd i = .app nm ks) (e2 : W.nd k = .app nm' ks') (hne : nm ≠ nm' ∨ ks.length ≠ ks'.length) : Comes E .clash :=
  comes_clash h.ok (by rw [h.n]; exact hi) (by rw [h.n]; exact hk) (fun θ hθ => h.sound θ hθ i k (by rw [h.n]; exact hi) (by rw [h.n]; exact hk) hr) e1 e2 hne

/-! ### A class's term, its least hole -/
def isTm (ns : List TN) (cl : List Nat) (c i : Nat) : Bool := rOf cl i == c && (ns[i]?.map TN.var) == some 0
def tmR (ns : List TN) (cl : List Nat) (c : Nat) : Option Nat := (List.range ns.length).find? (isTm ns cl c)
theorem isTm_iff {c i : Nat} (hi : i < ns.length) : isTm ns cl c i = true ↔ rOf cl i = c ∧ ns[i].var = 0 := by unfold isTm; simp [hi]
theorem tmR_some {c i : Nat} (hi : i < ns.length) (h : isTm ns cl c i = true) (hn : ∀ j, j < i → isTm ns cl c j = false) : tmR ns cl c = some i := by
  unfold tmR
  rw [List.find?_eq_some_iff_getElem]
  refine ⟨h, i, by simpa using hi, by simp, fun j hj => ?_⟩
  have := hn j hj
  simp [this]
theorem tmR_none {c : Nat} (hn : ∀ j, j < ns.length → isTm ns cl c j = false) : tmR ns cl c = none := by
  unfold tmR
  rw [List.find?_eq_none]
  intro j hj
  have := hn j (List.mem_range.1 hj)
  simp [this]
theorem tmR_is {c i : Nat} (h : tmR ns cl c = some i) : ∃ hi : i < ns.length, rOf cl i = c ∧ ns[i].var = 0 := by
  have h1 := List.find?_some h
  have h2 := List.mem_range.1 (List.mem_of_find?_eq_some h)
  exact ⟨h2, (isTm_iff h2).1 h1⟩
theorem tmR_not {c : Nat} (h : tmR ns cl c = none) {i : Nat} (hi : i < ns.length) (hc : rOf cl i = c) : ns[i].var ≠ 0 := fun e => by
  unfold tmR at h
  rw [List.find?_eq_none] at h
  exact h i (List.mem_range.2 hi) ((isTm_iff hi).2 ⟨hc, e⟩)
def lowStep (ns : List TN) (cl : List Nat) (c n i : Nat) : Nat :=
  let v := ((ns[i]?.map TN.var).getD 0).toNat
  if rOf cl i = c ∧ 0 < v ∧ (n = 0 ∨ v < n) then v else n
def lowTo (ns : List TN) (cl : List Nat) (c : Nat) : Nat → Nat
  | 0 => 0
  | i + 1 => lowStep ns cl c (lowTo ns cl c i) i
def loR (ns : List TN) (cl : List Nat) (c : Nat) : Nat := lowTo ns cl c ns.length
theorem lowTo_is (c : Nat) : ∀ m, m ≤ ns.length → (lowTo ns cl c m = 0 ∧ ∀ j (hj : j < ns.length), j < m → rOf cl j = c → ¬ 0 < ns[j].var) ∨ (1 ≤ lowTo ns cl c m ∧ (∃ j, ∃ hj : j < ns.length, j < m ∧ rOf cl j = c ∧ ns[j].var = (lowTo ns cl c m : Nat)) ∧ ∀ j (hj : j < ns.length), j < m → rOf cl j = c → 0 < ns[j].var → ((lowTo ns cl c m : Nat) : Int) ≤ ns[j].var)
  | 0, _ => .inl ⟨rfl, fun j _ h => absurd h (Nat.not_lt_zero _)⟩
  | m + 1, hm => by
    have ih := lowTo_is c m (by omega)
    have hmn : m < ns.length := by omega
    have hv : ((ns[m]?.map TN.var).getD 0).toNat = ns[m].var.toNat := by simp [hmn]
    have hs : lowTo ns cl c (m + 1) = if rOf cl m = c ∧ 0 < ns[m].var.toNat ∧ (lowTo ns cl c m = 0 ∨ ns[m].var.toNat < lowTo ns cl c m) then ns[m].var.toNat else lowTo ns cl c m := by
      show lowStep ns cl c (lowTo ns cl c m) m = _
      unfold lowStep
      rw [hv]
    rw [hs]
    have split : ∀ j, j < m + 1 → j < m ∨ j = m := fun j h => by omega
    by_cases hc : rOf cl m = c ∧ 0 < ns[m].var.toNat ∧ (lowTo ns cl c m = 0 ∨ ns[m].var.toNat < lowTo ns cl c m)
    · rw [if_pos hc]
      refine .inr ⟨hc.2.1, ⟨m, hmn, by omega, hc.1, by have := hc.2.1; omega⟩, fun j hj hjm hjc hjv => ?_⟩
      rcases split j hjm with h1 | h1
      · rcases ih with ⟨i1, i2⟩ | ⟨i1, _, i3⟩
        · exact absurd hjv (i2 j hj h1 hjc)
        · have := i3 j hj h1 hjc hjv
          have := hc.2.2
          omega
      · subst h1; omega
    · rw [if_neg hc]
      rcases ih with ⟨i1, i2⟩ | ⟨i1, ⟨j0, i2, i3, i4, i5⟩, i6⟩
      · refine .inl ⟨i1, fun j hj hjm hjc hjv => ?_⟩
        rcases split j hjm with h1 | h1
        · exact i2 j hj h1 hjc hjv
        · subst h1; exact hc ⟨hjc, by omega, .inl i1⟩
      · refine .inr ⟨i1, ⟨j0, i2, by omega, i4, i5⟩, fun j hj hjm hjc hjv => ?_⟩
        rcases split j hjm with h1 | h1
        · exact i6 j hj h1 hjc hjv
        · subst h1
          rcases Nat.lt_or_ge ns[j].var.toNat (lowTo ns cl c j) with h2 | h2
          · exact absurd ⟨hjc, by omega, .inr h2⟩ hc
          · omega
theorem RW.app_ (h : RW W E ns cl) {i : Nat} (hi : i < ns.length) (h0 : ns[i].var = 0) : W.nd i = .app ns[i].name (ns[i].args.map Int.toNat) := by rw [h.nd i hi]; exact if_neg (by omega)
theorem RW.hole_ (h : RW W E ns cl) {i : Nat} (hi : i < ns.length) (h0 : 0 < ns[i].var) : W.nd i = .hole ns[i].var.toNat := by rw [h.nd i hi]; exact if_pos h0
theorem RW.of_hole (h : RW W E ns cl) {i x : Nat} (hi : i < ns.length) (e : W.nd i = .hole x) : ns[i].var = (x : Int) ∧ 0 < x := by
  rw [h.nd i hi] at e
  unfold ndT at e
  by_cases h0 : 0 < ns[i].var
  · rw [if_pos h0] at e; injection e with e; omega
  · rw [if_neg h0] at e; cases e
theorem RW.of_app (h : RW W E ns cl) {i : Nat} {nm : ByteArray} {ks : List Nat} (hi : i < ns.length) (e : W.nd i = .app nm ks) : ns[i].var = 0 ∧ ns[i].name = nm ∧ ns[i].args.map Int.toNat = ks := by
  rw [h.nd i hi] at e
  unfold ndT at e
  by_cases h0 : 0 < ns[i].var
  · rw [if_pos h0] at e; cases e
  · rw [if_neg h0] at e; injection e with e1 e2
    have := (h.node _ (List.getElem_mem hi)).var
    exact ⟨by omega, e1, e2⟩
theorem RW.heads (h : RW W E ns cl) : Heads W (rOf cl) (tmR ns cl) (loR ns cl) := by
  refine ⟨fun i t hi ht => ?_, fun i hi ht => ?_⟩
  · obtain ⟨h1, h2, h3⟩ := tmR_is ht
    exact ⟨by rw [h.n]; exact h1, h2, _, _, h.app_ h1 h3⟩
  · have hi' : i < ns.length := by rw [← h.n]; exact hi
    have hv : 0 < ns[i].var := by
      have h1 := tmR_not ht hi' rfl
      have := (h.node _ (List.getElem_mem hi')).var
      omega
    rcases lowTo_is (ns := ns) (cl := cl) (rOf cl i) ns.length (Nat.le_refl _) with ⟨h1, h2⟩ | ⟨h1, ⟨j, hj, _, h3, h4⟩, h5⟩
    · exact absurd hv (h2 i hi' hi' rfl)
    · have h6 := h5 i hi' hi' rfl hv
      refine ⟨⟨_, h.hole_ hi' hv, ?_⟩, j, by rw [h.n]; exact hj, h3, ?_⟩
      · show lowTo ns cl (rOf cl i) ns.length ≤ _; omega
      · rw [h.hole_ hj (by omega), h4]
        show Nd.hole _ = Nd.hole (lowTo ns cl (rOf cl i) ns.length)
        simp
end
end Go.Proofs.Ytgcbnndbeoekgaa
