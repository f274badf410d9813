import Derived.Test.YtgcbnndbeoekgaaNFP
import Derived.Test.YtgcbnndbeoekgaaLayP
import Derived.Test.YtgcbnndbeoekgaaRWebP
import Derived.Test.YtgcbnndbeoekgaaUBound
import Derived.Test.YtgcbnndbeoekgaaUMeet
import Derived.Test.YtgcbnndbeoekgaaULay
set_option linter.unusedSimpArgs false
set_option linter.unusedVariables false
section
/- pair by pair: what holds between two pairs; in plain Lean -/
namespace Go.Proofs.Ytgcbnndbeoekgaa
open Go Go.RowKit Go.Maps

section
variable {W W' : WebT} {r r' : Nat → Nat} {tm tm' : Nat → Option Nat} {lo lo' : Nat → Nat} {td : List (Nat × Nat)} {E : List (Fo × Fo)}
theorem USt.more (h : USt W r tm lo td E) (F : List (Fo × Fo)) : USt W r tm lo td (E ++ F) :=
  ⟨h.ok, h.lt, h.idem, h.hol, h.some_, h.none_, h.low, h.cong, fun θ hθ => h.sound θ (sat_more hθ), fun p hp => ⟨(h.todo p hp).1, (h.todo p hp).2.1, fun θ hθ => (h.todo p hp).2.2 θ (sat_more hθ)⟩⟩
/-- the pair of an equation is to meet -/
theorem USt.pair (h : USt W r tm lo [] E) {a b : Nat} (ha : a < W.n) (hb : b < W.n) {p : Fo × Fo} (hp : p ∈ E) (e1 : W.tr a = p.1) (e2 : W.tr b = p.2) : USt W r tm lo [(a, b)] E := by
  refine ⟨h.ok, h.lt, h.idem, h.hol, h.some_, h.none_, h.low, fun i t nm ks nm' ks' hi e ht e' => ?_, h.sound, fun q hq => ?_⟩
  · obtain ⟨c1, c2, c3⟩ := h.cong i t nm ks nm' ks' hi e ht e'
    exact ⟨c1, c2, fun k x y hx hy => (c3 k x y hx hy).mono (fun _ _ => .cls) (fun _ _ h => by cases h)⟩
  · simp only [List.mem_cons, List.not_mem_nil, or_false] at hq
    subst hq
    exact ⟨ha, hb, fun θ hθ => by unfold WebT.val; rw [e1, e2]; exact hθ p hp⟩
theorem Meets.grown (h : Meets W r E) (hg : Grown W W' r tm tm' lo lo') : Meets W' r E := fun p hp => by
  obtain ⟨i, j, hi, hj, e1, e2, e3⟩ := h p hp
  exact ⟨i, j, Nat.lt_of_lt_of_le hi hg.n, Nat.lt_of_lt_of_le hj hg.n, by rw [(hg.nd i hi).2]; exact e1, by rw [(hg.nd j hj).2]; exact e2, e3⟩
theorem Meets.then (h : Meets W r E) (hr : ∀ i j, r i = r j → r' i = r' j) {a b : Nat} {p : Fo × Fo} (ha : a < W.n) (hb : b < W.n) (e1 : W.tr a = p.1) (e2 : W.tr b = p.2) (hab : r' a = r' b) : Meets W r' (E ++ [p]) := fun q hq => by
  rcases List.mem_append.1 hq with hq | hq
  · obtain ⟨i, j, hi, hj, f1, f2, f3⟩ := h q hq
    exact ⟨i, j, hi, hj, f1, f2, hr i j f3⟩
  · simp only [List.mem_cons, List.not_mem_nil, or_false] at hq
    subst hq
    exact ⟨a, b, ha, hb, e1, e2, hab⟩
end
/-- nothing yet -/
def webNil : WebT := ⟨0, fun _ => .hole 0, fun _ => .nil⟩
theorem ust_nil (E : List (Fo × Fo)) : USt webNil (fun i => i) (fun _ => none) (fun _ => 0) [] E :=
  ⟨⟨fun i h hi => absurd hi (Nat.not_lt_zero _), fun i nm ks hi => absurd hi (Nat.not_lt_zero _)⟩, fun i hi => absurd hi (Nat.not_lt_zero _), fun i hi => absurd hi (Nat.not_lt_zero _), fun i j x hi => absurd hi (Nat.not_lt_zero _), fun i t hi => absurd hi (Nat.not_lt_zero _), fun i hi => absurd hi (Nat.not_lt_zero _), fun i hi => absurd hi (Nat.not_lt_zero _), fun i t nm ks nm' ks' hi => absurd hi (Nat.not_lt_zero _), fun θ _ i j hi => absurd hi (Nat.not_lt_zero _), fun p hp => by cases hp⟩
theorem pw_nil : PW webNil (fun i => i) (fun _ => none) (fun _ => 0) [] [] :=
  ⟨rfl, fun i h => absurd h (by simp), fun i h => absurd h (by simp), ⟨fun _ => 0, ⟨fun i h => absurd h (by simp), fun i h => absurd h (by simp), fun i h => absurd h (by simp), fun i h => absurd h (by simp), fun i h => absurd h (by simp), fun i h => absurd h (by simp)⟩⟩, fun _ _ => rfl, fun i h => absurd h (by simp), fun i h => absurd h (by simp), fun h k => ⟨fun h => (by cases h), fun ⟨h, _⟩ => absurd h (Nat.not_lt_zero _)⟩⟩
/-- a bound's equations have a solution -/
theorem bound_sat {bs : List (Nat × Fo)} (h : NF bs) (j : Nat) : ∃ θ, Sat θ (eqsB (bs.take j)) := by
  refine ⟨valB bs, sat_eqsB.2 fun p hp => valB_sat h p (List.mem_of_mem_take hp)⟩
end Go.Proofs.Ytgcbnndbeoekgaa
end
section
/- between two pairs of Add: the web in memory and what it says -/
namespace Go.Proofs.Ytgcbnndbeoekgaa
open Go Go.RowKit Go.Maps

structure AddI (B p mb N : Nat) (wB wx : World) (lv tv : Value) (l : List PN) (hm td : List (Nat × Nat)) (W : WebT) (r : Nat → Nat) (tm : Nat → Option Nat) (lo : Nat → Nat) (E : List (Fo × Fo)) : Prop where
  below : Below B wB wx
  hB : B ≤ wB.heap.size
  web : WebAt wx B p lv mb tv l hm td
  pw : PW W r tm lo l hm
  ust : USt W r tm lo [] E
  meets : Meets W r E
  ok : ∀ x ∈ l, NOk x
  few : l.length ≤ N ∧ hm.length ≤ N
  holes : ∀ q ∈ hm, q.1 ≤ 2147483647
section
variable {B p mb N : Nat} {wB wx w' : World} {lv lv' tv : Value} {l : List PN} {hm td : List (Nat × Nat)} {W : WebT} {r : Nat → Nat} {tm : Nat → Option Nat} {lo : Nat → Nat} {E : List (Fo × Fo)} {T : Fo}
theorem AddI.size (h : AddI B p mb N wB wx lv tv l hm td W r tm lo E) : B ≤ wx.heap.size := Nat.le_trans h.hB h.below.size
theorem AddI.alloc (h : AddI B p mb N wB wx lv tv l hm td W r tm lo E) (o : Obj) : AddI B p mb N wB (wx.alloc o) lv tv l hm td W r tm lo E :=
  { h with below := h.below.alloc h.size o, web := h.web.alloc o }
theorem AddI.drew (h : AddI B p mb N wB wx lv tv l hm td W r tm lo E) : AddI B p mb N wB wx.drew lv tv l hm td W r tm lo E :=
  { h with below := h.below.drew, web := h.web.drewN 1 }
theorem flat_argsIn {T : Fo} (h1 : T.one) (hw : T.wf) : ∀ t ∈ T.flat 0, ∀ a ∈ t.args, 0 ≤ a ∧ a < (T.flat 0).length := fun t ht a ha => by
  obtain ⟨tr, hT, _⟩ := tree_trees h1 hw
  obtain ⟨j, hj, rfl⟩ := List.getElem_of_mem ht
  have hl := Fo.flat_len T 0
  rcases hT.at_ j hj with ⟨n, _, e, _⟩ | ⟨nm, ks, e, _, h3⟩
  · rw [e] at ha; cases ha
  · rw [e] at ha
    obtain ⟨b, hb, rfl⟩ := List.mem_map.1 ha
    have := h3 b hb
    show (0 : Int) ≤ (b : Int) ∧ (b : Int) < _
    omega
theorem AddI.layin (h : AddI B p mb N wB wx lv tv l hm td W r tm lo E) (h1 : T.one) (hw : T.wf) (h3 : T.size ≤ 256) (hN : N ≤ 549755813888) (hnr : ∀ t ∈ T.flat 0, NodeR t) : LayIn (T.flat 0) l hm := by
  have hl := Fo.flat_len T 0
  have hp := Fo.one_size h1
  refine ⟨⟨by omega, by omega⟩, ⟨by have := h.few.1; omega, by have := h.few.2; omega⟩, fun x k k' a b => ?_, fun q hq => ?_, hnr, fun t ht => ⟨by have := flat_args T 0 t ht; omega, flat_argsIn h1 hw t ht⟩⟩
  · obtain ⟨a1, a2⟩ := (h.pw.holes x k).1 a
    obtain ⟨b1, b2⟩ := (h.pw.holes x k').1 b
    exact h.ust.hol k k' x a1 b1 a2 b2
  · obtain ⟨x, k⟩ := q
    obtain ⟨a1, a2⟩ := (h.pw.holes x k).1 hq
    exact ⟨by rw [← h.pw.len]; exact a1, (h.ust.ok.hole k x a1 a2).1⟩
theorem AddI.laid (h : AddI B p mb N wB wx lv tv l hm td W r tm lo E) (h1 : T.one) (hw : T.wf) (h3 : T.size ≤ 256) {l1 l2 : List PN} {hm' : List (Nat × Nat)} {at_ : List Nat} (hp : LayPost wx B p mb lv tv td (T.flat 0) l hm w' lv' l1 l2 hm' at_) :
    ∃ W' tm' lo', AddI B p mb (N + 256) wB w' lv' tv l2 hm' td W' r tm' lo' E ∧ (∀ i, i < W.n → i < W'.n ∧ W'.tr i = W.tr i) ∧ ∀ k, at_[0]? = some k → k < W'.n ∧ W'.tr k = T := by
  obtain ⟨W', tm', lo', hg, hpw, hn, hlen, h0, ha0, hat⟩ := lay_grown h1 hw rfl h.pw h.ust.ok h.ust.hol (fun t ht => (flat_var T 0 hw t ht).1) hp.one hp.two
  have hfl := Fo.flat_len T 0
  refine ⟨W', tm', lo', ⟨h.below.trans (hp.kb.below h.size (fun n hn => (h.web.wb_lt hn).1)), h.hB, hp.web, hpw, hg.ust _ _ h.ust, h.meets.grown hg, fun x hx => ?_, ⟨by have := h.few.1; omega, by have := h.few.2; have := hp.one.cnt; omega⟩, fun q hq => ?_⟩, fun i hi => ⟨by have := hg.n; omega, (hg.nd i hi).2⟩, fun k hk => ?_⟩
  · obtain ⟨k, hk, rfl⟩ := List.getElem_of_mem hx
    have hk1 : k < l1.length := by rw [← hp.two.len]; exact hk
    have hargs : ∀ t ∈ T.flat 0, t.args.length ≤ 256 := fun t ht => by have := flat_args T 0 t ht; omega
    have base : NOk l1[k] := by
      by_cases hk0 : k < l.length
      · rw [hp.one.pre k hk0 hk1]; exact h.ok _ (List.getElem_mem hk0)
      · rcases hp.one.new k hk1 (by omega) with ⟨x, _, e⟩ | ⟨j, a, b, c, d⟩
        · rw [e]; exact ⟨Nat.zero_le _, rfl⟩
        · obtain ⟨_, hk2, e⟩ := hp.one.aat j a b c
          subst d
          rw [e]; exact ⟨Nat.zero_le _, rfl⟩
    rcases hp.two.at_ k hk1 hk with ⟨j, a, b, c, d, e, av, f⟩ | ⟨_, f⟩
    · rw [f]
      refine ⟨?_, base.2⟩
      show (atArgs at_ _).length ≤ 256
      unfold atArgs
      rw [List.length_map]
      exact hargs _ (List.getElem_mem b)
    · rw [f]; exact base
  · rcases hp.one.rng q hq with h4 | ⟨t, ht, e⟩
    · exact h.holes q h4
    · have := (flat_var T 0 hw t ht).2; omega
  · rw [List.getElem?_eq_getElem h0] at hk
    injection hk with hk
    subst hk
    exact ⟨ha0, hat⟩
theorem AddI.met (h : AddI B p mb N wB wx lv tv l hm td W r tm lo E) {a b : Nat} (ha : a < W.n) (hb : b < W.n) {q : Fo × Fo} (e1 : W.tr a = q.1) (e2 : W.tr b = q.2) {tv' : Value} {l' : List PN} {r' : Nat → Nat} {tm' : Nat → Option Nat} {lo' : Nat → Nat}
    (hM : MeetM wx B p mb lv tv hm w' tv' l' []) (hP : PW W r' tm' lo' l' hm) (hU : USt W r' tm' lo' [] (E ++ [q])) (hr : ∀ i j, r i = r j → r' i = r' j) (hab : r' a = r' b) (hok : ∀ x ∈ l', NOk x) : AddI B p mb N wB w' lv tv' l' hm [] W r' tm' lo' (E ++ [q]) := by
  refine ⟨h.below.trans (hM.kb.below h.size fun n hn => (h.web.wb_lt hn).1), h.hB, hM.web, hP, hU, h.meets.then hr ha hb e1 e2 hab, hok, ⟨?_, h.few.2⟩, h.holes⟩
  have h1 := hP.len
  have h2 := h.pw.len
  have := h.few.1
  omega
theorem AddI.meet_in (h : AddI B p mb N wB wx lv tv l hm td W r tm lo E) {a b : Nat} (ha : a < W.n) (hb : b < W.n) {q : Fo × Fo} (e1 : W.tr a = q.1) (e2 : W.tr b = q.2) : USt W r tm lo [(a, b)] (E ++ [q]) :=
  (h.ust.more [q]).pair ha hb (List.mem_append_right _ (List.mem_cons_self ..)) e1 e2
theorem AddI.call (h : AddI B p mb N wB wx lv tv l hm td W r tm lo E) (hN : N ≤ 17179869184) {a b : Nat} (ha : a < W.n) (hb : b < W.n) {q : Fo × Fo} (e1 : W.tr a = q.1) (e2 : W.tr b = q.2) :
    Calls Try.prog 32 #[.pointer (some ⟨p, 0, none⟩), .int .i64 a, .int .i64 b] wx (fun e w' => (e = .returned (.bool true) ∧ ∃ tv' l' r' tm' lo', AddI B p mb N wB w' lv tv' l' hm [] W r' tm' lo' (E ++ [q]) ∧ Kb (Wb p mb lv tv) wx w') ∨ (e = .returned (.bool false) ∧ Comes (E ++ [q]) .clash ∧ Kb (Wb p mb lv tv) wx w')) := by
  refine (umeet_any wx B p mb lv tv l hm td W (E ++ [q]) r tm lo a b h.size h.web h.pw (h.meet_in ha hb e1 e2) h.ok (by have := h.few.1; omega)).mono ?_
  rintro e w' (⟨rfl, tv', l', r', tm', lo', hM, hP, hU, hr, hab, hok⟩ | ⟨rfl, hc, hk⟩)
  · exact .inl ⟨rfl, tv', l', r', tm', lo', h.met ha hb e1 e2 hM hP hU hr hab hok, hM.kb⟩
  · exact .inr ⟨rfl, hc, hk⟩
/-- a term is laid: what comes -/
def LaidAs (B p mb N : Nat) (wB wx : World) (lv0 tv : Value) (td : List (Nat × Nat)) (W : WebT) (r : Nat → Nat) (E : List (Fo × Fo)) (T : Fo) (e : Ending) (w' : World) : Prop :=
  ∃ k : Nat, e = .returned (.int .i64 k) ∧ ∃ lv l hm W' tm' lo', AddI B p mb N wB w' lv tv l hm td W' r tm' lo' E ∧ (∀ i, i < W.n → i < W'.n ∧ W'.tr i = W.tr i) ∧ k < W'.n ∧ W'.tr k = T ∧ Kb (Wb p mb lv0 tv) wx w'
theorem AddI.lay (h : AddI B p mb N wB wx lv tv l hm td W r tm lo E) (hN : N ≤ 549755813888) (h1 : T.one) (hw : T.wf) (h3 : T.size ≤ 256) (hnr : ∀ t ∈ T.flat 0, NodeR t) {ts : List TN} (hts : ts = T.flat 0) {A : Option Addr} {c : Nat} {F : Nat → Prop} (hF : ∀ b, F b → b < wx.heap.size ∧ ¬ Wb p mb lv tv b) (hr : RowOf 3 ETN wx F A ts) (hlc : ts.length ≤ c) (hc : c ≤ maxLen) :
    Calls Try.prog 33 #[.pointer (some ⟨p, 0, none⟩), .agg #[.slice A ts.length c]] wx (LaidAs B p mb (N + 256) wB wx lv tv td W r E T) := by
  subst hts
  refine (ulay_any wx B p mb lv tv td (T.flat 0) l hm A c F hF hr hlc hc h.size h.web (h.layin h1 hw h3 hN hnr)).mono ?_
  rintro e w' ⟨lv', l1, l2, hm', at_, ⟨k, rfl, hk⟩, hp⟩
  obtain ⟨W', tm', lo', hI, hold, hat⟩ := h.laid h1 hw h3 hp
  exact ⟨k, rfl, lv', l2, hm', W', tm', lo', hI, hold, (hat k hk).1, (hat k hk).2, hp.kb⟩
end
/-- a hole's tree -/
theorem hole_nodeR {h : Nat} (h1 : 1 ≤ h) (h2 : h ≤ 2147483647) : ∀ t ∈ (Fo.hole h .nil).flat 0, NodeR t := fun t ht => by
  have ht : t ∈ [(⟨h, ByteArray.empty, []⟩ : TN)] := ht
  simp only [List.mem_cons, List.not_mem_nil, or_false] at ht
  subst ht
  exact .inl ⟨by show (1 : Int) ≤ (h : Int); omega, by show (h : Int) ≤ 2147483647; omega, rfl, rfl⟩
theorem hole_row {w : World} {q : Nat} {x : Int} (h : Blk w q 66 #[.int .i64 x, .string ByteArray.empty, .slice none 0 0]) : RowOf 3 ETN w (fun b => b = q) (some ⟨q, 0, none⟩) [(⟨x, ByteArray.empty, []⟩ : TN)] := by
  refine ⟨fun _ => ⟨q, 0, rfl, rfl⟩, fun i hi => ?_⟩
  have : i = 0 := by simp at hi; omega
  subst this
  refine ⟨[.int .i64 x, .string ByteArray.empty, .slice none 0 0], rfl, ⟨_, rfl, IsRow.nil⟩, fun b off e j hj => ?_⟩
  injection e with e
  injection e with e1 e2
  subst e1; subst e2
  rw [h.cell]
  match j, hj with
  | 0, _ => rfl
  | 1, _ => rfl
  | 2, _ => rfl
end Go.Proofs.Ytgcbnndbeoekgaa
end
