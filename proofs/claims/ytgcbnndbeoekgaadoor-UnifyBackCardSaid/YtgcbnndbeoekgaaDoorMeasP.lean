import Derived.Test.YtgcbnndbeoekgaaDoorMeetM
set_option linter.unusedSimpArgs false
set_option linter.unusedVariables false
/- how great what a node stands for is, and whether it goes round: in plain Lean -/
namespace Go.Proofs.YtgcbnndbeoekgaaDoor
open Go Go.RowKit Go.Maps

def seenOf (l : List PN) (c : Nat) : Nat := (l[c]?.map PN.seen).getD 0
theorem seenOf_at {l : List PN} {c : Nat} (h : c < l.length) : seenOf l c = l[c].seen := by simp [seenOf, h]
/-- marks: 1: on the way (G), 2: done -/
structure Marks (W : WebT) (r : Nat → Nat) (tm : Nat → Option Nat) (lo : Nat → Nat) (l : List PN) (G : Nat → Prop) : Prop where
  at_ : ∀ c (h : c < l.length), r c = c → (l[c].seen = 0 ∧ ¬ G c) ∨ (l[c].seen = 1 ∧ G c) ∨ (l[c].seen = 2 ∧ ¬ G c ∧ ∃ T, Lay W r tm lo c T ∧ l[c].size = min T.size 257)
def whites (l : List PN) (r : Nat → Nat) : Nat := ((List.range l.length).filter fun c => (r c == c) && (seenOf l c == 0)).length
theorem whites_le {l l' : List PN} {r : Nat → Nat} (hl : l'.length = l.length) (h : ∀ c, r c = c → seenOf l' c = 0 → seenOf l c = 0) : whites l' r ≤ whites l r := by
  unfold whites
  rw [hl]
  exact filter_less (fun c hc => by
    simp only [Bool.and_eq_true, beq_iff_eq] at hc ⊢
    exact ⟨hc.1, h c hc.1 hc.2⟩) _
theorem whites_lt {l l' : List PN} {r : Nat → Nat} (hl : l'.length = l.length) (h : ∀ c, r c = c → seenOf l' c = 0 → seenOf l c = 0) {x : Nat} (hx : x < l.length) (rx : r x = x) (h0 : seenOf l x = 0) (h1 : seenOf l' x ≠ 0) : whites l' r < whites l r := by
  unfold whites
  rw [hl]
  exact filter_lt (fun c hc => by
    simp only [Bool.and_eq_true, beq_iff_eq] at hc ⊢
    exact ⟨hc.1, h c hc.1 hc.2⟩) (by simp [rx, h0]) (by simp [h1]) _ (List.mem_range.2 hx)
section
variable {W : WebT} {r : Nat → Nat} {tm : Nat → Option Nat} {lo : Nat → Nat} {l l' : List PN} {G : Nat → Prop}
theorem Marks.ups (h : Marks W r tm lo l G) (hu : Ups l l') : Marks W r tm lo l' G := ⟨fun c hc hr => by
  have hc' : c < l.length := by rw [← hu.1]; exact hc
  rw [hu.2 c hc' hc]; exact h.at_ c hc' hr⟩
theorem seen_ups (hu : Ups l l') (c : Nat) : seenOf l' c = seenOf l c := by
  by_cases h : c < l.length
  · have h' : c < l'.length := by rw [hu.1]; exact h
    rw [seenOf_at h, seenOf_at h', hu.2 c h h']
  · have h1 : l.length ≤ c := by omega
    have h2 : l'.length ≤ c := by rw [hu.1]; exact h1
    simp [seenOf, List.getElem?_eq_none h1, List.getElem?_eq_none h2]
/-- what goes round is found -/
theorem Marks.cyc {x i : Nat} (hi : i < W.n) (hx : r i = x) (rx : r x = x) (hg : Part2 W r tm x i) : Cyc W r tm := ⟨x, i, hi, hg, by rw [rx, hx]⟩
theorem part2_step {g i t a : Nat} {nm : ByteArray} {ks : List Nat} (h : Part2 W r tm g i) (hi : i < W.n) (ht : tm (r i) = some t) (e : W.nd t = .app nm ks) (ha : a ∈ ks) : Part2 W r tm g a := by
  induction h with
  | one g t' b nm' ks' h1 h2 h3 h4 => exact .more g t' b a nm' ks' h1 h2 h3 h4 (.one b t a nm ks hi ht e ha)
  | more g t' b k nm' ks' h1 h2 h3 h4 h5 ih => exact .more g t' b a nm' ks' h1 h2 h3 h4 (ih hi ht)
theorem LayL.snoc {ks : List Nat} {Ls : List Fo} {a : Nat} {T : Fo} (h : LayL W r tm lo ks Ls) (hT : Lay W r tm lo (r a) T) : LayL W r tm lo (ks ++ [a]) (Ls ++ [T]) := by
  induction ks generalizing Ls with
  | nil => cases h; exact .cons _ _ _ _ hT .nil
  | cons x ks ih =>
    cases h with
    | cons _ _ U Ls h1 h2 => exact .cons _ _ _ _ h1 (ih h2)
theorem ofL_snoc_size (Ls : List Fo) (T : Fo) : (ofL (Ls ++ [T])).size = (ofL Ls).size + T.size := by
  rw [ofL_app, Fo.size_app2]
  show _ + (T.app2 .nil).size = _
  rw [Fo.app2_nil]
/-- a root goes on its way -/
theorem Marks.gray (h : Marks W r tm lo l G) {x : Nat} (hx : x < l.length) (h0 : l[x].seen = 0) {z : PN} (hz : z = { l[x] with seen := 1 }) : Marks W r tm lo (l.set x z) (fun c => G c ∨ c = x) := ⟨fun c hc hr => by
  have hc' : c < l.length := by simpa using hc
  by_cases e : x = c
  · subst e
    refine .inr (.inl ⟨?_, .inr rfl⟩)
    rw [List.getElem_set_self, hz]
  · rw [List.getElem_set_ne e]
    rcases h.at_ c hc' hr with ⟨a, b⟩ | ⟨a, b⟩ | ⟨a, b, c'⟩
    · exact .inl ⟨a, fun h => h.elim b (fun e2 => e e2.symm)⟩
    · exact .inr (.inl ⟨a, .inl b⟩)
    · exact .inr (.inr ⟨a, fun h => h.elim b (fun e2 => e e2.symm), c'⟩)⟩
/-- a root is done -/
theorem Marks.done {x : Nat} (h : Marks W r tm lo l (fun c => G c ∨ c = x)) (hg : ¬ G x) {T : Fo} (hT : Lay W r tm lo x T) {z : PN} (hx : x < l.length) (hz : z = { l[x] with size := min T.size 257, seen := 2 }) : Marks W r tm lo (l.set x z) G := ⟨fun c hc hr => by
  have hc' : c < l.length := by simpa using hc
  by_cases e : x = c
  · subst e
    refine .inr (.inr ⟨?_, hg, T, hT, ?_⟩)
    · rw [List.getElem_set_self, hz]
    · rw [List.getElem_set_self, hz]
  · rw [List.getElem_set_ne e]
    rcases h.at_ c hc' hr with ⟨a, b⟩ | ⟨a, b⟩ | ⟨a, b, c'⟩
    · exact .inl ⟨a, fun h => b (.inl h)⟩
    · rcases b with b | b
      · exact .inr (.inl ⟨a, b⟩)
      · exact absurd b.symm e
    · exact .inr (.inr ⟨a, fun h => b (.inl h), c'⟩)⟩
theorem same0_set {x : Nat} (hx : x < l.length) {z : PN} (hz : ∃ s k, z = { l[x] with seen := s, size := k }) : Same0 l (l.set x z) := ⟨by simp, fun i h h' => by
  by_cases e : x = i
  · subst e
    obtain ⟨s, k, hz⟩ := hz
    rw [List.getElem_set_self, hz]
  · rw [List.getElem_set_ne e]⟩
theorem seen_set {x : Nat} (hx : x < l.length) (z : PN) : seenOf (l.set x z) x = z.seen := by simp [seenOf, hx]
theorem seen_set_ne {x c : Nat} (h : x ≠ c) (z : PN) : seenOf (l.set x z) c = seenOf l c := by simp [seenOf, h]
theorem upOf_seen {x : Nat} (hx : x < l.length) {z : PN} (hz : z.up = l[x].up) : ∀ i, upOf (l.set x z) i = upOf l i := fun i => by
  by_cases e : x = i
  · subst e; rw [upOf_set hx, hz, upOf_at hx]
  · exact upOf_set_ne e z
theorem PW.mark {hm : List (Nat × Nat)} (h : PW W r tm lo l hm) {x : Nat} (hx : x < l.length) {z : PN} (hz : ∃ s k, z = { l[x] with seen := s, size := k }) : PW W r tm lo (l.set x z) hm := by
  refine h.same (same0_set hx hz) ?_
  obtain ⟨d, hd⟩ := h.uf
  have e : upOf (l.set x z) = upOf l := funext (upOf_seen hx (by obtain ⟨s, k, hz⟩ := hz; rw [hz]))
  exact ⟨d, by rw [e]; exact hd⟩
end
section
variable {w wx w' : World} {B p mb : Nat} {lv tv : Value} {hm td : List (Nat × Nat)} {l l' l'' : List PN}
theorem MeetM.then (h : MeetM w B p mb lv tv hm wx tv l td) (k : MeetM wx B p mb lv tv hm w' tv l' td) : MeetM w B p mb lv tv hm w' tv l' td := ⟨h.kb.trans k.kb (fun _ e => .inl e), k.web, fun _ e => .inl e⟩
end
/-- what measure leaves -/
structure Measured (w : World) (B p mb : Nat) (lv tv : Value) (hm td : List (Nat × Nat)) (W : WebT) (r : Nat → Nat) (tm : Nat → Option Nat) (lo : Nat → Nat) (l : List PN) (G : Nat → Prop) (w' : World) (l' : List PN) : Prop where
  mem : MeetM w B p mb lv tv hm w' tv l' td
  pw : PW W r tm lo l' hm
  marks : Marks W r tm lo l' G
  same : Same0 l l'
  seen : ∀ c, r c = c → seenOf l c = 2 → seenOf l' c = 2
  less : whites l' r ≤ whites l r
def SomeMeas (w : World) (B p mb : Nat) (lv tv : Value) (hm td : List (Nat × Nat)) (W : WebT) (r : Nat → Nat) (tm : Nat → Option Nat) (lo : Nat → Nat) (l : List PN) (G : Nat → Prop) (i : Nat) (e : Ending) (w' : World) : Prop :=
  (e = .returned (.bool true) ∧ ∃ l', Measured w B p mb lv tv hm td W r tm lo l G w' l' ∧ seenOf l' (r i) = 2) ∨ (e = .returned (.bool false) ∧ Cyc W r tm ∧ Kb (Wb p mb lv tv) w w')
end Go.Proofs.YtgcbnndbeoekgaaDoor
