/- trees that may go on for ever, what solves equations; a bound is told by its solutions: in plain Lean -/
import Derived.Test.YtgcbnndbeoekgaaDoorBndP
set_option linter.unusedSimpArgs false
set_option linter.unusedVariables false
namespace Go.Proofs.YtgcbnndbeoekgaaDoor
open Go Go.RowKit

inductive Lab where
  | hole (n : Nat)
  | fn (nm : ByteArray) (k : Nat)
/-- a tree that may go on for ever: what stands at each path -/
abbrev IT := List Nat → Option Lab
def evF (θ : Nat → IT) : Fo → Nat → IT
  | .nil, _ => fun _ => none
  | .hole n r, i => match i with | 0 => θ n | i + 1 => evF θ r i
  | .app nm k r, i => match i with
    | 0 => fun p => match p with | [] => some (.fn nm k.cnt) | j :: q => evF θ k j q
    | i + 1 => evF θ r i
/-- a tree's value -/
def ev (θ : Nat → IT) (T : Fo) : IT := evF θ T 0
section
variable {θ θ' : Nat → IT}
theorem evF_out : ∀ (K : Fo) (i : Nat), K.cnt ≤ i → evF θ K i = fun _ => none
  | .nil, _, _ => rfl
  | .hole n r, i, h => by
    have h : 1 + r.cnt ≤ i := h
    obtain ⟨i, rfl⟩ : ∃ k, i = k + 1 := ⟨i - 1, by omega⟩
    exact evF_out r i (by omega)
  | .app nm k r, i, h => by
    have h : 1 + r.cnt ≤ i := h
    obtain ⟨i, rfl⟩ : ∃ k, i = k + 1 := ⟨i - 1, by omega⟩
    exact evF_out r i (by omega)
theorem evF_app2 : ∀ (F G : Fo) (i : Nat), evF θ (F.app2 G) i = if i < F.cnt then evF θ F i else evF θ G (i - F.cnt)
  | .nil, G, i => by show evF θ G i = if i < 0 then _ else evF θ G (i - 0); rw [if_neg (by omega)]; rfl
  | .hole n r, G, i => by
    show evF θ (.hole n (r.app2 G)) i = if i < 1 + r.cnt then _ else evF θ G (i - (1 + r.cnt))
    cases i with
    | zero => rw [if_pos (by omega)]; rfl
    | succ i =>
      show evF θ (r.app2 G) i = _
      rw [evF_app2 r G i]
      by_cases h : i < r.cnt
      · rw [if_pos h, if_pos (by omega)]; rfl
      · rw [if_neg h, if_neg (by omega), show i + 1 - (1 + r.cnt) = i - r.cnt by omega]
  | .app nm k r, G, i => by
    show evF θ (.app nm k (r.app2 G)) i = if i < 1 + r.cnt then _ else evF θ G (i - (1 + r.cnt))
    cases i with
    | zero => rw [if_pos (by omega)]; rfl
    | succ i =>
      show evF θ (r.app2 G) i = _
      rw [evF_app2 r G i]
      by_cases h : i < r.cnt
      · rw [if_pos h, if_pos (by omega)]; rfl
      · rw [if_neg h, if_neg (by omega), show i + 1 - (1 + r.cnt) = i - r.cnt by omega]
/-- holes of a forest -/
def Fo.has : Fo → Nat → Prop
  | .nil, _ => False
  | .hole n r, m => n = m ∨ r.has m
  | .app _ k r, m => k.has m ∨ r.has m
theorem evF_congr : ∀ (K : Fo) (i : Nat), (∀ n, K.has n → θ n = θ' n) → evF θ K i = evF θ' K i
  | .nil, _, _ => rfl
  | .hole n r, i, h => by
    cases i with
    | zero => exact h n (.inl rfl)
    | succ i => exact evF_congr r i (fun m hm => h m (.inr hm))
  | .app nm k r, i, h => by
    cases i with
    | zero =>
      show (fun p => match p with | [] => some (Lab.fn nm k.cnt) | j :: q => evF θ k j q) = (fun p => match p with | [] => some (Lab.fn nm k.cnt) | j :: q => evF θ' k j q)
      funext p
      cases p with
      | nil => rfl
      | cons j q => exact congrFun (evF_congr k j (fun m hm => h m (.inl hm))) q
    | succ i => exact evF_congr r i (fun m hm => h m (.inr hm))
theorem ev_one {T : Fo} (h : T.one) (i : Nat) : evF θ T i = if i = 0 then ev θ T else fun _ => none := by
  by_cases h0 : i = 0
  · subst h0; rw [if_pos rfl]; rfl
  · rw [if_neg h0]; exact evF_out T i (by rw [Fo.one_cnt h]; omega)
/-- what stands for holes are trees -/
def One1 (σ : Nat → Option Fo) : Prop := ∀ n T, σ n = some T → T.one
theorem One1.stood {σ : Nat → Option Fo} (h : One1 σ) (n : Nat) : (stood σ n).one := by
  unfold Go.Proofs.YtgcbnndbeoekgaaDoor.stood
  cases e : σ n with
  | none => exact rfl
  | some T => exact h n T e
theorem sub_cnt1 {σ : Nat → Option Fo} (h : One1 σ) : ∀ F : Fo, (F.sub σ).cnt = F.cnt
  | .nil => rfl
  | .hole n r => by show ((stood σ n).app2 (r.sub σ)).cnt = 1 + r.cnt; rw [Fo.cnt_app2, Fo.one_cnt (h.stood n), sub_cnt1 h r]
  | .app _ k r => by show 1 + (r.sub σ).cnt = 1 + r.cnt; rw [sub_cnt1 h r]
/-- putting in and then valuing -/
theorem evF_sub {σ : Nat → Option Fo} (hσ : One1 σ) : ∀ (K : Fo) (i : Nat), evF θ (K.sub σ) i = evF (fun n => ev θ (stood σ n)) K i
  | .nil, _ => rfl
  | .hole n r, i => by
    show evF θ ((stood σ n).app2 (r.sub σ)) i = _
    rw [evF_app2, Fo.one_cnt (hσ.stood n)]
    cases i with
    | zero => rw [if_pos (by omega)]; rfl
    | succ i => rw [if_neg (by omega)]; exact evF_sub hσ r i
  | .app nm k r, i => by
    cases i with
    | zero =>
      show (fun p => match p with | [] => some (Lab.fn nm (k.sub σ).cnt) | j :: q => evF θ (k.sub σ) j q) = (fun p => match p with | [] => some (Lab.fn nm k.cnt) | j :: q => evF (fun n => ev θ (stood σ n)) k j q)
      funext p
      cases p with
      | nil => show some (Lab.fn nm (k.sub σ).cnt) = _; rw [sub_cnt1 hσ]
      | cons j q => exact congrFun (evF_sub hσ k j) q
    | succ i => exact evF_sub hσ r i
end
/-- a hole alone -/
def leaf (n : Nat) : IT := fun p => match p with | [] => some (.hole n) | _ :: _ => none
theorem leaf_inj {n m : Nat} (h : leaf n = leaf m) : n = m := by
  have := congrFun h []
  simp only [leaf] at this
  injection this with this
  injection this
theorem evF_leaf_inj : ∀ (K L : Fo), K.cnt = L.cnt → (∀ i, evF leaf K i = evF leaf L i) → K = L
  | .nil, L, h, _ => (Fo.cnt_nil h.symm).symm
  | .hole n r, L, h, hi => by
    have h0 := congrFun (hi 0) []
    cases L with
    | nil => have h : 1 + r.cnt = 0 := h; omega
    | hole m s =>
      have h : 1 + r.cnt = 1 + s.cnt := h
      have e : leaf n = leaf m := hi 0
      rw [leaf_inj e, evF_leaf_inj r s (by omega) (fun i => hi (i + 1))]
    | app nm k s => exact absurd (show some (Lab.hole n) = some (Lab.fn nm k.cnt) from h0) (by simp)
  | .app nm k r, L, h, hi => by
    have h0 := congrFun (hi 0) []
    cases L with
    | nil => have h : 1 + r.cnt = 0 := h; omega
    | hole m s => exact absurd (show some (Lab.fn nm k.cnt) = some (Lab.hole m) from h0) (by simp)
    | app nm' k' s =>
      have h : 1 + r.cnt = 1 + s.cnt := h
      have h0 : some (Lab.fn nm k.cnt) = some (Lab.fn nm' k'.cnt) := h0
      injection h0 with h0
      injection h0 with h1 h2
      rw [h1, evF_leaf_inj k k' h2 (fun j => funext fun q => congrFun (hi 0) (j :: q)), evF_leaf_inj r s (by omega) (fun i => hi (i + 1))]
theorem ev_leaf_inj {T U : Fo} (h1 : T.one) (h2 : U.one) (h : ev leaf T = ev leaf U) : T = U :=
  evF_leaf_inj T U (by rw [Fo.one_cnt h1, Fo.one_cnt h2]) fun i => by
    rw [ev_one h1, ev_one h2, h]

/-! ### Equations, and bounds as equations -/
def Sat (θ : Nat → IT) (E : List (Fo × Fo)) : Prop := ∀ p ∈ E, ev θ p.1 = ev θ p.2
def SatB (θ : Nat → IT) (bs : List (Nat × Fo)) : Prop := ∀ p ∈ bs, θ p.1 = ev θ p.2
theorem Sat.app {θ : Nat → IT} {E F : List (Fo × Fo)} : Sat θ (E ++ F) ↔ Sat θ E ∧ Sat θ F :=
  ⟨fun h => ⟨fun p hp => h p (List.mem_append_left _ hp), fun p hp => h p (List.mem_append_right _ hp)⟩, fun ⟨h, k⟩ p hp => (List.mem_append.1 hp).elim (h p) (k p)⟩
def eqsB (bs : List (Nat × Fo)) : List (Fo × Fo) := bs.map fun p => (.hole p.1 .nil, p.2)
theorem sat_eqsB {θ : Nat → IT} {bs : List (Nat × Fo)} : Sat θ (eqsB bs) ↔ SatB θ bs := by
  constructor
  · intro h p hp; exact h _ (List.mem_map_of_mem (f := fun p : Nat × Fo => (Fo.hole p.1 .nil, p.2)) hp)
  · intro h p hp
    obtain ⟨q, hq, rfl⟩ := List.mem_map.1 hp
    exact h q hq
/-- the form of a bound -/
structure NF (bs : List (Nat × Fo)) : Prop where
  rise : bs.Pairwise (fun p q => p.1 < q.1)
  pos : ∀ p ∈ bs, 1 ≤ p.1
  one : ∀ p ∈ bs, p.2.one
  free : ∀ p ∈ bs, ∀ q ∈ bs, ¬ p.2.has q.1
  less : ∀ p ∈ bs, ∀ m, p.2 = .hole m .nil → m < p.1
section
variable {bs bs' : List (Nat × Fo)}
theorem look_mem (h : NF bs) {p : Nat × Fo} (hp : p ∈ bs) : lookB bs p.1 = some p.2 := by
  cases e : lookB bs p.1 with
  | none =>
    unfold lookB at e
    rw [Option.map_eq_none_iff, List.find?_eq_none] at e
    have := e p hp
    simp at this
  | some T =>
    have h1 := lookB_mem e
    have h2 : ∀ (l : List (Nat × Fo)), l.Pairwise (fun p q => p.1 < q.1) → p ∈ l → (p.1, T) ∈ l → T = p.2 := by
      intro l
      induction l with
      | nil => intro _ h; cases h
      | cons x r ih =>
        intro hl ha hb
        obtain ⟨c1, c2⟩ := List.pairwise_cons.1 hl
        rcases List.mem_cons.1 ha with e1 | e1 <;> rcases List.mem_cons.1 hb with e2 | e2
        · rw [← e2] at e1; rw [e1]
        · have := c1 _ e2; rw [← e1] at this; simp at this
        · have := c1 _ e1; rw [← e2] at this; simp at this
        · exact ih c2 e1 e2
    rw [h2 bs h.rise hp h1]
theorem NF.onesB (h : NF bs) : lookB bs 0 = none ∧ ∀ n T, lookB bs n = some T → T.one := by
  refine ⟨?_, fun n T e => h.one _ (lookB_mem e)⟩
  cases e : lookB bs 0 with
  | none => rfl
  | some T => have := h.pos _ (lookB_mem e); simp at this
/-- what stands for a hole, a tree -/
def std (bs : List (Nat × Fo)) (n : Nat) : Fo := stood (lookB bs) n
theorem std_one (h : NF bs) (n : Nat) : (std bs n).one := by
  unfold std stood
  cases e : lookB bs n with
  | none => exact rfl
  | some T => exact h.onesB.2 n T e
theorem sub_id {σ : Nat → Option Fo} : ∀ (K : Fo), (∀ n, K.has n → stood σ n = .hole n .nil) → K.sub σ = K
  | .nil, _ => rfl
  | .hole n r, h => by show (stood σ n).app2 (r.sub σ) = _; rw [h n (.inl rfl), sub_id r (fun m hm => h m (.inr hm))]; rfl
  | .app nm k r, h => by show Fo.app nm (k.sub σ) (r.sub σ) = _; rw [sub_id k (fun m hm => h m (.inl hm)), sub_id r (fun m hm => h m (.inr hm))]
theorem std_free (h : NF bs) {n k : Nat} (hk : (std bs n).has k) : std bs k = .hole k .nil := by
  unfold std stood at hk ⊢
  cases e : lookB bs k with
  | none => rfl
  | some U =>
    exfalso
    cases e2 : lookB bs n with
    | none => rw [e2] at hk; rcases hk with rfl | hk; · rw [e2] at e; cases e
              · exact hk
    | some T => rw [e2] at hk; exact h.free _ (lookB_mem e2) _ (lookB_mem e) hk
/-- the valuation by a bound solves it -/
def valB (bs : List (Nat × Fo)) (n : Nat) : IT := ev leaf (std bs n)
theorem evF_valB (h : NF bs) (K : Fo) (i : Nat) : evF (valB bs) K i = evF leaf (K.sub (lookB bs)) i := (evF_sub h.onesB.2 K i).symm
theorem ev_valB (h : NF bs) (T : Fo) : ev (valB bs) T = ev leaf (T.sub (lookB bs)) := evF_valB h T 0
theorem valB_sat (h : NF bs) : SatB (valB bs) bs := by
  intro p hp
  have h1 : std bs p.1 = p.2 := by unfold std stood; rw [look_mem h hp]
  show ev leaf (std bs p.1) = _
  rw [ev_valB h, h1, sub_id p.2 (fun k hk => std_free h (n := p.1) (by rw [h1]; exact hk))]
/-- whoever solves a bound values each hole as what stands for it -/
theorem satB_std {θ : Nat → IT} (h : SatB θ bs) (n : Nat) : θ n = ev θ (std bs n) := by
  unfold std stood
  cases e : lookB bs n with
  | none => rfl
  | some T => exact h _ (lookB_mem e)
theorem sub_one1 {σ : Nat → Option Fo} (h : One1 σ) {T : Fo} (h1 : T.one) : (T.sub σ).one := by
  rcases Fo.one_cases h1 with ⟨n, rfl⟩ | ⟨nm, K, rfl⟩
  · rw [Fo.sub_hole]; exact h.stood n
  · exact rfl
/-- each is got from the other by putting in -/
theorem std_of (h : NF bs) (h' : NF bs') (hs : ∀ θ, SatB θ bs → SatB θ bs') (n : Nat) : std bs n = (std bs' n).sub (lookB bs) := by
  have h1 := satB_std (hs _ (valB_sat h)) n
  rw [ev_valB h] at h1
  exact ev_leaf_inj (std_one h n) (sub_one1 h.onesB.2 (std_one h' n)) h1
theorem std_low (h : NF bs) {n m : Nat} (e : std bs n = .hole m .nil) : m = n ∨ m < n := by
  unfold std stood at e
  cases e2 : lookB bs n with
  | none => rw [e2] at e; injection e with e; exact .inl e.symm
  | some T => rw [e2] at e; exact .inr (h.less _ (lookB_mem e2) m e)
theorem std_hole (h : NF bs) (h' : NF bs') (hs : ∀ θ, SatB θ bs ↔ SatB θ bs') {n m : Nat} (e : std bs n = .hole m .nil) : std bs' n = .hole m .nil := by
  have a := std_of h h' (fun θ => (hs θ).1) n
  have b := std_of h' h (fun θ => (hs θ).2) n
  rw [e] at a b
  rw [Fo.sub_hole] at b
  have hb : std bs' n = std bs' m := b
  rcases Fo.one_cases (std_one h' n) with ⟨k, hk⟩ | ⟨nm, K, hk⟩
  · rw [hk] at a ⊢
    rw [Fo.sub_hole] at a
    have ha : std bs k = .hole m .nil := a.symm
    have hb2 : std bs' m = .hole k .nil := by rw [← hb]; exact hk
    have := std_low h ha
    have := std_low h' hb2
    rw [show k = m by omega]
  · rw [hk] at a; cases a
theorem std_eq (h : NF bs) (h' : NF bs') (hs : ∀ θ, SatB θ bs ↔ SatB θ bs') (n : Nat) : std bs n = std bs' n := by
  rcases Fo.one_cases (std_one h n) with ⟨m, hm⟩ | ⟨nm, K, hm⟩
  · rw [hm, std_hole h h' hs hm]
  · have b := std_of h' h (fun θ => (hs θ).2) n
    rw [b, sub_id (std bs n) (fun k hk => std_hole h h' hs (std_free h hk))]
open Classical in
theorem look_std (h : NF bs) (n : Nat) : lookB bs n = if std bs n = .hole n .nil then none else some (std bs n) := by
  unfold std stood
  cases e : lookB bs n with
  | none => simp
  | some T =>
    have : T ≠ .hole n .nil := fun e2 => by have := h.less _ (lookB_mem e) n e2; simp at this
    simp [this]
theorem rise_eq : ∀ {l l' : List (Nat × Fo)}, l.Pairwise (fun p q => p.1 < q.1) → l'.Pairwise (fun p q => p.1 < q.1) → (∀ p, p ∈ l ↔ p ∈ l') → l = l'
  | [], [], _, _, _ => rfl
  | [], y :: r', _, _, h => by have := (h y).2 (List.mem_cons_self ..); cases this
  | x :: r, [], _, _, h => by have := (h x).1 (List.mem_cons_self ..); cases this
  | x :: r, y :: r', h1, h2, h => by
    obtain ⟨a1, a2⟩ := List.pairwise_cons.1 h1
    obtain ⟨b1, b2⟩ := List.pairwise_cons.1 h2
    have hxy : x = y := by
      rcases List.mem_cons.1 ((h x).1 (List.mem_cons_self ..)) with e | e
      · exact e
      · rcases List.mem_cons.1 ((h y).2 (List.mem_cons_self ..)) with e2 | e2
        · exact e2.symm
        · have := b1 x e; have := a1 y e2; omega
    subst hxy
    rw [rise_eq a2 b2 (fun p => ⟨fun hp => ?_, fun hp => ?_⟩)]
    · rcases List.mem_cons.1 ((h p).1 (List.mem_cons_of_mem _ hp)) with e | e
      · subst e; have := a1 _ hp; omega
      · exact e
    · rcases List.mem_cons.1 ((h p).2 (List.mem_cons_of_mem _ hp)) with e | e
      · subst e; have := b1 _ hp; omega
      · exact e
/-- two bounds that are solved alike are one -/
theorem bound_uniq (h : NF bs) (h' : NF bs') (hs : ∀ θ, SatB θ bs ↔ SatB θ bs') : bs = bs' := by
  refine rise_eq h.rise h'.rise fun p => ?_
  have key : ∀ {b b' : List (Nat × Fo)}, NF b → NF b' → (∀ n, std b n = std b' n) → p ∈ b → p ∈ b' := by
    intro b b' hb hb' he hp
    have h1 := look_mem hb hp
    rw [look_std hb, he, ← look_std hb'] at h1
    exact lookB_mem h1
  exact ⟨key h h' (std_eq h h' hs), key h' h (fun n => (std_eq h h' hs n).symm)⟩
end
end Go.Proofs.YtgcbnndbeoekgaaDoor
