import Derived.Test.YtgcbnndbeoekgaaDoorBndP
set_option linter.unusedSimpArgs false
set_option linter.unusedVariables false
section
/- trees that may go on for ever, what solves equations; a bound is told by its solutions: in plain Lean -/
namespace Go.Proofs.YtgcbnndbeoekgaaDoor
open Go Go.RowKit

inductive Lab where
  | hole (n : Nat)
  | fn (nm : ByteArray) (k : Nat)
/-- a tree that may go on for ever: what stands at each path -/
abbrev IT := List Nat → Option Lab
def evF (θ : Nat → IT) : Fo → Nat → IT
  | .nil, _ => fun _ => none
  | .hole n r, i => match i with | 0 => θ n | i + 1 => evF θ r i
  | .app nm k r, i => match i with
    | 0 => fun p => match p with | [] => some (.fn nm k.cnt) | j :: q => evF θ k j q
    | i + 1 => evF θ r i
/-- a tree's value -/
def ev (θ : Nat → IT) (T : Fo) : IT := evF θ T 0
section
variable {θ θ' : Nat → IT}
theorem evF_out : ∀ (K : Fo) (i : Nat), K.cnt ≤ i → evF θ K i = fun _ => none
  | .nil, _, _ => rfl
  | .hole n r, i, h => by
    have h : 1 + r.cnt ≤ i := h
    obtain ⟨i, rfl⟩ : ∃ k, i = k + 1 := ⟨i - 1, by omega⟩
    exact evF_out r i (by omega)
  | .app nm k r, i, h => by
    have h : 1 + r.cnt ≤ i := h
    obtain ⟨i, rfl⟩ : ∃ k, i = k + 1 := ⟨i - 1, by omega⟩
    exact evF_out r i (by omega)
theorem evF_app2 : ∀ (F G : Fo) (i : Nat), evF θ (F.app2 G) i = if i < F.cnt then evF θ F i else evF θ G (i - F.cnt)
  | .nil, G, i => by show evF θ G i = if i < 0 then _ else evF θ G (i - 0); rw [if_neg (by omega)]; rfl
  | .hole n r, G, i => by
    show evF θ (.hole n (r.app2 G)) i = if i < 1 + r.cnt then _ else evF θ G (i - (1 + r.cnt))
    cases i with
    | zero => rw [if_pos (by omega)]; rfl
    | succ i =>
      show evF θ (r.app2 G) i = _
      rw [evF_app2 r G i]
      by_cases h : i < r.cnt
      · rw [if_pos h, if_pos (by omega)]; rfl
      · rw [if_neg h, if_neg (by omega), show i + 1 - (1 + r.cnt) = i - r.cnt by omega]
  | .app nm k r, G, i => by
    show evF θ (.app nm k (r.app2 G)) i = if i < 1 + r.cnt then _ else evF θ G (i - (1 + r.cnt))
    cases i with
    | zero => rw [if_pos (by omega)]; rfl
    | succ i =>
      show evF θ (r.app2 G) i = _
      rw [evF_app2 r G i]
      by_cases h : i < r.cnt
      · rw [if_pos h, if_pos (by omega)]; rfl
      · rw [if_neg h, if_neg (by omega), show i + 1 - (1 + r.cnt) = i - r.cnt by omega]
/-- holes of a forest -/
def Fo.has : Fo → Nat → Prop
  | .nil, _ => False
  | .hole n r, m => n = m ∨ r.has m
  | .app _ k r, m => k.has m ∨ r.has m
theorem evF_congr : ∀ (K : Fo) (i : Nat), (∀ n, K.has n → θ n = θ' n) → evF θ K i = evF θ' K i
  | .nil, _, _ => rfl
  | .hole n r, i, h => by
    cases i with
    | zero => exact h n (.inl rfl)
    | succ i => exact evF_congr r i (fun m hm => h m (.inr hm))
  | .app nm k r, i, h => by
    cases i with
    | zero =>
      show (fun p => match p with | [] => some (Lab.fn nm k.cnt) | j :: q => evF θ k j q) = (fun p => match p with | [] => some (Lab.fn nm k.cnt) | j :: q => evF θ' k j q)
      funext p
      cases p with
      | nil => rfl
      | cons j q => exact congrFun (evF_congr k j (fun m hm => h m (.inl hm))) q
    | succ i => exact evF_congr r i (fun m hm => h m (.inr hm))
theorem ev_one {T : Fo} (h : T.one) (i : Nat) : evF θ T i = if i = 0 then ev θ T else fun _ => none := by
  by_cases h0 : i = 0
  · subst h0; rw [if_pos rfl]; rfl
  · rw [if_neg h0]; exact evF_out T i (by rw [Fo.one_cnt h]; omega)
/-- what stands for holes are trees -/
def One1 (σ : Nat → Option Fo) : Prop := ∀ n T, σ n = some T → T.one
theorem One1.stood {σ : Nat → Option Fo} (h : One1 σ) (n : Nat) : (stood σ n).one := by
  unfold Go.Proofs.YtgcbnndbeoekgaaDoor.stood
  cases e : σ n with
  | none => exact rfl
  | some T => exact h n T e
theorem sub_cnt1 {σ : Nat → Option Fo} (h : One1 σ) : ∀ F : Fo, (F.sub σ).cnt = F.cnt
  | .nil => rfl
  | .hole n r => by show ((stood σ n).app2 (r.sub σ)).cnt = 1 + r.cnt; rw [Fo.cnt_app2, Fo.one_cnt (h.stood n), sub_cnt1 h r]
  | .app _ k r => by show 1 + (r.sub σ).cnt = 1 + r.cnt; rw [sub_cnt1 h r]
/-- putting in and then valuing -/
theorem evF_sub {σ : Nat → Option Fo} (hσ : One1 σ) : ∀ (K : Fo) (i : Nat), evF θ (K.sub σ) i = evF (fun n => ev θ (stood σ n)) K i
  | .nil, _ => rfl
  | .hole n r, i => by
    show evF θ ((stood σ n).app2 (r.sub σ)) i = _
    rw [evF_app2, Fo.one_cnt (hσ.stood n)]
    cases i with
    | zero => rw [if_pos (by omega)]; rfl
    | succ i => rw [if_neg (by omega)]; exact evF_sub hσ r i
  | .app nm k r, i => by
    cases i with
    | zero =>
      show (fun p => match p with | [] => some (Lab.fn nm (k.sub σ).cnt) | j :: q => evF θ (k.sub σ) j q) = (fun p => match p with | [] => some (Lab.fn nm k.cnt) | j :: q => evF (fun n => ev θ (stood σ n)) k j q)
      funext p
      cases p with
      | nil => show some (Lab.fn nm (k.sub σ).cnt) = _; rw [sub_cnt1 hσ]
      | cons j q => exact congrFun (evF_sub hσ k j) q
    | succ i => exact evF_sub hσ r i
end
/-- a hole alone -/
def leaf (n : Nat) : IT := fun p => match p with | [] => some (.hole n) | _ :: _ => none
theorem leaf_inj {n m : Nat} (h : leaf n = leaf m) : n = m := by
  have := congrFun h []
  simp only [leaf] at this
  injection this with this
  injection this
theorem evF_leaf_inj : ∀ (K L : Fo), K.cnt = L.cnt → (∀ i, evF leaf K i = evF leaf L i) → K = L
  | .nil, L, h, _ => (Fo.cnt_nil h.symm).symm
  | .hole n r, L, h, hi => by
    have h0 := congrFun (hi 0) []
    cases L with
    | nil => have h : 1 + r.cnt = 0 := h; omega
    | hole m s =>
      have h : 1 + r.cnt = 1 + s.cnt := h
      have e : leaf n = leaf m := hi 0
      rw [leaf_inj e, evF_leaf_inj r s (by omega) (fun i => hi (i + 1))]
    | app nm k s => exact absurd (show some (Lab.hole n) = some (Lab.fn nm k.cnt) from h0) (by simp)
  | .app nm k r, L, h, hi => by
    have h0 := congrFun (hi 0) []
    cases L with
    | nil => have h : 1 + r.cnt = 0 := h; omega
    | hole m s => exact absurd (show some (Lab.fn nm k.cnt) = some (Lab.hole m) from h0) (by simp)
    | app nm' k' s =>
      have h : 1 + r.cnt = 1 + s.cnt := h
      have h0 : some (Lab.fn nm k.cnt) = some (Lab.fn nm' k'.cnt) := h0
      injection h0 with h0
      injection h0 with h1 h2
      rw [h1, evF_leaf_inj k k' h2 (fun j => funext fun q => congrFun (hi 0) (j :: q)), evF_leaf_inj r s (by omega) (fun i => hi (i + 1))]
theorem ev_leaf_inj {T U : Fo} (h1 : T.one) (h2 : U.one) (h : ev leaf T = ev leaf U) : T = U :=
  evF_leaf_inj T U (by rw [Fo.one_cnt h1, Fo.one_cnt h2]) fun i => by
    rw [ev_one h1, ev_one h2, h]

/-! ### Equations, and bounds as equations -/
def Sat (θ : Nat → IT) (E : List (Fo × Fo)) : Prop := ∀ p ∈ E, ev θ p.1 = ev θ p.2
def SatB (θ : Nat → IT) (bs : List (Nat × Fo)) : Prop := ∀ p ∈ bs, θ p.1 = ev θ p.2
theorem Sat.app {θ : Nat → IT} {E F : List (Fo × Fo)} : Sat θ (E ++ F) ↔ Sat θ E ∧ Sat θ F :=
  ⟨fun h => ⟨fun p hp => h p (List.mem_append_left _ hp), fun p hp => h p (List.mem_append_right _ hp)⟩, fun ⟨h, k⟩ p hp => (List.mem_append.1 hp).elim (h p) (k p)⟩
def eqsB (bs : List (Nat × Fo)) : List (Fo × Fo) := bs.map fun p => (.hole p.1 .nil, p.2)
theorem sat_eqsB {θ : Nat → IT} {bs : List (Nat × Fo)} : Sat θ (eqsB bs) ↔ SatB θ bs := by
  constructor
  · intro h p hp; exact h _ (List.mem_map_of_mem (f := fun p : Nat × Fo => (Fo.hole p.1 .nil, p.2)) hp)
  · intro h p hp
    obtain ⟨q, hq, rfl⟩ := List.mem_map.1 hp
    exact h q hq
/-- the form of a bound -/
structure NF (bs : List (Nat × Fo)) : Prop where
  rise : bs.Pairwise (fun p q => p.1 < q.1)
  pos : ∀ p ∈ bs, 1 ≤ p.1
  one : ∀ p ∈ bs, p.2.one
  free : ∀ p ∈ bs, ∀ q ∈ bs, ¬ p.2.has q.1
  less : ∀ p ∈ bs, ∀ m, p.2 = .hole m .nil → m < p.1
section
variable {bs bs' : List (Nat × Fo)}
theorem look_mem (h : NF bs) {p : Nat × Fo} (hp : p ∈ bs) : lookB bs p.1 = some p.2 := by
  cases e : lookB bs p.1 with
  | none =>
    unfold lookB at e
    rw [Option.map_eq_none_iff, List.find?_eq_none] at e
    have := e p hp
    simp at this
  | some T =>
    have h1 := lookB_mem e
    have h2 : ∀ (l : List (Nat × Fo)), l.Pairwise (fun p q => p.1 < q.1) → p ∈ l → (p.1, T) ∈ l → T = p.2 := by
      intro l
      induction l with
      | nil => intro _ h; cases h
      | cons x r ih =>
        intro hl ha hb
        obtain ⟨c1, c2⟩ := List.pairwise_cons.1 hl
        rcases List.mem_cons.1 ha with e1 | e1 <;> rcases List.mem_cons.1 hb with e2 | e2
        · rw [← e2] at e1; rw [e1]
        · have := c1 _ e2; rw [← e1] at this; simp at this
        · have := c1 _ e1; rw [← e2] at this; simp at this
        · exact ih c2 e1 e2
    rw [h2 bs h.rise hp h1]
theorem NF.onesB (h : NF bs) : lookB bs 0 = none ∧ ∀ n T, lookB bs n = some T → T.one := by
  refine ⟨?_, fun n T e => h.one _ (lookB_mem e)⟩
  cases e : lookB bs 0 with
  | none => rfl
  | some T => have := h.pos _ (lookB_mem e); simp at this
/-- what stands for a hole, a tree -/
def std (bs : List (Nat × Fo)) (n : Nat) : Fo := stood (lookB bs) n
theorem std_one (h : NF bs) (n : Nat) : (std bs n).one := by
  unfold std stood
  cases e : lookB bs n with
  | none => exact rfl
  | some T => exact h.onesB.2 n T e
theorem sub_id {σ : Nat → Option Fo} : ∀ (K : Fo), (∀ n, K.has n → stood σ n = .hole n .nil) → K.sub σ = K
  | .nil, _ => rfl
  | .hole n r, h => by show (stood σ n).app2 (r.sub σ) = _; rw [h n (.inl rfl), sub_id r (fun m hm => h m (.inr hm))]; rfl
  | .app nm k r, h => by show Fo.app nm (k.sub σ) (r.sub σ) = _; rw [sub_id k (fun m hm => h m (.inl hm)), sub_id r (fun m hm => h m (.inr hm))]
theorem std_free (h : NF bs) {n k : Nat} (hk : (std bs n).has k) : std bs k = .hole k .nil := by
  unfold std stood at hk ⊢
  cases e : lookB bs k with
  | none => rfl
  | some U =>
    exfalso
    cases e2 : lookB bs n with
    | none => rw [e2] at hk; rcases hk with rfl | hk; · rw [e2] at e; cases e
              · exact hk
    | some T => rw [e2] at hk; exact h.free _ (lookB_mem e2) _ (lookB_mem e) hk
/-- the valuation by a bound solves it -/
def valB (bs : List (Nat × Fo)) (n : Nat) : IT := ev leaf (std bs n)
theorem evF_valB (h : NF bs) (K : Fo) (i : Nat) : evF (valB bs) K i = evF leaf (K.sub (lookB bs)) i := (evF_sub h.onesB.2 K i).symm
theorem ev_valB (h : NF bs) (T : Fo) : ev (valB bs) T = ev leaf (T.sub (lookB bs)) := evF_valB h T 0
theorem valB_sat (h : NF bs) : SatB (valB bs) bs := by
  intro p hp
  have h1 : std bs p.1 = p.2 := by unfold std stood; rw [look_mem h hp]
  show ev leaf (std bs p.1) = _
  rw [ev_valB h, h1, sub_id p.2 (fun k hk => std_free h (n := p.1) (by rw [h1]; exact hk))]
/-- whoever solves a bound values each hole as what stands for it -/
theorem satB_std {θ : Nat → IT} (h : SatB θ bs) (n : Nat) : θ n = ev θ (std bs n) := by
  unfold std stood
  cases e : lookB bs n with
  | none => rfl
  | some T => exact h _ (lookB_mem e)
theorem sub_one1 {σ : Nat → Option Fo} (h : One1 σ) {T : Fo} (h1 : T.one) : (T.sub σ).one := by
  rcases Fo.one_cases h1 with ⟨n, rfl⟩ | ⟨nm, K, rfl⟩
  · rw [Fo.sub_hole]; exact h.stood n
  · exact rfl
/-- each is got from the other by putting in -/
theorem std_of (h : NF bs) (h' : NF bs') (hs : ∀ θ, SatB θ bs → SatB θ bs') (n : Nat) : std bs n = (std bs' n).sub (lookB bs) := by
  have h1 := satB_std (hs _ (valB_sat h)) n
  rw [ev_valB h] at h1
  exact ev_leaf_inj (std_one h n) (sub_one1 h.onesB.2 (std_one h' n)) h1
theorem std_low (h : NF bs) {n m : Nat} (e : std bs n = .hole m .nil) : m = n ∨ m < n := by
  unfold std stood at e
  cases e2 : lookB bs n with
  | none => rw [e2] at e; injection e with e; exact .inl e.symm
  | some T => rw [e2] at e; exact .inr (h.less _ (lookB_mem e2) m e)
theorem std_hole (h : NF bs) (h' : NF bs') (hs : ∀ θ, SatB θ bs ↔ SatB θ bs') {n m : Nat} (e : std bs n = .hole m .nil) : std bs' n = .hole m .nil := by
  have a := std_of h h' (fun θ => (hs θ).1) n
  have b := std_of h' h (fun θ => (hs θ).2) n
  rw [e] at a b
  rw [Fo.sub_hole] at b
  have hb : std bs' n = std bs' m := b
  rcases Fo.one_cases (std_one h' n) with ⟨k, hk⟩ | ⟨nm, K, hk⟩
  · rw [hk] at a ⊢
    rw [Fo.sub_hole] at a
    have ha : std bs k = .hole m .nil := a.symm
    have hb2 : std bs' m = .hole k .nil := by rw [← hb]; exact hk
    have := std_low h ha
    have := std_low h' hb2
    rw [show k = m by omega]
  · rw [hk] at a; cases a
theorem std_eq (h : NF bs) (h' : NF bs') (hs : ∀ θ, SatB θ bs ↔ SatB θ bs') (n : Nat) : std bs n = std bs' n := by
  rcases Fo.one_cases (std_one h n) with ⟨m, hm⟩ | ⟨nm, K, hm⟩
  · rw [hm, std_hole h h' hs hm]
  · have b := std_of h' h (fun θ => (hs θ).2) n
    rw [b, sub_id (std bs n) (fun k hk => std_hole h h' hs (std_free h hk))]
open Classical in
theorem look_std (h : NF bs) (n : Nat) : lookB bs n = if std bs n = .hole n .nil then none else some (std bs n) := by
  unfold std stood
  cases e : lookB bs n with
  | none => simp
  | some T =>
    have : T ≠ .hole n .nil := fun e2 => by have := h.less _ (lookB_mem e) n e2; simp at this
    simp [this]
theorem rise_eq : ∀ {l l' : List (Nat × Fo)}, l.Pairwise (fun p q => p.1 < q.1) → l'.Pairwise (fun p q => p.1 < q.1) → (∀ p, p ∈ l ↔ p ∈ l') → l = l'
  | [], [], _, _, _ => rfl
  | [], y :: r', _, _, h => by have := (h y).2 (List.mem_cons_self ..); cases this
  | x :: r, [], _, _, h => by have := (h x).1 (List.mem_cons_self ..); cases this
  | x :: r, y :: r', h1, h2, h => by
    obtain ⟨a1, a2⟩ := List.pairwise_cons.1 h1
    obtain ⟨b1, b2⟩ := List.pairwise_cons.1 h2
    have hxy : x = y := by
      rcases List.mem_cons.1 ((h x).1 (List.mem_cons_self ..)) with e | e
      · exact e
      · rcases List.mem_cons.1 ((h y).2 (List.mem_cons_self ..)) with e2 | e2
        · exact e2.symm
        · have := b1 x e; have := a1 y e2; omega
    subst hxy
    rw [rise_eq a2 b2 (fun p => ⟨fun hp => ?_, fun hp => ?_⟩)]
    · rcases List.mem_cons.1 ((h p).1 (List.mem_cons_of_mem _ hp)) with e | e
      · subst e; have := a1 _ hp; omega
      · exact e
    · rcases List.mem_cons.1 ((h p).2 (List.mem_cons_of_mem _ hp)) with e | e
      · subst e; have := b1 _ hp; omega
      · exact e
/-- two bounds that are solved alike are one -/
theorem bound_uniq (h : NF bs) (h' : NF bs') (hs : ∀ θ, SatB θ bs ↔ SatB θ bs') : bs = bs' := by
  refine rise_eq h.rise h'.rise fun p => ?_
  have key : ∀ {b b' : List (Nat × Fo)}, NF b → NF b' → (∀ n, std b n = std b' n) → p ∈ b → p ∈ b' := by
    intro b b' hb hb' he hp
    have h1 := look_mem hb hp
    rw [look_std hb, he, ← look_std hb'] at h1
    exact lookB_mem h1
  exact ⟨key h h' (std_eq h h' hs), key h' h (fun n => (std_eq h h' hs n).symm)⟩
end
end Go.Proofs.YtgcbnndbeoekgaaDoor
end
section
/- terms that meet, in classes: what they say of all solutions; in plain Lean -/
namespace Go.Proofs.YtgcbnndbeoekgaaDoor
open Go Go.RowKit

inductive Nd where
  | hole (h : Nat)
  | app (nm : ByteArray) (as : List Nat)
/-- trees in a row, as one forest -/
def ofL : List Fo → Fo
  | [] => .nil
  | T :: r => T.app2 (ofL r)
theorem ofL_cnt : ∀ {L : List Fo}, (∀ T ∈ L, T.one) → (ofL L).cnt = L.length
  | [], _ => rfl
  | T :: r, h => by
    show (T.app2 (ofL r)).cnt = r.length + 1
    rw [Fo.cnt_app2, Fo.one_cnt (h T (List.mem_cons_self ..)), ofL_cnt (fun U hU => h U (List.mem_cons_of_mem _ hU))]; omega
theorem evF_ofL {θ : Nat → IT} : ∀ {L : List Fo}, (∀ T ∈ L, T.one) → ∀ i, evF θ (ofL L) i = match L[i]? with | some T => ev θ T | none => fun _ => none
  | [], _, i => by cases i <;> rfl
  | T :: r, h, i => by
    show evF θ (T.app2 (ofL r)) i = _
    rw [evF_app2, Fo.one_cnt (h T (List.mem_cons_self ..))]
    cases i with
    | zero => rw [if_pos (by omega)]; rfl
    | succ i =>
      rw [if_neg (by omega)]
      exact evF_ofL (fun U hU => h U (List.mem_cons_of_mem _ hU)) i
theorem ofL_size : ∀ {L : List Fo} {T : Fo}, T ∈ L → T.size ≤ (ofL L).size
  | [], _, h => by cases h
  | U :: r, T, h => by
    show T.size ≤ (U.app2 (ofL r)).size
    rw [Fo.size_app2]
    rcases List.mem_cons.1 h with e | e
    · subst e; omega
    · have := ofL_size e; omega
theorem ofL_has : ∀ {L : List Fo} {k : Nat}, (ofL L).has k → ∃ T ∈ L, T.has k
  | [], _, h => h.elim
  | U :: r, k, h => by
    have key : ∀ (F G : Fo), (F.app2 G).has k → F.has k ∨ G.has k := by
      intro F G
      induction F with
      | nil => exact .inr
      | hole n r ih =>
        rintro (h | h)
        · exact .inl (.inl h)
        · exact (ih h).imp .inr id
      | app nm K r _ ih =>
        rintro (h | h)
        · exact .inl (.inl h)
        · exact (ih h).imp .inr id
    rcases key U (ofL r) h with h | h
    · exact ⟨U, List.mem_cons_self .., h⟩
    · obtain ⟨T, hT, h2⟩ := ofL_has h
      exact ⟨T, List.mem_cons_of_mem _ hT, h2⟩
/-- nodes, the tree of each -/
structure WebT where
  n : Nat
  nd : Nat → Nd
  tr : Nat → Fo
structure WebT.OK (W : WebT) : Prop where
  hole : ∀ i h, i < W.n → W.nd i = .hole h → 1 ≤ h ∧ W.tr i = .hole h .nil
  app : ∀ i nm as, i < W.n → W.nd i = .app nm as → (∀ a ∈ as, a < W.n) ∧ W.tr i = .app nm (ofL (as.map W.tr)) .nil
section
variable {W : WebT} {θ : Nat → IT} {r : Nat → Nat} {E : List (Fo × Fo)}
theorem WebT.OK.one (hW : W.OK) {i : Nat} (hi : i < W.n) : (W.tr i).one := by
  cases e : W.nd i with
  | hole h => rw [(hW.hole i h hi e).2]; exact rfl
  | app nm as => rw [(hW.app i nm as hi e).2]; exact rfl
def WebT.val (W : WebT) (θ : Nat → IT) (i : Nat) : IT := ev θ (W.tr i)
theorem val_hole (hW : W.OK) {i h : Nat} (hi : i < W.n) (e : W.nd i = .hole h) : W.val θ i = θ h := by
  unfold WebT.val; rw [(hW.hole i h hi e).2]; rfl
theorem val_nil (hW : W.OK) {i : Nat} {nm : ByteArray} {as : List Nat} (hi : i < W.n) (e : W.nd i = .app nm as) : W.val θ i [] = some (.fn nm as.length) := by
  obtain ⟨h1, h2⟩ := hW.app i nm as hi e
  unfold WebT.val; rw [h2]
  show some (Lab.fn nm (ofL (as.map W.tr)).cnt) = _
  rw [ofL_cnt (fun T hT => by obtain ⟨a, ha, rfl⟩ := List.mem_map.1 hT; exact hW.one (h1 a ha)), List.length_map]
theorem val_cons (hW : W.OK) {i : Nat} {nm : ByteArray} {as : List Nat} (hi : i < W.n) (e : W.nd i = .app nm as) (j : Nat) (q : List Nat) : W.val θ i (j :: q) = match as[j]? with | some a => W.val θ a q | none => none := by
  obtain ⟨h1, h2⟩ := hW.app i nm as hi e
  unfold WebT.val; rw [h2]
  show evF θ (ofL (as.map W.tr)) j q = _
  rw [evF_ofL (fun T hT => by obtain ⟨a, ha, rfl⟩ := List.mem_map.1 hT; exact hW.one (h1 a ha)), List.getElem?_map]
  cases as[j]? <;> rfl
theorem app_ext {u v : IT} {nm : ByteArray} {k : Nat} (h1 : u [] = v []) (h2 : ∀ j q, u (j :: q) = v (j :: q)) : u = v := by
  funext p
  cases p with
  | nil => exact h1
  | cons j q => exact h2 j q
/-- classes that are closed, and in which nothing clashes -/
structure Closed (W : WebT) (r : Nat → Nat) : Prop where
  hole : ∀ i j h, i < W.n → j < W.n → W.nd i = .hole h → W.nd j = .hole h → r i = r j
  app : ∀ i j nm as nm' as', i < W.n → j < W.n → r i = r j → W.nd i = .app nm as → W.nd j = .app nm' as' → nm = nm' ∧ as.length = as'.length ∧ ∀ (k a a' : Nat), as[k]? = some a → as'[k]? = some a' → r a = r a'
/-- in each solution those of one class have one value -/
def Sound (W : WebT) (r : Nat → Nat) (E : List (Fo × Fo)) : Prop := ∀ θ, Sat θ E → ∀ i j, i < W.n → j < W.n → r i = r j → W.val θ i = W.val θ j
/-- both terms of each equation meet -/
def Meets (W : WebT) (r : Nat → Nat) (E : List (Fo × Fo)) : Prop := ∀ p ∈ E, ∃ i j, i < W.n ∧ j < W.n ∧ W.tr i = p.1 ∧ W.tr j = p.2 ∧ r i = r j
/-- of each class: one of its terms, or its least hole -/
structure Heads (W : WebT) (r : Nat → Nat) (tm : Nat → Option Nat) (lo : Nat → Nat) : Prop where
  some_ : ∀ i t, i < W.n → tm (r i) = some t → t < W.n ∧ r t = r i ∧ ∃ nm as, W.nd t = .app nm as
  none_ : ∀ i, i < W.n → tm (r i) = none → (∃ h, W.nd i = .hole h ∧ lo (r i) ≤ h) ∧ ∃ j, j < W.n ∧ r j = r i ∧ W.nd j = .hole (lo (r i))
section
variable {tm : Nat → Option Nat} {lo : Nat → Nat}
/-- a class unfolded -/
def un (W : WebT) (r : Nat → Nat) (tm : Nat → Option Nat) (lo : Nat → Nat) : List Nat → Nat → Option Lab
  | [], i => match tm (r i) with
    | some t => (match W.nd t with | .app nm as => some (.fn nm as.length) | .hole _ => none)
    | none => some (.hole (lo (r i)))
  | j :: q, i => match tm (r i) with
    | some t => (match W.nd t with | .app _ as => (match as[j]? with | some a => un W r tm lo q a | none => none) | .hole _ => none)
    | none => none
theorem un_class (p : List Nat) {i j : Nat} (h : r i = r j) : un W r tm lo p i = un W r tm lo p j := by
  cases p with
  | nil => unfold un; rw [h]
  | cons k q => unfold un; rw [h]
open Classical in
noncomputable def valU (W : WebT) (r : Nat → Nat) (tm : Nat → Option Nat) (lo : Nat → Nat) (h : Nat) : IT :=
  if e : ∃ i, i < W.n ∧ W.nd i = .hole h then fun p => un W r tm lo p e.choose else leaf h
theorem un_val (hW : W.OK) (hc : Closed W r) (hh : Heads W r tm lo) : ∀ p i, i < W.n → W.val (valU W r tm lo) i p = un W r tm lo p i := by
  have hol : ∀ p i h, i < W.n → W.nd i = .hole h → W.val (valU W r tm lo) i p = un W r tm lo p i := by
    intro p i h hi e
    rw [val_hole hW hi e]
    have hex : ∃ i, i < W.n ∧ W.nd i = .hole h := ⟨i, hi, e⟩
    unfold valU
    rw [dif_pos hex]
    exact un_class p (hc.hole _ _ h hex.choose_spec.1 hi hex.choose_spec.2 e)
  intro p
  induction p with
  | nil =>
    intro i hi
    cases e : W.nd i with
    | hole h => exact hol [] i h hi e
    | app nm as =>
      rw [val_nil hW hi e]
      unfold un
      cases ht : tm (r i) with
      | none => obtain ⟨⟨h, e2, _⟩, _⟩ := hh.none_ i hi ht; rw [e] at e2; cases e2
      | some t =>
        obtain ⟨t1, t2, nm', as', t3⟩ := hh.some_ i t hi ht
        obtain ⟨c1, c2, _⟩ := hc.app i t nm as nm' as' hi t1 t2.symm e t3
        simp only [t3]; rw [c1, c2]
  | cons j q ih =>
    intro i hi
    cases e : W.nd i with
    | hole h => exact hol (j :: q) i h hi e
    | app nm as =>
      rw [val_cons hW hi e]
      unfold un
      cases ht : tm (r i) with
      | none => obtain ⟨⟨h, e2, _⟩, _⟩ := hh.none_ i hi ht; rw [e] at e2; cases e2
      | some t =>
        obtain ⟨t1, t2, nm', as', t3⟩ := hh.some_ i t hi ht
        obtain ⟨c1, c2, c3⟩ := hc.app i t nm as nm' as' hi t1 t2.symm e t3
        simp only [t3]
        cases ha : as[j]? with
        | none =>
          have : as'[j]? = none := List.getElem?_eq_none (by have := List.getElem?_eq_none_iff.1 ha; omega)
          rw [this]
        | some a =>
          have hj : j < as'.length := by have := (List.getElem?_eq_some_iff.1 ha).1; omega
          rw [List.getElem?_eq_getElem hj]
          simp only
          rw [ih a ((hW.app i nm as hi e).1 a (List.mem_of_getElem? ha))]
          exact un_class q (c3 j a _ ha (List.getElem?_eq_getElem hj))
/-- what does not clash has a solution -/
theorem sat_valU (hW : W.OK) (hc : Closed W r) (hh : Heads W r tm lo) (hm : Meets W r E) : Sat (valU W r tm lo) E := by
  intro p hp
  obtain ⟨i, j, hi, hj, e1, e2, e3⟩ := hm p hp
  rw [← e1, ← e2]
  funext q
  have h1 := un_val hW hc hh q i hi
  have h2 := un_val hW hc hh q j hj
  unfold WebT.val at h1 h2
  rw [h1, h2, un_class q e3]
/-- no class is part of itself -/
def Ranked (W : WebT) (r : Nat → Nat) (tm : Nat → Option Nat) (rk : Nat → Nat) : Prop := ∀ i t nm as, i < W.n → tm (r i) = some t → W.nd t = .app nm as → ∀ a ∈ as, rk (r a) < rk (r i)
/-- a class laid out -/
def trC (W : WebT) (r : Nat → Nat) (tm : Nat → Option Nat) (lo : Nat → Nat) : Nat → Nat → Fo
  | 0, i => .hole (lo (r i)) .nil
  | f + 1, i => match tm (r i) with
    | some t => (match W.nd t with | .app nm as => .app nm (ofL (as.map (trC W r tm lo f))) .nil | .hole h => .hole h .nil)
    | none => .hole (lo (r i)) .nil
variable {rk : Nat → Nat}
theorem trC_more (hW : W.OK) (hh : Heads W r tm lo) (hr : Ranked W r tm rk) : ∀ f f' i, i < W.n → rk (r i) < f → rk (r i) < f' → trC W r tm lo f i = trC W r tm lo f' i := by
  intro f
  induction f with
  | zero => intro f' i _ h; omega
  | succ f ih =>
    intro f' i hi h h'
    obtain ⟨f', rfl⟩ : ∃ g, f' = g + 1 := ⟨f' - 1, by omega⟩
    unfold trC
    cases ht : tm (r i) with
    | none => rfl
    | some t =>
      obtain ⟨t1, _, nm, as, t3⟩ := hh.some_ i t hi ht
      simp only [t3]
      congr 2
      refine List.map_congr_left fun a ha => ?_
      have := hr i t nm as hi ht t3 a ha
      exact ih f' a ((hW.app t nm as t1 t3).1 a ha) (by omega) (by omega)
def TC (W : WebT) (r : Nat → Nat) (tm : Nat → Option Nat) (lo : Nat → Nat) (rk : Nat → Nat) (i : Nat) : Fo := trC W r tm lo (rk (r i) + 1) i
theorem TC_class {i j : Nat} (h : r i = r j) : TC W r tm lo rk i = TC W r tm lo rk j := by
  unfold TC; rw [h]; unfold trC; rw [h]
theorem TC_none {i : Nat} (ht : tm (r i) = none) : TC W r tm lo rk i = .hole (lo (r i)) .nil := by
  unfold TC trC; rw [ht]
theorem TC_some (hW : W.OK) (hh : Heads W r tm lo) (hr : Ranked W r tm rk) {i t : Nat} {nm : ByteArray} {as : List Nat} (hi : i < W.n) (ht : tm (r i) = some t) (e : W.nd t = .app nm as) : TC W r tm lo rk i = .app nm (ofL (as.map (TC W r tm lo rk))) .nil := by
  obtain ⟨t1, _⟩ := hh.some_ i t hi ht
  show trC W r tm lo (rk (r i) + 1) i = _
  rw [trC, ht]
  simp only [e]
  congr 2
  refine List.map_congr_left fun a ha => ?_
  have := hr i t nm as hi ht e a ha
  exact trC_more hW hh hr _ _ a ((hW.app t nm as t1 e).1 a ha) (by omega) (by omega)
theorem TC_one (hW : W.OK) (hh : Heads W r tm lo) (hr : Ranked W r tm rk) {i : Nat} (hi : i < W.n) : (TC W r tm lo rk i).one := by
  cases ht : tm (r i) with
  | none => rw [TC_none ht]; exact rfl
  | some t =>
    obtain ⟨_, _, nm, as, e⟩ := hh.some_ i t hi ht
    rw [TC_some hW hh hr hi ht e]; exact rfl
/-- the value of a class, by the values of its arguments -/
theorem ev_TC (hW : W.OK) (hh : Heads W r tm lo) (hr : Ranked W r tm rk) {i t : Nat} {nm : ByteArray} {as : List Nat} (hi : i < W.n) (ht : tm (r i) = some t) (e : W.nd t = .app nm as) :
    ev θ (TC W r tm lo rk i) [] = some (.fn nm as.length) ∧ ∀ j q, ev θ (TC W r tm lo rk i) (j :: q) = match as[j]? with | some a => ev θ (TC W r tm lo rk a) q | none => none := by
  obtain ⟨t1, _⟩ := hh.some_ i t hi ht
  have ho : ∀ T ∈ as.map (TC W r tm lo rk), T.one := fun T hT => by
    obtain ⟨a, ha, rfl⟩ := List.mem_map.1 hT
    exact TC_one hW hh hr ((hW.app t nm as t1 e).1 a ha)
  rw [TC_some hW hh hr hi ht e]
  refine ⟨?_, fun j q => ?_⟩
  · show some (Lab.fn nm (ofL _).cnt) = _
    rw [ofL_cnt ho, List.length_map]
  · show evF θ (ofL _) j q = _
    rw [evF_ofL ho, List.getElem?_map]
    cases as[j]? <;> rfl
theorem val_TC (hW : W.OK) (hh : Heads W r tm lo) (hr : Ranked W r tm rk) (hs : Sound W r E) (hθ : Sat θ E) : ∀ d i, i < W.n → rk (r i) < d → W.val θ i = ev θ (TC W r tm lo rk i) := by
  intro d
  induction d with
  | zero => intro i _ h; omega
  | succ d ih =>
    intro i hi hd
    cases ht : tm (r i) with
    | none =>
      obtain ⟨_, j, hj, e1, e2⟩ := hh.none_ i hi ht
      rw [TC_none ht, hs θ hθ i j hi hj e1.symm, val_hole hW hj e2]; rfl
    | some t =>
      obtain ⟨t1, t2, nm, as, e⟩ := hh.some_ i t hi ht
      rw [hs θ hθ i t hi t1 t2.symm]
      obtain ⟨v1, v2⟩ := ev_TC (θ := θ) hW hh hr hi ht e
      refine app_ext (nm := nm) (k := as.length) ?_ fun j q => ?_
      · rw [val_nil hW t1 e, v1]
      · rw [val_cons hW t1 e, v2]
        cases ha : as[j]? with
        | none => rfl
        | some a =>
          have hm := List.mem_of_getElem? ha
          have := hr i t nm as hi ht e a hm
          exact congrFun (ih a ((hW.app t nm as t1 e).1 a hm) (by omega)) q
/-- the bound of the classes -/
structure BoundOf (W : WebT) (r : Nat → Nat) (tm : Nat → Option Nat) (lo : Nat → Nat) (rk : Nat → Nat) (bs : List (Nat × Fo)) : Prop where
  rise : bs.Pairwise (fun p q => p.1 < q.1)
  mem : ∀ p, p ∈ bs ↔ ∃ i, i < W.n ∧ W.nd i = .hole p.1 ∧ p.2 = TC W r tm lo rk i ∧ p.2 ≠ .hole p.1 .nil
variable {bs : List (Nat × Fo)}
theorem val_TC' (hW : W.OK) (hc : Closed W r) (hh : Heads W r tm lo) (hr : Ranked W r tm rk) (hb : BoundOf W r tm lo rk bs) (hθ : SatB θ bs) : ∀ d i, i < W.n → (W.tr i).size < d → W.val θ i = ev θ (TC W r tm lo rk i) := by
  intro d
  induction d with
  | zero => intro i _ h; omega
  | succ d ih =>
    intro i hi hd
    cases e : W.nd i with
    | hole h =>
      rw [val_hole hW hi e]
      by_cases hT : TC W r tm lo rk i = .hole h .nil
      · rw [hT]; rfl
      · exact hθ (h, TC W r tm lo rk i) ((hb.mem _).2 ⟨i, hi, e, rfl, hT⟩)
    | app nm as =>
      cases ht : tm (r i) with
      | none => obtain ⟨⟨h, e2, _⟩, _⟩ := hh.none_ i hi ht; rw [e] at e2; cases e2
      | some t =>
        obtain ⟨t1, t2, nm', as', e'⟩ := hh.some_ i t hi ht
        obtain ⟨c1, c2, c3⟩ := hc.app i t nm as nm' as' hi t1 t2.symm e e'
        obtain ⟨v1, v2⟩ := ev_TC (θ := θ) hW hh hr hi ht e'
        refine app_ext (nm := nm) (k := as.length) ?_ fun j q => ?_
        · rw [val_nil hW hi e, v1, c1, c2]
        · rw [val_cons hW hi e, v2]
          cases ha : as[j]? with
          | none =>
            have : as'[j]? = none := List.getElem?_eq_none (by have := List.getElem?_eq_none_iff.1 ha; omega)
            rw [this]
          | some a =>
            have hj : j < as'.length := by have := (List.getElem?_eq_some_iff.1 ha).1; omega
            rw [List.getElem?_eq_getElem hj]
            have hm := List.mem_of_getElem? ha
            obtain ⟨w1, w2⟩ := hW.app i nm as hi e
            have hsz : (W.tr a).size < (W.tr i).size := by
              have := ofL_size (List.mem_map_of_mem (f := W.tr) hm)
              rw [w2]
              show _ < 1 + (ofL (as.map W.tr)).size + 0
              omega
            have h1 := congrFun (ih a (w1 a hm) (by omega)) q
            show W.val θ a q = ev θ (TC W r tm lo rk as'[j]) q
            rw [h1, TC_class (c3 j a _ ha (List.getElem?_eq_getElem hj))]
/-- the bound has just the solutions of the equations -/
theorem sat_bound (hW : W.OK) (hc : Closed W r) (hh : Heads W r tm lo) (hr : Ranked W r tm rk) (hs : Sound W r E) (hm : Meets W r E) (hb : BoundOf W r tm lo rk bs) (θ : Nat → IT) : Sat θ E ↔ SatB θ bs := by
  constructor
  · intro h p hp
    obtain ⟨i, hi, e, e2, _⟩ := (hb.mem p).1 hp
    rw [e2, ← val_TC hW hh hr hs h _ i hi (Nat.lt_succ_self _), val_hole hW hi e]
  · intro h p hp
    obtain ⟨i, j, hi, hj, e1, e2, e3⟩ := hm p hp
    have h1 := val_TC' hW hc hh hr hb h _ i hi (Nat.lt_succ_self _)
    have h2 := val_TC' hW hc hh hr hb h _ j hj (Nat.lt_succ_self _)
    unfold WebT.val at h1 h2
    rw [← e1, ← e2, h1, h2, TC_class e3]
theorem TC_has (hW : W.OK) (hh : Heads W r tm lo) (hr : Ranked W r tm rk) : ∀ d i, i < W.n → rk (r i) < d → ∀ k, (TC W r tm lo rk i).has k → ∃ j, j < W.n ∧ tm (r j) = none ∧ k = lo (r j) := by
  intro d
  induction d with
  | zero => intro i _ h; omega
  | succ d ih =>
    intro i hi hd k hk
    cases ht : tm (r i) with
    | none =>
      rw [TC_none ht] at hk
      rcases hk with hk | hk
      · exact ⟨i, hi, ht, hk.symm⟩
      · exact hk.elim
    | some t =>
      obtain ⟨t1, _, nm, as, e⟩ := hh.some_ i t hi ht
      rw [TC_some hW hh hr hi ht e] at hk
      rcases hk with hk | hk
      · obtain ⟨T, hT, hk⟩ := ofL_has hk
        obtain ⟨a, ha, rfl⟩ := List.mem_map.1 hT
        have := hr i t nm as hi ht e a ha
        exact ih a ((hW.app t nm as t1 e).1 a ha) (by omega) k hk
      · exact hk.elim
theorem nf_bound (hW : W.OK) (hc : Closed W r) (hh : Heads W r tm lo) (hr : Ranked W r tm rk) (hb : BoundOf W r tm lo rk bs) : NF bs := by
  refine ⟨hb.rise, fun p hp => ?_, fun p hp => ?_, fun p hp q hq hk => ?_, fun p hp m e => ?_⟩
  · obtain ⟨i, hi, e, _⟩ := (hb.mem p).1 hp
    exact (hW.hole i p.1 hi e).1
  · obtain ⟨i, hi, _, e, _⟩ := (hb.mem p).1 hp
    rw [e]; exact TC_one hW hh hr hi
  · obtain ⟨i, hi, _, e, _⟩ := (hb.mem p).1 hp
    obtain ⟨j, hj, e2, e3, e4⟩ := (hb.mem q).1 hq
    rw [e] at hk
    obtain ⟨l, hl, l1, l2⟩ := TC_has hW hh hr _ i hi (Nat.lt_succ_self _) _ hk
    obtain ⟨_, l0, h0, h1, h2⟩ := hh.none_ l hl l1
    rw [← l2] at h2
    have := hc.hole j l0 q.1 hj h0 e2 h2
    rw [h1] at this
    rw [TC_class this, TC_none l1, ← l2] at e3
    exact e4 e3
  · obtain ⟨i, hi, e2, e3, e4⟩ := (hb.mem p).1 hp
    rw [e] at e3 e4
    cases ht : tm (r i) with
    | some t =>
      obtain ⟨_, _, nm, as, e5⟩ := hh.some_ i t hi ht
      rw [TC_some hW hh hr hi ht e5] at e3; cases e3
    | none =>
      rw [TC_none ht] at e3
      injection e3 with e3
      obtain ⟨⟨h, h1, h2⟩, _⟩ := hh.none_ i hi ht
      rw [e2] at h1
      injection h1 with h1
      have : m ≠ p.1 := fun e6 => e4 (by rw [e6])
      omega
end
end
end Go.Proofs.YtgcbnndbeoekgaaDoor
end
section
/- what comes of equations hangs on their solutions alone; in plain Lean -/
namespace Go.Proofs.YtgcbnndbeoekgaaDoor
open Go Go.RowKit

/-- values that end -/
def FinI (u : IT) : Prop := ∃ d, ∀ p : List Nat, d ≤ p.length → u p = none
def FinS (θ : Nat → IT) : Prop := ∀ n, FinI (θ n)
theorem fin_leaf (n : Nat) : FinI (leaf n) := ⟨1, fun p hp => by cases p with | nil => simp at hp | cons _ _ => rfl⟩
theorem fin_evF {θ : Nat → IT} (h : FinS θ) : ∀ (K : Fo), ∃ d, ∀ i (p : List Nat), d ≤ p.length → evF θ K i p = none
  | .nil => ⟨0, fun _ _ _ => rfl⟩
  | .hole n r => by
    obtain ⟨a, ha⟩ := h n
    obtain ⟨b, hb⟩ := fin_evF h r
    refine ⟨a + b, fun i p hp => ?_⟩
    cases i with
    | zero => exact ha p (by omega)
    | succ i => exact hb i p (by omega)
  | .app nm k r => by
    obtain ⟨a, ha⟩ := fin_evF h k
    obtain ⟨b, hb⟩ := fin_evF h r
    refine ⟨a + 1 + b, fun i p hp => ?_⟩
    cases i with
    | zero =>
      cases p with
      | nil => have : a + 1 + b ≤ 0 := hp; omega
      | cons j q => exact ha j q (by simp at hp; omega)
    | succ i => exact hb i p (by omega)
theorem fin_ev {θ : Nat → IT} (h : FinS θ) (T : Fo) : FinI (ev θ T) := by
  obtain ⟨d, hd⟩ := fin_evF h T
  exact ⟨d, fun p hp => hd 0 p hp⟩
theorem fin_valB (bs : List (Nat × Fo)) : FinS (valB bs) := fun n => fin_ev fin_leaf (std bs n)
/-- what comes of equations -/
inductive Outc where
  | clash
  | occurs
  | long
  | ok (bs : List (Nat × Fo))
def Comes (E : List (Fo × Fo)) : Outc → Prop
  | .clash => ∀ θ, ¬ Sat θ E
  | .occurs => (∃ θ, Sat θ E) ∧ ∀ θ, FinS θ → ¬ Sat θ E
  | .long => ∃ bs, NF bs ∧ (∀ θ, Sat θ E ↔ SatB θ bs) ∧ ∃ p ∈ bs, 256 < p.2.size
  | .ok bs => NF bs ∧ (∀ θ, Sat θ E ↔ SatB θ bs) ∧ ∀ p ∈ bs, p.2.size ≤ 256
theorem Comes.sat_long {E : List (Fo × Fo)} {bs : List (Nat × Fo)} (h : NF bs) (hs : ∀ θ, Sat θ E ↔ SatB θ bs) : Sat (valB bs) E := (hs _).2 (valB_sat h)
/-- what comes hangs on the solutions alone -/
theorem Comes.same {E E' : List (Fo × Fo)} (hE : ∀ θ, Sat θ E ↔ Sat θ E') {o o' : Outc} (h : Comes E o) (h' : Comes E' o') : o = o' := by
  have no : ∀ {E E' : List (Fo × Fo)}, (∀ θ, Sat θ E ↔ Sat θ E') → ∀ {bs}, NF bs → (∀ θ, Sat θ E' ↔ SatB θ bs) → (∀ θ, FinS θ → ¬ Sat θ E) → False := fun hE _ hn hs hf => hf _ (fin_valB _) ((hE _).2 (Comes.sat_long hn hs))
  have eq : ∀ {bs bs'}, NF bs → NF bs' → (∀ θ, Sat θ E ↔ SatB θ bs) → (∀ θ, Sat θ E' ↔ SatB θ bs') → bs = bs' := fun h1 h2 h3 h4 => bound_uniq h1 h2 fun θ => (h3 θ).symm.trans ((hE θ).trans (h4 θ))
  have hE' := fun θ => (hE θ).symm
  cases o with
  | clash =>
    cases o' with
    | clash => rfl
    | occurs => obtain ⟨⟨θ, hθ⟩, _⟩ := h'; exact absurd ((hE θ).2 hθ) (h θ)
    | long => obtain ⟨bs, h1, h2, _⟩ := h'; exact (no hE h1 h2 (fun θ _ => h θ)).elim
    | ok bs => obtain ⟨h1, h2, _⟩ := h'; exact (no hE h1 h2 (fun θ _ => h θ)).elim
  | occurs =>
    cases o' with
    | clash => obtain ⟨⟨θ, hθ⟩, _⟩ := h; exact absurd ((hE θ).1 hθ) (h' θ)
    | occurs => rfl
    | long => obtain ⟨bs, h1, h2, _⟩ := h'; exact (no hE h1 h2 h.2).elim
    | ok bs => obtain ⟨h1, h2, _⟩ := h'; exact (no hE h1 h2 h.2).elim
  | long =>
    obtain ⟨bs, h1, h2, h3⟩ := h
    cases o' with
    | clash => exact (no hE' h1 h2 (fun θ _ => h' θ)).elim
    | occurs => exact (no hE' h1 h2 h'.2).elim
    | long => rfl
    | ok bs' =>
      obtain ⟨k1, k2, k3⟩ := h'
      have := eq h1 k1 h2 k2
      subst this
      obtain ⟨p, hp, hl⟩ := h3
      have := k3 p hp; omega
  | ok bs =>
    obtain ⟨h1, h2, h3⟩ := h
    cases o' with
    | clash => exact (no hE' h1 h2 (fun θ _ => h' θ)).elim
    | occurs => exact (no hE' h1 h2 h'.2).elim
    | long =>
      obtain ⟨bs', k1, k2, p, hp, hl⟩ := h'
      have := eq h1 k1 h2 k2
      subst this
      have := h3 p hp; omega
    | ok bs' =>
      obtain ⟨k1, k2, _⟩ := h'
      rw [eq h1 k1 h2 k2]
section
variable {W : WebT} {r : Nat → Nat} {tm : Nat → Option Nat} {lo rk : Nat → Nat} {E : List (Fo × Fo)} {bs : List (Nat × Fo)}
/-- two that have one value in each solution, and part: there is none -/
theorem comes_clash (hW : W.OK) {i j : Nat} {nm nm' : ByteArray} {as as' : List Nat} (hi : i < W.n) (hj : j < W.n) (h : ∀ θ, Sat θ E → W.val θ i = W.val θ j) (e : W.nd i = .app nm as) (e' : W.nd j = .app nm' as') (hne : nm ≠ nm' ∨ as.length ≠ as'.length) : Comes E .clash := by
  intro θ hθ
  have h1 := congrFun (h θ hθ) []
  rw [val_nil hW hi e, val_nil hW hj e'] at h1
  injection h1 with h1
  injection h1 with h1 h2
  rcases hne with hne | hne
  · exact hne h1
  · exact hne h2
/-- a class that has itself among what it is made of -/
inductive Part2 (W : WebT) (r : Nat → Nat) (tm : Nat → Option Nat) : Nat → Nat → Prop
  | one (i t a : Nat) (nm : ByteArray) (as : List Nat) : i < W.n → tm (r i) = some t → W.nd t = .app nm as → a ∈ as → Part2 W r tm i a
  | more (i t a k : Nat) (nm : ByteArray) (as : List Nat) : i < W.n → tm (r i) = some t → W.nd t = .app nm as → a ∈ as → Part2 W r tm a k → Part2 W r tm i k
theorem part2_path (hW : W.OK) (hh : Heads W r tm lo) (hs : Sound W r E) {θ : Nat → IT} (hθ : Sat θ E) {i k : Nat} (h : Part2 W r tm i k) : ∃ p : List Nat, p ≠ [] ∧ ∀ q, W.val θ i (p ++ q) = W.val θ k q := by
  have one : ∀ i t a nm as, i < W.n → tm (r i) = some t → W.nd t = .app nm as → a ∈ as → ∃ j, ∀ q, W.val θ i (j :: q) = W.val θ a q := by
    intro i t a nm as hi ht e ha
    obtain ⟨t1, t2, _⟩ := hh.some_ i t hi ht
    obtain ⟨j, hj, hja⟩ := List.getElem_of_mem ha
    refine ⟨j, fun q => ?_⟩
    rw [hs θ hθ i t hi t1 t2.symm, val_cons hW t1 e, List.getElem?_eq_getElem hj, hja]
  induction h with
  | one i t a nm as hi ht e ha =>
    obtain ⟨j, hj⟩ := one i t a nm as hi ht e ha
    exact ⟨[j], by simp, hj⟩
  | more i t a k nm as hi ht e ha _ ih =>
    obtain ⟨j, hj⟩ := one i t a nm as hi ht e ha
    obtain ⟨p, _, h2⟩ := ih
    exact ⟨j :: p, by simp, fun q => by rw [List.cons_append, hj, h2]⟩
theorem Part2.lt {i k : Nat} (h : Part2 W r tm i k) : i < W.n := by cases h <;> assumption
/-- they go round -/
theorem comes_occurs (hW : W.OK) (hc : Closed W r) (hh : Heads W r tm lo) (hs : Sound W r E) (hm : Meets W r E) {i k : Nat} (hk : k < W.n) (h : Part2 W r tm i k) (hr : r i = r k) : Comes E .occurs := by
  refine ⟨⟨_, sat_valU hW hc hh hm⟩, fun θ hf hθ => ?_⟩
  have hi := h.lt
  obtain ⟨p, hp, h2⟩ := part2_path hW hh hs hθ h
  have he := hs θ hθ i k hi hk hr
  have hlen : 0 < p.length := by cases p with | nil => exact absurd rfl hp | cons _ _ => simp
  have key : ∀ m : Nat, ∃ q : List Nat, m ≤ q.length ∧ W.val θ i q = W.val θ i [] := by
    intro m
    induction m with
    | zero => exact ⟨[], Nat.le_refl _, rfl⟩
    | succ m ih =>
      obtain ⟨q, h3, h4⟩ := ih
      refine ⟨p ++ q, by rw [List.length_append]; omega, ?_⟩
      rw [h2 q, ← he, h4]
  have hsome : W.val θ i [] ≠ none := by
    have : ∃ t nm as, tm (r i) = some t ∧ W.nd t = .app nm as := by
      cases h with
      | one _ t a nm as _ ht e _ => exact ⟨t, nm, as, ht, e⟩
      | more _ t a _ nm as _ ht e _ _ => exact ⟨t, nm, as, ht, e⟩
    obtain ⟨t, nm, as, ht, e⟩ := this
    obtain ⟨t1, t2, _⟩ := hh.some_ i t hi ht
    rw [hs θ hθ i t hi t1 t2.symm, val_nil hW t1 e]; simp
  obtain ⟨d, hd⟩ := fin_ev hf (W.tr i)
  obtain ⟨q, h3, h4⟩ := key d
  exact hsome (h4.symm.trans (hd q h3))
theorem comes_ok (hW : W.OK) (hc : Closed W r) (hh : Heads W r tm lo) (hr : Ranked W r tm rk) (hs : Sound W r E) (hm : Meets W r E) (hb : BoundOf W r tm lo rk bs) (hl : ∀ p ∈ bs, p.2.size ≤ 256) : Comes E (.ok bs) :=
  ⟨nf_bound hW hc hh hr hb, sat_bound hW hc hh hr hs hm hb, hl⟩
theorem comes_long (hW : W.OK) (hc : Closed W r) (hh : Heads W r tm lo) (hr : Ranked W r tm rk) (hs : Sound W r E) (hm : Meets W r E) (hb : BoundOf W r tm lo rk bs) (hl : ∃ p ∈ bs, 256 < p.2.size) : Comes E .long :=
  ⟨bs, nf_bound hW hc hh hr hb, sat_bound hW hc hh hr hs hm hb, hl⟩
end
end Go.Proofs.YtgcbnndbeoekgaaDoor
end
