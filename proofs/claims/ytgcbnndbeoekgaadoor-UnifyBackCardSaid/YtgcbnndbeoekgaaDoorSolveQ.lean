import Derived.Test.YtgcbnndbeoekgaaDoorAddS
set_option linter.unusedSimpArgs false
set_option linter.unusedVariables false
section
/- what comes of equations of right terms is of right terms; a bound that has come may be: in plain Lean -/
namespace Go.Proofs.YtgcbnndbeoekgaaDoor
open Go Go.RowKit

/-! ### Trees are right terms -/
theorem flat_nodeR : ∀ (F : Fo) (o : Nat), F.wf → ∀ t ∈ F.flat o, NodeR t
  | .nil, _, _, t, h => by cases h
  | .hole n r, o, hw, t, h => by
    rcases List.mem_cons.1 h with e | e
    · have h1 := hw.1; have h2 := hw.2.1
      rw [e]; exact .inl ⟨by show (1 : Int) ≤ (n : Int); omega, by show (n : Int) ≤ 2147483647; omega, rfl, rfl⟩
    · exact flat_nodeR r (o + 1) hw.2.2 t e
  | .app nm k r, o, hw, t, h => by
    rcases List.mem_cons.1 h with e | e
    · rw [e]; exact .inr ⟨rfl, hw.1⟩
    · rcases List.mem_append.1 e with e | e
      · exact flat_nodeR k (o + 1) hw.2.1 t e
      · exact flat_nodeR r (o + 1 + k.size) hw.2.2 t e
theorem ord_seg {l : List TN} : ∀ (F : Fo) (o : Nat), Seg l o F → ∀ (more : List Int), (1 ≤ F.size → o + F.size ≤ l.length) → ordA (ordN l) l.length (F.offs o ++ more) o = ordA (ordN l) l.length more (o + F.size)
  | .nil, o, _, more, _ => rfl
  | .hole n r, o, hs, more, hl => by
    have hsz : (Fo.hole n r).size = 1 + r.size := rfl
    have hl := hl (by omega)
    have e : (Fo.hole n r) = (Fo.hole n .nil).app2 r := rfl
    rw [e] at hs
    obtain ⟨s1, s2⟩ := hs.app2
    have hs1 : (Fo.hole n .nil).size = 1 := rfl
    rw [hs1] at s2
    obtain ⟨hi, h1⟩ := s1.hole
    have h2 : ordN l o = some (o + 1) := by rw [ordN_at hi, h1]; rfl
    show ordA (ordN l) l.length ((o : Int) :: (r.offs (o + 1) ++ more)) o = _
    rw [ordA_cons rfl hi h2, ord_seg r (o + 1) s2 more (fun _ => by omega), hsz]
    congr 1; omega
  | .app nm k r, o, hs, more, hl => by
    have hsz : (Fo.app nm k r).size = 1 + k.size + r.size := rfl
    have hl := hl (by omega)
    have e : (Fo.app nm k r) = (Fo.app nm k .nil).app2 r := rfl
    rw [e] at hs
    obtain ⟨s1, s2⟩ := hs.app2
    have hs1 : (Fo.app nm k .nil).size = 1 + k.size := rfl
    rw [hs1, ← Nat.add_assoc] at s2
    obtain ⟨⟨hi, h1⟩, hk⟩ := s1.app
    have h2 : ordN l o = some (o + 1 + k.size) := by
      have h3 := ord_seg k (o + 1) hk [] (fun _ => by omega)
      rw [List.append_nil] at h3
      rw [ordN_at hi, h1]
      exact h3
    show ordA (ordN l) l.length ((o : Int) :: (r.offs (o + 1 + k.size) ++ more)) o = _
    rw [ordA_cons rfl hi h2, ord_seg r (o + 1 + k.size) s2 more (fun _ => by omega), hsz]
    congr 1; omega
theorem right_tree {T : Fo} (h1 : T.one) (hw : T.wf) (hs : T.size ≤ 256) : rightI (T.flat 0) = 0 := by
  have hl := Fo.flat_len T 0
  have hp := Fo.one_size h1
  refine rightI_good (by omega) ⟨flat_nodeR T 0 hw, ?_⟩
  have h2 := ord_seg (l := T.flat 0) T 0 (Seg.whole T) [] (fun _ => by omega)
  rw [List.append_nil, Fo.one_offs h1, Nat.zero_add] at h2
  have h3 : ordA (ordN (T.flat 0)) (T.flat 0).length [((0 : Nat) : Int)] 0 = some T.size := h2
  unfold ordA at h3
  rw [if_pos ⟨rfl, by omega⟩] at h3
  cases e : ordN (T.flat 0) 0 with
  | none => rw [e] at h3; cases h3
  | some m => rw [e] at h3; rw [hl]; exact h3

/-! ### Names and holes of what has come are those of the equations -/
def mapL (g : ByteArray → ByteArray) : Lab → Lab
  | .hole n => .hole n
  | .fn nm k => .fn (g nm) k
def mapIT (g : ByteArray → ByteArray) (u : IT) : IT := fun p => (u p).map (mapL g)
def NmR : Fo → Prop
  | .nil => True
  | .hole _ r => NmR r
  | .app nm k r => rightB nm.data.toList = true ∧ NmR k ∧ NmR r
section
variable {θ θ' : Nat → IT} {g : ByteArray → ByteArray}
theorem evF_map (hg : ∀ nm, rightB nm.data.toList = true → g nm = nm) : ∀ (K : Fo) (i : Nat), K.wf → evF (fun n => mapIT g (θ n)) K i = mapIT g (evF θ K i)
  | .nil, _, _ => rfl
  | .hole n r, i, hw => by
    cases i with
    | zero => rfl
    | succ i => exact evF_map hg r i hw.2.2
  | .app nm k r, i, hw => by
    cases i with
    | zero =>
      funext p
      cases p with
      | nil => show some (Lab.fn nm k.cnt) = some (Lab.fn (g nm) k.cnt); rw [hg nm hw.1]
      | cons j q => exact congrFun (evF_map hg k j hw.2.1) q
    | succ i => exact evF_map hg r i hw.2.2
theorem nm_of (hg : ∀ nm, g nm = nm → rightB nm.data.toList = true) : ∀ (K : Fo), (∀ i, evF (fun n => mapIT g (θ n)) K i = mapIT g (evF θ K i)) → NmR K
  | .nil, _ => trivial
  | .hole n r, h => nm_of hg r fun i => h (i + 1)
  | .app nm k r, h => by
    have h0 : some (Lab.fn nm k.cnt) = some (Lab.fn (g nm) k.cnt) := congrFun (h 0) []
    injection h0 with h0
    injection h0 with h0
    exact ⟨hg nm h0.symm, nm_of hg k fun j => funext fun q => congrFun (h 0) (j :: q), nm_of hg r fun i => h (i + 1)⟩
theorem evF_inj : ∀ (K : Fo), (∀ i, evF θ K i = evF θ' K i) → ∀ m, K.has m → θ m = θ' m
  | .nil, _, _, h => h.elim
  | .hole n r, h, m, hm => by
    rcases hm with hm | hm
    · subst hm; exact h 0
    · exact evF_inj r (fun i => h (i + 1)) m hm
  | .app nm k r, h, m, hm => by
    rcases hm with hm | hm
    · exact evF_inj k (fun j => funext fun q => congrFun (h 0) (j :: q)) m hm
    · exact evF_inj r (fun i => h (i + 1)) m hm
end
theorem has_wf : ∀ {K : Fo} {m : Nat}, K.wf → K.has m → 1 ≤ m ∧ m ≤ 2147483647
  | .nil, _, _, h => h.elim
  | .hole n r, m, hw, h => by
    rcases h with h | h
    · subst h; exact ⟨hw.1, hw.2.1⟩
    · exact has_wf hw.2.2 h
  | .app nm k r, m, hw, h => h.elim (has_wf hw.2.1) (has_wf hw.2.2)
theorem wf_of : ∀ {K : Fo}, NmR K → (∀ m, K.has m → 1 ≤ m ∧ m ≤ 2147483647) → K.wf
  | .nil, _, _ => trivial
  | .hole n r, hn, h => ⟨(h n (.inl rfl)).1, (h n (.inl rfl)).2, wf_of (K := r) hn fun m hm => h m (.inr hm)⟩
  | .app nm k r, hn, h => ⟨hn.1, wf_of hn.2.1 fun m hm => h m (.inl hm), wf_of hn.2.2 fun m hm => h m (.inr hm)⟩
def WfE (E : List (Fo × Fo)) : Prop := ∀ p ∈ E, p.1.wf ∧ p.2.wf
theorem push_ne (nm : ByteArray) : nm.push 0 ≠ nm := fun e => by
  have := congrArg ByteArray.size e
  simp [ByteArray.size_push] at this
open Classical in
theorem ok_wf {E : List (Fo × Fo)} {bs : List (Nat × Fo)} (hE : WfE E) (h : Comes E (.ok bs)) : ∀ p ∈ bs, p.1 ≤ 2147483647 ∧ p.2.wf := by
  obtain ⟨hn, hs, _⟩ := h
  have h0 : Sat (valB bs) E := (hs _).2 (valB_sat hn)
  have hb0 := valB_sat hn
  let H : Nat → Prop := fun m => ∃ q ∈ E, q.1.has m ∨ q.2.has m
  have chg : ∀ (m : Nat) (U : IT), ¬ H m → SatB (fun n => if n = m then U else valB bs n) bs := fun m U hm => by
    refine (hs _).1 fun q hq => ?_
    have e : ∀ K : Fo, ¬ K.has m → ev (fun n => if n = m then U else valB bs n) K = ev (valB bs) K := fun K hK => evF_congr K 0 fun n hn => if_neg (fun e => hK (by rw [← e]; exact hn))
    rw [e _ (fun h => hm ⟨q, hq, .inl h⟩), e _ (fun h => hm ⟨q, hq, .inr h⟩)]
    exact h0 q hq
  have hH : ∀ m, H m → 1 ≤ m ∧ m ≤ 2147483647 := fun m ⟨q, hq, h⟩ => h.elim (has_wf (hE q hq).1) (has_wf (hE q hq).2)
  intro p hp
  have hpp := hb0 p hp
  have hfree := hn.free p hp p hp
  refine ⟨?_, wf_of (nm_of (θ := valB bs) (g := fun nm => if rightB nm.data.toList = true then nm else nm.push 0) (fun nm e => ?_) p.2 fun i => ?_) fun m hm => ?_⟩
  · by_cases hm : H p.1
    · exact (hH _ hm).2
    · exfalso
      have key : ∀ U : IT, U = valB bs p.1 := fun U => by
        have h1 := chg p.1 U hm p hp
        have h1 : (if p.1 = p.1 then U else valB bs p.1) = ev (fun n => if n = p.1 then U else valB bs n) p.2 := h1
        rw [if_pos rfl] at h1
        have e : ev (fun n => if n = p.1 then U else valB bs n) p.2 = ev (valB bs) p.2 := evF_congr p.2 0 fun n hn => if_neg (fun e => hfree (by rw [← e]; exact hn))
        rw [h1, e, ← hpp]
      have := (key (leaf 0)).trans (key (leaf 1)).symm
      exact absurd (leaf_inj this) (by omega)
  · by_cases hr : rightB nm.data.toList = true
    · exact hr
    · simp only [if_neg hr] at e
      exact absurd e (push_ne nm)
  · have hg : ∀ nm : ByteArray, rightB nm.data.toList = true → (fun nm : ByteArray => if rightB nm.data.toList = true then nm else nm.push 0) nm = nm := fun nm hr => if_pos hr
    have h1 : Sat (fun n => mapIT (fun nm => if rightB nm.data.toList = true then nm else nm.push 0) (valB bs n)) E := fun q hq => by
      have e1 := evF_map (θ := valB bs) hg q.1 0 (hE q hq).1
      have e2 := evF_map (θ := valB bs) hg q.2 0 (hE q hq).2
      have e3 : evF (valB bs) q.1 0 = evF (valB bs) q.2 0 := h0 q hq
      show evF _ q.1 0 = evF _ q.2 0
      rw [e1, e2, e3]
    have h2 : mapIT _ (valB bs p.1) = ev _ p.2 := (hs _).1 h1 p hp
    rw [hpp] at h2
    have h1' := hn.one p hp
    rw [ev_one h1' i, ev_one h1' i]
    by_cases hi : i = 0
    · rw [if_pos hi, if_pos hi]; exact h2.symm
    · rw [if_neg hi, if_neg hi]; rfl
  · by_cases hm2 : H m
    · exact hH _ hm2
    · exfalso
      have hne : m ≠ p.1 := fun e => hfree (by rw [← e]; exact hm)
      have h1 := chg m (leaf (m + 1)) hm2 p hp
      have h1 : (if p.1 = m then leaf (m + 1) else valB bs p.1) = ev (fun n => if n = m then leaf (m + 1) else valB bs n) p.2 := h1
      rw [if_neg (Ne.symm hne), hpp] at h1
      have h2 := evF_inj p.2 (θ := valB bs) (θ' := fun n => if n = m then leaf (m + 1) else valB bs n) (fun i => by
        rw [ev_one (hn.one p hp) i, ev_one (hn.one p hp) i]
        by_cases hi : i = 0
        · rw [if_pos hi, if_pos hi]; exact h1
        · rw [if_neg hi, if_neg hi]) m hm
      have h3 : valB bs m = leaf (m + 1) := by
        have h2 : valB bs m = if m = m then leaf (m + 1) else valB bs m := h2
        rw [if_pos rfl] at h2; exact h2
      have h4 : valB bs m = leaf m := by
        have e : std bs m = .hole m .nil := by
          unfold std stood
          cases e : lookB bs m with
          | none => rfl
          | some U => exact absurd hm (hn.free p hp _ (lookB_mem e))
        unfold valB; rw [e]; rfl
      rw [h4] at h3
      have := leaf_inj h3
      omega
theorem flat_has : ∀ (F : Fo) (o : Nat), ∀ t ∈ F.flat o, t.var ≠ 0 → F.has t.var.toNat
  | .nil, _, t, h, _ => by cases h
  | .hole n r, o, t, h, h0 => by
    rcases List.mem_cons.1 h with e | e
    · rw [e]; exact .inl (by show n = ((n : Int)).toNat; simp)
    · exact .inr (flat_has r (o + 1) t e h0)
  | .app nm k r, o, t, h, h0 => by
    rcases List.mem_cons.1 h with e | e
    · rw [e] at h0; exact absurd rfl h0
    · rcases List.mem_append.1 e with e | e
      · exact .inl (flat_has k (o + 1) t e h0)
      · exact .inr (flat_has r (o + 1 + k.size) t e h0)
/-- a bound that has come may be -/
theorem ok_may {E : List (Fo × Fo)} {bs : List (Nat × Fo)} (hE : WfE E) (h : Comes E (.ok bs)) : MayP (bs.map bindOf) := by
  have hw := ok_wf hE h
  obtain ⟨hn, _, h256⟩ := h
  refine ⟨fun i hi => ?_, fun x hx => ?_⟩
  · have hi' : i < bs.length := by simpa using hi
    have hm := List.getElem_mem hi'
    simp only [List.getElem_map, bindOf]
    refine ⟨by have := hn.pos _ hm; omega, by have := (hw _ hm).1; omega, fun h0 => ?_, right_tree (hn.one _ hm) (hw _ hm).2 (h256 _ hm)⟩
    have := List.pairwise_iff_getElem.1 hn.rise (i - 1) i (by omega) hi' (by omega)
    omega
  · obtain ⟨p, hp, rfl⟩ := List.mem_map.1 hx
    refine ⟨fun t ht => ?_, fun t ht hin => ?_⟩
    · have ht : (p.2.flat 0).head? = some t := ht
      rcases Fo.one_cases (hn.one p hp) with ⟨m, e⟩ | ⟨nm, K, e⟩
      · rw [e] at ht
        have ht : some (⟨(m : Nat), ByteArray.empty, []⟩ : TN) = some t := ht
        injection ht with ht
        have := hn.less p hp m e
        rw [← ht]
        show (m : Int) ≤ (p.1 : Int)
        omega
      · rw [e] at ht
        have ht : some (⟨0, nm, K.offs 1⟩ : TN) = some t := ht
        injection ht with ht
        rw [← ht]
        show (0 : Int) ≤ (p.1 : Int)
        omega
    · obtain ⟨x, hx2, e⟩ := List.mem_map.1 hin
      obtain ⟨q, hq, rfl⟩ := List.mem_map.1 hx2
      have e : (q.1 : Int) = t.var := e
      have hq1 := hn.pos q hq
      have h2 := flat_has p.2 0 t ht (by omega)
      rw [← e, Int.toNat_natCast] at h2
      exact hn.free p hp q hq h2
end Go.Proofs.YtgcbnndbeoekgaaDoor
end
section
/- what Solve says, pair by pair: in plain Lean -/
namespace Go.Proofs.YtgcbnndbeoekgaaDoor
open Go Go.RowKit

theorem offs_nil {F : Fo} {o : Nat} (h : F.offs o = []) : F = .nil := by
  cases F with
  | nil => rfl
  | hole n r => cases h
  | app nm k r => cases h
/-- trees are told by their nodes -/
theorem flat_injF : ∀ (F G : Fo) (o : Nat), F.wf → G.wf → F.offs o = G.offs o → F.flat o = G.flat o → F = G
  | .nil, G, o, _, _, ho, _ => (offs_nil ho.symm).symm
  | .hole n r, G, o, hw, hw2, ho, hf => by
    cases G with
    | nil => cases ho
    | hole n' r' =>
      have ho : (o : Int) :: r.offs (o + 1) = (o : Int) :: r'.offs (o + 1) := ho
      have hf : (⟨n, ByteArray.empty, []⟩ : TN) :: r.flat (o + 1) = ⟨n', ByteArray.empty, []⟩ :: r'.flat (o + 1) := hf
      injection ho with _ ho
      injection hf with h1 hf
      injection h1 with h1
      rw [show n = n' by omega, flat_injF r r' (o + 1) hw.2.2 hw2.2.2 ho hf]
    | app nm k r' =>
      have hf : (⟨n, ByteArray.empty, []⟩ : TN) :: r.flat (o + 1) = ⟨0, nm, k.offs (o + 1)⟩ :: (k.flat (o + 1) ++ r'.flat (o + 1 + k.size)) := hf
      injection hf with h1 hf
      injection h1 with h1
      have := hw.1; omega
  | .app nm k r, G, o, hw, hw2, ho, hf => by
    cases G with
    | nil => cases ho
    | hole n r' =>
      have hf : (⟨0, nm, k.offs (o + 1)⟩ : TN) :: (k.flat (o + 1) ++ r.flat (o + 1 + k.size)) = ⟨n, ByteArray.empty, []⟩ :: r'.flat (o + 1) := hf
      injection hf with h1 hf
      injection h1 with h1
      have := hw2.1; omega
    | app nm' k' r' =>
      have ho : (o : Int) :: r.offs (o + 1 + k.size) = (o : Int) :: r'.offs (o + 1 + k'.size) := ho
      have hf : (⟨0, nm, k.offs (o + 1)⟩ : TN) :: (k.flat (o + 1) ++ r.flat (o + 1 + k.size)) = ⟨0, nm', k'.offs (o + 1)⟩ :: (k'.flat (o + 1) ++ r'.flat (o + 1 + k'.size)) := hf
      injection ho with _ ho
      injection hf with h1 hf
      injection h1 with _ h1 h2
      have hlen := congrArg List.length hf
      rw [List.length_append, List.length_append, Fo.flat_len, Fo.flat_len, Fo.flat_len, Fo.flat_len] at hlen
      have hks : k.size = k'.size := by
        cases r with
        | nil =>
          have : r' = .nil := offs_nil ho.symm
          subst this
          exact hlen
        | hole n s =>
          cases r' with
          | nil => cases ho
          | hole n' s' => injection ho with ho; omega
          | app nm2 k2 s' => injection ho with ho; omega
        | app nm1 k1 s =>
          cases r' with
          | nil => cases ho
          | hole n' s' => injection ho with ho; omega
          | app nm2 k2 s' => injection ho with ho; omega
      rw [← hks] at ho hf
      obtain ⟨f1, f2⟩ := List.append_inj hf (by rw [Fo.flat_len, Fo.flat_len]; exact hks)
      rw [h1, flat_injF k k' (o + 1) hw.2.1 hw2.2.1 h2 f1, flat_injF r r' (o + 1 + k.size) hw.2.2 hw2.2.2 ho f2]
theorem flat_inj {T U : Fo} (h1 : T.one) (h2 : U.one) (hw : T.wf) (hw2 : U.wf) (h : T.flat 0 = U.flat 0) : T = U :=
  flat_injF T U 0 hw hw2 (by rw [Fo.one_offs h1, Fo.one_offs h2]) h
theorem binds_inj : ∀ {bs bs' : List (Nat × Fo)}, (∀ p ∈ bs, p.2.one ∧ p.2.wf) → (∀ p ∈ bs', p.2.one ∧ p.2.wf) → bs.map bindOf = bs'.map bindOf → bs = bs'
  | [], [], _, _, _ => rfl
  | [], _ :: _, _, _, h => by cases h
  | _ :: _, [], _, _, h => by cases h
  | p :: r, p' :: r', h1, h2, h => by
    have h : bindOf p :: r.map bindOf = bindOf p' :: r'.map bindOf := h
    injection h with ha hb
    have ha : (⟨(p.1 : Int), p.2.flat 0⟩ : ABind) = ⟨(p'.1 : Int), p'.2.flat 0⟩ := ha
    injection ha with e1 e2
    have h3 := h1 p (List.mem_cons_self ..)
    have h4 := h2 p' (List.mem_cons_self ..)
    have e3 := flat_inj h3.1 h4.1 h3.2 h4.2 e2
    have : p = p' := by
      obtain ⟨a, b⟩ := p
      obtain ⟨a', b'⟩ := p'
      have e1 : (a : Int) = (a' : Int) := e1
      have e3 : b = b' := e3
      rw [e3, show a = a' by omega]
    rw [this, binds_inj (fun q hq => h1 q (List.mem_cons_of_mem _ hq)) (fun q hq => h2 q (List.mem_cons_of_mem _ hq)) hb]
theorem bsOf_map {E : List (Fo × Fo)} {bs : List (Nat × Fo)} (hE : WfE E) (h : Comes E (.ok bs)) : bsOf (bs.map bindOf) = bs := by
  have hb := bsOf_ok (ok_may hE h)
  have hw := ok_wf hE h
  refine binds_inj (fun p hp => ⟨(hb.ok p hp).2.1, (hb.ok p hp).2.2.1⟩) (fun p hp => ⟨h.1.one p hp, (hw p hp).2⟩) hb.eq.symm
theorem Comes.of_sat {E E' : List (Fo × Fo)} (hE : ∀ θ, Sat θ E ↔ Sat θ E') {o : Outc} (h : Comes E o) : Comes E' o := by
  cases o with
  | clash => exact fun θ hθ => h θ ((hE θ).2 hθ)
  | occurs => exact ⟨⟨h.1.choose, (hE _).1 h.1.choose_spec⟩, fun θ hf hθ => h.2 θ hf ((hE θ).2 hθ)⟩
  | long => obtain ⟨bs, h1, h2, h3⟩ := h; exact ⟨bs, h1, fun θ => (hE θ).symm.trans (h2 θ), h3⟩
  | ok bs => obtain ⟨h1, h2, h3⟩ := h; exact ⟨h1, fun θ => (hE θ).symm.trans (h2 θ), h3⟩

noncomputable def eqsP (ps : List (List TN × List TN)) (k : Nat) : List (Fo × Fo) := (ps.take k).map fun p => (treeOf p.1, treeOf p.2)
theorem eqsP_next {ps : List (List TN × List TN)} {k : Nat} (h : k < ps.length) : eqsP ps (k + 1) = eqsP ps k ++ [(treeOf ps[k].1, treeOf ps[k].2)] := by
  unfold eqsP
  rw [List.take_succ_eq_append_getElem h, List.map_append]; rfl
/-- so many pairs have been solved -/
structure SolvedTo (ps : List (List TN × List TN)) (k : Nat) (out : List ABind) : Prop where
  right : ∀ i (h : i < ps.length), i < k → rightI ps[i].1 = 0 ∧ rightI ps[i].2 = 0
  all : ∀ i, i ≤ k → ∃ bs, Comes (eqsP ps i) (.ok bs)
  out : ∃ bs, Comes (eqsP ps k) (.ok bs) ∧ out = bs.map bindOf
/-- a pair cannot be -/
def StepErr (ps : List (List TN × List TN)) (k : Nat) (err : Int) : Prop := ∃ h : k < ps.length, (rightI ps[k].1 ≠ 0 ∧ err = rightI ps[k].1) ∨ (rightI ps[k].1 = 0 ∧ rightI ps[k].2 ≠ 0 ∧ err = rightI ps[k].2) ∨
  (rightI ps[k].1 = 0 ∧ rightI ps[k].2 = 0 ∧ ∃ o, Comes (eqsP ps (k + 1)) o ∧ (∀ bs, o ≠ .ok bs) ∧ OutIs o err [])
def SolveSays (ps : List (List TN × List TN)) (err at_ : Int) (out : List ABind) : Prop :=
  (4096 < ps.length ∧ err = 3 ∧ at_ = 0 ∧ out = []) ∨ (ps.length ≤ 4096 ∧ SolvedTo ps ps.length out ∧ err = 0 ∧ at_ = 0) ∨ (ps.length ≤ 4096 ∧ ∃ k out0, SolvedTo ps k out0 ∧ StepErr ps k err ∧ at_ = (k : Nat) ∧ out = [])
section
variable {ps : List (List TN × List TN)} {k : Nat} {out : List ABind}
theorem SolvedTo.start : SolvedTo ps 0 [] := by
  have h : Comes (eqsP ps 0) (.ok []) := ⟨⟨List.Pairwise.nil, (fun p hp => by cases hp), (fun p hp => by cases hp), (fun p hp => by cases hp), (fun p hp => by cases hp)⟩, fun θ => ⟨fun _ p hp => (by cases hp), fun _ p hp => (by cases hp)⟩, fun p hp => by cases hp⟩
  exact ⟨fun i _ h => absurd h (Nat.not_lt_zero _), fun i hi => ⟨[], by rw [show i = 0 by omega]; exact h⟩, [], h, rfl⟩
theorem SolvedTo.wf (h : SolvedTo ps k out) : WfE (eqsP ps k) := fun p hp => by
  obtain ⟨q, hq, rfl⟩ := List.mem_map.1 hp
  obtain ⟨i, hi, rfl⟩ := List.getElem_of_mem hq
  rw [List.length_take] at hi
  rw [List.getElem_take]
  obtain ⟨r1, r2⟩ := h.right i (by omega) (by omega)
  exact ⟨(treeOf_ok r1).2.1, (treeOf_ok r2).2.1⟩
theorem SolvedTo.next (h : SolvedTo ps k out) (hk : k < ps.length) (h1 : rightI ps[k].1 = 0) (h2 : rightI ps[k].2 = 0) {bs : List (Nat × Fo)} (hc : Comes (eqsP ps (k + 1)) (.ok bs)) : SolvedTo ps (k + 1) (bs.map bindOf) :=
  ⟨fun i hi hik => by
    by_cases e : i < k
    · exact h.right i hi e
    · have : i = k := by omega
      subst this
      exact ⟨h1, h2⟩, fun i hi => by
    by_cases e : i ≤ k
    · exact h.all i e
    · exact ⟨bs, by rw [show i = k + 1 by omega]; exact hc⟩, bs, hc, rfl⟩
theorem SolvedTo.not_err {k' : Nat} {out' : List ABind} {err : Int} (h : SolvedTo ps k' out') (he : StepErr ps k err) : ¬ k < k' := fun hlt => by
  obtain ⟨hk, h1 | h1 | h1⟩ := he
  · exact h1.1 (h.right k hk hlt).1
  · exact h1.2.1 (h.right k hk hlt).2
  · obtain ⟨_, _, o, h2, h3, _⟩ := h1
    obtain ⟨bs, hb⟩ := h.all (k + 1) (by omega)
    exact h3 bs (Comes.same (fun _ => Iff.rfl) h2 hb)
theorem SolvedTo.same {out' : List ABind} (h : SolvedTo ps k out) (h' : SolvedTo ps k out') : out = out' := by
  obtain ⟨bs, h1, h2⟩ := h.out
  obtain ⟨bs', h3, h4⟩ := h'.out
  have := Comes.same (fun _ => Iff.rfl) h1 h3
  injection this with this
  rw [h2, h4, this]
theorem StepErr.same {err err' : Int} (h : StepErr ps k err) (h' : StepErr ps k err') : err = err' := by
  obtain ⟨hk, a⟩ := h
  obtain ⟨_, b⟩ := h'
  rcases a with ⟨a1, a2⟩ | ⟨a1, a2, a3⟩ | ⟨a1, a2, o, a3, a4, a5⟩ <;> rcases b with ⟨b1, b2⟩ | ⟨b1, b2, b3⟩ | ⟨b1, b2, o', b3, b4, b5⟩
  all_goals first | contradiction | skip
  · rw [a2, b2]
  · rw [a3, b3]
  · have := Comes.same (fun _ => Iff.rfl) a3 b3
    subst this
    exact (a5.same b5).1
theorem SolveSays.same {err err' at_ at' : Int} {out' : List ABind} (h : SolveSays ps err at_ out) (h' : SolveSays ps err' at' out') : err = err' ∧ at_ = at' ∧ out = out' := by
  rcases h with ⟨a1, a2, a3, a4⟩ | ⟨a1, a2, a3, a4⟩ | ⟨a1, k, o, a2, a3, a4, a5⟩ <;> rcases h' with ⟨b1, b2, b3, b4⟩ | ⟨b1, b2, b3, b4⟩ | ⟨b1, k', o', b2, b3, b4, b5⟩
  · exact ⟨a2.trans b2.symm, a3.trans b3.symm, a4.trans b4.symm⟩
  · omega
  · omega
  · omega
  · exact ⟨a3.trans b3.symm, a4.trans b4.symm, a2.same b2⟩
  · exact absurd b3.1 (a2.not_err b3)
  · omega
  · exact absurd a3.1 (b2.not_err a3)
  · have h1 := a2.not_err b3
    have h2 := b2.not_err a3
    have : k = k' := by omega
    subst this
    exact ⟨a3.same b3, a4.trans b4.symm, a5.trans b5.symm⟩
/-- what Add makes of the pair -/
theorem SolvedTo.added (h : SolvedTo ps k out) (hk : k < ps.length) {err : Int} {out' : List ABind} (ha : AddSays out ps[k].1 ps[k].2 err out') : (err = 0 ∧ SolvedTo ps (k + 1) out') ∨ (err ≠ 0 ∧ StepErr ps k err ∧ out' = []) := by
  obtain ⟨bs, h1, h2⟩ := h.out
  have hm : MayP out := by rw [h2]; exact ok_may h.wf h1
  rcases ha with ⟨a, _⟩ | ⟨_, a1, a2, a3⟩ | ⟨_, a1, a2, a3, a4⟩ | ⟨_, a1, a2, o, a3, a4⟩
  · exact absurd hm a
  · exact .inr ⟨by rw [a2]; exact a1, ⟨hk, .inl ⟨a1, a2⟩⟩, a3⟩
  · exact .inr ⟨by rw [a3]; exact a2, ⟨hk, .inr (.inl ⟨a1, a2, a3⟩)⟩, a4⟩
  · have hb : bsOf out = bs := by rw [h2]; exact bsOf_map h.wf h1
    have hc : Comes (eqsP ps (k + 1)) o := by
      rw [eqsP_next hk]
      refine Comes.of_sat (fun θ => ?_) a3
      unfold addEqs
      rw [hb, Sat.app, Sat.app, sat_eqsB, h1.2.1 θ]
    cases o with
    | ok bs' => rw [a4.2]; exact .inl ⟨a4.1, h.next hk a1 a2 hc⟩
    | clash => exact .inr ⟨by rw [a4.1]; decide, ⟨hk, .inr (.inr ⟨a1, a2, _, hc, (fun _ e => by cases e), a4.1, rfl⟩)⟩, a4.2⟩
    | occurs => exact .inr ⟨by rw [a4.1]; decide, ⟨hk, .inr (.inr ⟨a1, a2, _, hc, (fun _ e => by cases e), a4.1, rfl⟩)⟩, a4.2⟩
    | long => exact .inr ⟨by rw [a4.1]; decide, ⟨hk, .inr (.inr ⟨a1, a2, _, hc, (fun _ e => by cases e), a4.1, rfl⟩)⟩, a4.2⟩
end
end Go.Proofs.YtgcbnndbeoekgaaDoor
end
