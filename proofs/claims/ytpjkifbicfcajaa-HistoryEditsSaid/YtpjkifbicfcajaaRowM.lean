import Derived.Test.YtpjkifbicfcajaaHNew
import Derived.ArgAppend
set_option linter.unusedSimpArgs false
set_option linter.unusedVariables false
/- several elements behind a row of the call's own; a row without its first, without its last -/
namespace Go.Proofs.Ytpjkifbicfcajaa
open Go Go.RowKit

section
variable {α : Type} {size : Nat} {e : TypeId} {E : World → (Nat → Prop) → α → List Value → Prop} {w w' : World} {F F' : Nat → Prop} {base : Nat} {v v' : Value} {l l2 : List α} {P : Program}
theorem OwnRow.many (hE : Stays E) {css : List (List Value)} (h1 : css.length = l.length) (h2 : ∀ cs ∈ css, cs.length = size) (h4 : ∀ i (h : i < l.length) (h' : i < css.length), E w (Oth F w v) l[i] css[i])
    {cs2 : List (List Value)} (k1 : cs2.length = l2.length) (k2 : ∀ cs ∈ cs2, cs.length = size) (k4 : ∀ i (h : i < l2.length) (h' : i < cs2.length), E w (Oth F w v) l2[i] cs2[i])
    (ho : w'.ownsRow base e size v' (l.length + l2.length) (css.flatten ++ cs2.flatten)) (hg : w.grownBy w' v.ownBlock) (hat : v'.ownBlock = v.ownBlock ∨ v'.ownBlock = some w.heap.size) :
    OwnRow size e E F w' base v' (l ++ l2) := by
  have hF : ∀ b, Oth F w v b → Oth F w' v' b := fun b ⟨a1, a2, a3⟩ => ⟨a1, Nat.lt_of_lt_of_le a2 hg.size, by
    rcases hat with e' | e' <;> rw [e']
    · exact a3
    · intro e''; cases e''; omega⟩
  have hK : Keep (Oth F w v) w w' := Keep.grown hg fun b ⟨_, a2, a3⟩ => ⟨a2, a3⟩
  refine ⟨css ++ cs2, by simp [h1, k1], ?_, by simpa using ho, fun i hi hi' => ?_⟩
  · intro c hc
    rcases List.mem_append.1 hc with hc | hc
    · exact h2 c hc
    · exact k2 c hc
  · by_cases hlt : i < l.length
    · rw [List.getElem_append_left hlt, List.getElem_append_left (by omega)]
      exact hE _ _ _ _ _ _ hF hK (h4 i hlt (by omega))
    · rw [List.getElem_append_right (by omega), List.getElem_append_right (by omega)]
      have hi2 : i - l.length < l2.length := by simp at hi; omega
      have := k4 (i - l.length) hi2 (by omega)
      simp only [h1]
      exact hE _ _ _ _ _ _ hF hK this
theorem step_many (hE : Stays E) {ops : Array Oper} {o : Oper} {a : Act} {K : Act → World → Prop} {Q : Exit → Act → World → Prop} {G : Prop} (w : World) (hgd : o.guard = none) (s x : Operand) (t : TypeId)
    (ho : o.op = .call { callee := .builtin .append, args := #[s, x], argTypes := #[t, t] })
    (base : Nat) (e : TypeId) {z : Value} {size bytes : Nat} (ht : P.underlying t = some (.slice e)) (hinfo : (P.info? e).map (fun i => (i.zero, i.size, i.bytes)) = some (some z, size, bytes)) (hzs : z.cells.size = size) (hsz : 0 < size)
    (v : Value) (l : List α) (hs : a.eval s = v) (hown : OwnRow size e E F w base v l)
    (A : Option Addr) (c : Nat) (l2 : List α) (cs2 : List (List Value)) (hx : a.eval x = .slice A l2.length c) (k1 : cs2.length = l2.length) (k2 : ∀ cs ∈ cs2, cs.length = size) (k4 : ∀ i (h : i < l2.length) (h' : i < cs2.length), E w (Oth F w v) l2[i] cs2[i])
    (hnone : A = none → l2 = []) (hcells : ∀ ad, A = some ad → ∀ j u, cs2.flatten[j]? = some u → w.cell? (ad.add j) = some u) (h1 : ∀ cs ∈ cs2, ∀ u ∈ cs, u.oneCell' = true)
    (h63 : l.length + l2.length ≤ maxLen) (hbytes : (l.length + l2.length) * bytes ≤ 140737488355328) (hbase : base ≤ w.heap.size)
    (h : ∀ A' c' w', OwnRow size e E F w' base (.slice A' (l.length + l2.length) c') (l ++ l2) → w.grownBy w' v.ownBlock → ((Value.slice A' (l.length + l2.length) c').ownBlock = v.ownBlock ∨ (Value.slice A' (l.length + l2.length) c').ownBlock = some w.heap.size) → K (a.put o.dst (.slice A' (l.length + l2.length) c')) w') :
    if Region.wanted o (yielded ops a.tmps) = true then Oper.wp P o a w K Q else G := by
  rw [if_pos (by simp [Region.wanted, hgd])]
  obtain ⟨css, c1, c2, c3, c4⟩ := hown
  refine wp_append_from w s x t ho base e ht hinfo hzs hsz v l.length css.flatten hs c3 A l2.length c cs2.flatten hx (by rw [flatten_len k2, k1]) (fun e => by rw [hnone e]; rfl) hcells (fun u hu => ?_) h63 hbytes hbase
    fun A' c' w' g2 g3 g5 => h A' c' w' (OwnRow.many hE c1 c2 c4 k1 k2 k4 g2 g3 g5) g3 g5
  obtain ⟨cs, hcs, hu⟩ := List.mem_flatten.1 hu
  exact h1 cs hcs u hu
/-- an append onto a slice that is full, wherever it lies -/
theorem step_grows (hE : Stays E) {ops : Array Oper} {o : Oper} {a : Act} {K : Act → World → Prop} {Q : Exit → Act → World → Prop} {G : Prop} (w : World) (hgd : o.guard = none) (s x : Operand) (t : TypeId)
    (ho : o.op = .call { callee := .builtin .append, args := #[s, x], argTypes := #[t, t] })
    (e : TypeId) {z : Value} {size bytes : Nat} (ht : P.underlying t = some (.slice e)) (hinfo : (P.info? e).map (fun i => (i.zero, i.size, i.bytes)) = some (some z, size, bytes)) (hzs : z.cells.size = size) (hsz : 0 < size)
    (b : Addr) (cap : Nat) (hs : a.eval s = .slice (some b) l.length cap) (css : List (List Value)) (c1 : css.length = l.length) (c2 : ∀ cs ∈ css, cs.length = size) (c4 : ∀ i (h : i < l.length) (h' : i < css.length), E w F l[i] css[i]) (hold : ∀ j u, css.flatten[j]? = some u → w.cell? (b.add j) = some u)
    (ad : Addr) (c : Nat) (l2 : List α) (cs2 : List (List Value)) (hx : a.eval x = .slice (some ad) l2.length c) (k1 : cs2.length = l2.length) (k2 : ∀ cs ∈ cs2, cs.length = size) (k4 : ∀ i (h : i < l2.length) (h' : i < cs2.length), E w F l2[i] cs2[i])
    (hcells : ∀ j u, cs2.flatten[j]? = some u → w.cell? (ad.add j) = some u) (hF : ∀ b, F b → b < w.heap.size)
    (hfull : cap < l.length + l2.length) (h63 : l.length + l2.length ≤ maxLen) (hbytes : (l.length + l2.length) * bytes ≤ 140737488355328)
    (h : ∀ A' c' w', OwnRow size e E F w' w.heap.size (.slice A' (l.length + l2.length) c') (l ++ l2) → Below w.heap.size w w' → K (a.put o.dst (.slice A' (l.length + l2.length) c')) w') :
    if Region.wanted o (yielded ops a.tmps) = true then Oper.wp P o a w K Q else G := by
  rw [if_pos (by simp [Region.wanted, hgd])]
  obtain ⟨i, hi, hz, hsize, hby⟩ := info_parts hinfo
  obtain ⟨v', w', hrun, h2, h3⟩ := run_append_arg_grows (P := P) w t o.type e i z size bytes ht hi hz hsize hby hzs hsz b l.length cap css.flatten (by rw [flatten_len c2, c1]) hold ad l2.length c cs2.flatten (by rw [flatten_len k2, k1]) hcells hfull h63 hbytes
  have hb : Below w.heap.size w w' := ⟨h3.os, h3.tape, h3.output, h3.size, fun k hk => h3.block k hk (by simp)⟩
  unfold Oper.wp execOp
  simp only [ho, resolve, invoke, builtin, Sem.run_bind, Sem.run_pure, Result.andThen_ok, List.map_toArray, List.map_cons, List.map_nil, hs, hx, hrun]
  obtain ⟨A', c', rfl⟩ := own_shape h2
  refine h A' c' w' ⟨css ++ cs2, by simp [c1, k1], fun cs hcs => ?_, by simpa using h2, fun j hj hj' => ?_⟩ hb
  · rcases List.mem_append.1 hcs with hcs | hcs
    · exact c2 cs hcs
    · exact k2 cs hcs
  · have hoth : ∀ b, F b → Oth F w' (.slice A' (l.length + l2.length) c') b := fun b hx => ⟨hx, Nat.lt_of_lt_of_le (hF b hx) hb.size, fun e => by have := (h2.lt b e).1; have := hF b hx; omega⟩
    by_cases hlt : j < l.length
    · rw [List.getElem_append_left hlt, List.getElem_append_left (by omega)]
      exact hE _ _ _ _ _ _ hoth (Keep.below hb hF) (c4 j hlt (by omega))
    · rw [List.getElem_append_right (by omega), List.getElem_append_right (by omega)]
      have hi2 : j - l.length < l2.length := by simp at hj; omega
      have := k4 (j - l.length) hi2 (by omega)
      simp only [c1]
      exact hE _ _ _ _ _ _ hoth (Keep.below hb hF) this
/-- an append onto an empty slice without room: a copy -/
theorem step_dup (hE : Stays E) {ops : Array Oper} {o : Oper} {a : Act} {K : Act → World → Prop} {Q : Exit → Act → World → Prop} {G : Prop} (w : World) (hgd : o.guard = none) (s x : Operand) (t : TypeId)
    (ho : o.op = .call { callee := .builtin .append, args := #[s, x], argTypes := #[t, t] })
    (e : TypeId) {z : Value} {size bytes : Nat} (ht : P.underlying t = some (.slice e)) (hinfo : (P.info? e).map (fun i => (i.zero, i.size, i.bytes)) = some (some z, size, bytes)) (hzs : z.cells.size = size) (hsz : 0 < size)
    (base g : Nat) (hs : a.eval s = .slice (some ⟨g, 0, none⟩) 0 0) (hown : OwnRow size e E F w base (.slice (some ⟨g, 0, none⟩) 0 0) ([] : List α))
    (A : Option Addr) (c : Nat) (hx : a.eval x = .slice A l.length c) (h : RowOf size E w F A l) (h1 : ∀ x cs, E w F x cs → ∀ u ∈ cs, u.oneCell' = true) (hF : ∀ b, F b → b < w.heap.size)
    (h63 : l.length ≤ maxLen) (hbytes : l.length * bytes ≤ 140737488355328) (hbase : base ≤ w.heap.size)
    (hK : ∀ A' c' w', OwnRow size e E F w' base (.slice A' l.length c') l → Below w.heap.size w w' → K (a.put o.dst (.slice A' l.length c')) w') :
    if Region.wanted o (yielded ops a.tmps) = true then Oper.wp P o a w K Q else G := by
  rcases Nat.eq_zero_or_pos l.length with h0 | h0
  · obtain rfl := List.eq_nil_of_length_eq_zero h0
    rw [if_pos (by simp [Region.wanted, hgd])]
    obtain ⟨i, hi, hz, hsize, hby⟩ := info_parts hinfo
    have hrun : (Builtin.append_ #[t, t] o.type #[.slice (some ⟨g, 0, none⟩) 0 0, .slice A 0 c]).run P w = .ok (.slice (some ⟨g, 0, none⟩) 0 0) w := by
      cases A <;> simp [Builtin.append_, run_underlying ht, sizeOf, typeInfo, hi, Builtin.lenOf, Builtin.firstCells, storeCells, loadCells, loadCellsFrom]
    unfold Oper.wp execOp
    simp only [ho, resolve, invoke, builtin, Sem.run_bind, Sem.run_pure, Result.andThen_ok, List.map_toArray, List.map_cons, List.map_nil, hs, hx, List.length_nil, hrun]
    exact hK _ _ w hown (Below.refl _ _)
  · obtain ⟨b, off, rfl, hb⟩ := h.1 (by intro e; rw [e] at h0; simp at h0)
    obtain ⟨css, c1, c2, c4, c5⟩ := h.css
    refine step_grows (P := P) (F := F) (l := ([] : List α)) hE w hgd s x t ho e ht hinfo hzs hsz ⟨g, 0, none⟩ 0 hs [] rfl (by simp) (fun i hi => absurd hi (by simp)) (by simp) ⟨b, off, none⟩ c l css hx c1 c2 c4 (c5 _ rfl) hF (by simpa using h0) (by simpa using h63) (by simpa using hbytes) ?_
    intro A' c' w' hown' hb'
    simp only [List.nil_append, List.length_nil, Nat.zero_add] at hown' ⊢
    obtain ⟨css2, d1, d2, d3, d4⟩ := hown'
    exact hK A' c' w' ⟨css2, d1, d2, own_weaken d3 hbase, d4⟩ hb'
theorem OwnRow.shape (h : OwnRow size e E F w base v l) : ∃ A c, v = .slice A l.length c := let ⟨_, h⟩ := h.owns; own_shape h
theorem OwnRow.made (t : TypeId) (size : Nat) (w : World) (hb : base ≤ w.heap.size) : OwnRow size t E F (w.alloc (.cells #[] t)) base (.slice (some ⟨w.heap.size, 0, none⟩) 0 0) [] :=
  ⟨[], rfl, fun _ h => by simp at h, World.ownsRow_made (base := base) (e := t) (size := size) w #[] 0 hb (Nat.zero_le _) (by simp), fun i h => absurd h (by simp)⟩
/-- a row of one element, just made -/
theorem OwnRow.one {x : α} {cs : List Value} {g : Nat} {t : TypeId} (hb : Blk w g t cs.toArray) (hg : base ≤ g) (hl : cs.length = size) (hx : E w (Oth F w (.slice (some ⟨g, 0, none⟩) 1 1)) x cs) : OwnRow size t E F w base (.slice (some ⟨g, 0, none⟩) 1 1) [x] := by
  refine ⟨[cs], rfl, fun c hc => by simp at hc; subst hc; exact hl, ⟨by simpa using hl, .inr ⟨g, 1, cs.toArray, rfl, hg, hb, Nat.le_refl _, by unfold maxLen; omega, by simpa using hl, by simp [List.take_of_length_le, hl]⟩⟩, fun i hi hi' => ?_⟩
  have hi0 : i = 0 := by simp at hi; omega
  subst hi0
  exact hx
theorem RowOf.take {A : Option Addr} (h : RowOf size E w F A l) (k : Nat) : RowOf size E w F A (l.take k) := by
  refine ⟨fun hn => h.1 (fun e => hn (by rw [e]; simp)), fun i hi => ?_⟩
  have hil : i < l.length := by rw [List.length_take] at hi; omega
  obtain ⟨cs, h1, h2, h3⟩ := h.2 i hil
  exact ⟨cs, h1, by rw [List.getElem_take]; exact h2, h3⟩
theorem RowOf.tail {b off : Nat} {x : α} (h : RowOf size E w F (some ⟨b, off, none⟩) (x :: l)) : RowOf size E w F (some ⟨b, off + size, none⟩) l := by
  obtain ⟨b', off', e, hb⟩ := h.1 (by simp)
  cases e
  refine ⟨fun _ => ⟨b, off + size, rfl, hb⟩, fun i hi => ?_⟩
  obtain ⟨cs, h1, h2, h3⟩ := h.2 (i + 1) (by simpa using hi)
  refine ⟨cs, h1, by simpa using h2, fun b2 off2 e j hj => ?_⟩
  cases e
  rw [← h3 b off rfl j hj]
  congr 2
  rw [Nat.add_mul]; omega
theorem RowOf.tl {b off : Nat} (h : RowOf size E w F (some ⟨b, off, none⟩) l) : RowOf size E w F (some ⟨b, off + size, none⟩) l.tail := by
  cases l with
  | nil => exact RowOf.nil _
  | cons x r => exact h.tail
theorem IsRow.row {A : Option Addr} {n c : Nat} (h : IsRow size E w F (.slice A n c) l) : RowOf size E w F A l := by
  obtain ⟨A', c', e, _, _, h3⟩ := h
  injection e with e1 _ _
  subst e1
  exact h3
end
theorem oth_of {F : Nat → Prop} {w : World} {v : Value} {base : Nat} (hF : ∀ b, F b → b < base) (hb : base ≤ w.heap.size) (hv : ∀ b, v.ownBlock = some b → base ≤ b) : ∀ b, F b → Oth F w v b :=
  fun b hx => ⟨hx, by have := hF b hx; omega, fun e => by have := hF b hx; have := hv b e; omega⟩
theorem model_info : (Try.prog.info? 27).map (fun i => (i.zero, i.size, i.bytes)) = some (some (.agg #[.int .i64 0, .slice none 0 0]), 2, 32) := by kernel_rfl
theorem EModel.one {w : World} {F : Nat → Prop} {m : AModel} {cs : List Value} (h : EModel w F m cs) : ∀ u ∈ cs, u.oneCell' = true := by
  obtain ⟨x, rfl, A, c, rfl, _⟩ := h
  intro u hu
  simp only [List.mem_cons, List.not_mem_nil, or_false] at hu
  rcases hu with rfl | rfl <;> rfl
end Go.Proofs.Ytpjkifbicfcajaa
