/- a buffer that began as '[]byte(s)' (a frozen mark lies behind its end), strings appended to it, its text -/
import Derived.Test.YtpkapommekkbcaaDoorBuf
import Derived.Laws.OwnMore
set_option linter.unusedSimpArgs false
set_option linter.unusedVariables false
namespace Go.Proofs.YtpkapommekkbcaaDoor
open Go Go.RowKit

theorem run_storeCells_out (P : Program) (g o : Nat) (t : TypeId) (fz : Nat × Nat) : ∀ (vs : List Value) (i : Nat) (cur : Array Value) (w : World), w.heap[g]? = some (.cells cur t fz) → (fz.2 ≤ o + i ∨ o + i + vs.length ≤ fz.1) → o + i + vs.length ≤ cur.size → (∀ v ∈ vs, v.oneCell' = true) →
    (storeCells ⟨g, o, none⟩ vs i).run P w = .ok () (w.setRow g (cur.toList.take (o + i) ++ vs ++ cur.toList.drop (o + i + vs.length)).toArray)
  | [], i, cur, w, hg, _, _, _ => by
    simp only [storeCells, List.append_nil, List.length_nil, Nat.add_zero, List.take_append_drop, Array.toArray_toList]
    rw [setRow_self w g cur t fz hg]
    rfl
  | v :: rest, i, cur, w, hg, hfz, hl, h1 => by
    have hi : o + i < cur.size := by simp at hl; omega
    have hadd : (⟨g, o, none⟩ : Addr).add i = ⟨g, o + i, none⟩ := by unfold Addr.add; split <;> simp_all
    have hcell : w.cell? ⟨g, o + i, none⟩ = some cur[o + i] := by simp [World.cell?, hg, hi]
    have hfro : w.frozen? ⟨g, o + i, none⟩ = false := by
      obtain ⟨lo, hi'⟩ := fz
      simp only [World.frozen?, hg, Bool.and_eq_false_iff, decide_eq_false_iff_not]
      simp only [List.length_cons] at hfz
      rcases hfz with h | h
      · right; omega
      · left; omega
    have hst : (store ((⟨g, o, none⟩ : Addr).add i) v).run P w = .ok () (w.setRow g (cur.setIfInBounds (o + i) v)) := by
      rw [hadd, run_store P w _ v _ (h1 v (by simp)), hcell]
      simp [hfro, setCell_eq_setRow w g (o + i) cur t fz v hg]
    have ih := run_storeCells_out P g o t fz rest (i + 1) (cur.setIfInBounds (o + i) v) (w.setRow g (cur.setIfInBounds (o + i) v)) (setRow_heap w g cur _ t _ hg) (by simp only [List.length_cons] at hfz; omega) (by simp at hl ⊢; omega) (fun x hx => h1 x (by simp [hx]))
    simp only [storeCells, Sem.run_bind, hst, Result.andThen_ok, ih, setRow_setRow]
    congr 3
    have e := list_seg_step cur.toList (o + i) v rest (by simp at hl ⊢; omega)
    simpa [Array.toList_setIfInBounds, Nat.add_assoc] using e

/-- a buffer that holds these bytes: at least one; what is frozen lies ahead of the next byte or behind the end -/
def Buf2 (B : Nat) (e : TypeId) (v : Value) (l : List UInt8) (W0 w : World) : Prop :=
  ∃ g cap cur fz, v = .slice (some ⟨g, 0, none⟩) l.length cap ∧ B ≤ g ∧ w.heap[g]? = some (.cells cur e fz) ∧ (fz.2 ≤ l.length ∨ cap ≤ fz.1) ∧ l.length ≤ cap ∧ cap ≤ maxLen ∧ cur.size = cap ∧ cur.toList.take l.length = u8c l ∧ Below B W0 w ∧ B ≤ w.heap.size
section
variable {B : Nat} {e : TypeId} {v : Value} {l : List UInt8} {W0 w w' : World}
theorem Buf2.shape (h : Buf2 B e v l W0 w) : ∃ g c, v = .slice (some ⟨g, 0, none⟩) l.length c := by
  obtain ⟨g, c, _, _, e, _⟩ := h
  exact ⟨g, c, e⟩
theorem Buf2.far (h : Buf2 B e v l W0 w) : Below B W0 w := by
  obtain ⟨_, _, _, _, _, _, _, _, _, _, _, _, h, _⟩ := h
  exact h
theorem Buf2.base (h : Buf2 B e v l W0 w) : B ≤ w.heap.size := by
  obtain ⟨_, _, _, _, _, _, _, _, _, _, _, _, _, h⟩ := h
  exact h
theorem Buf2.below (h : Buf2 B e v l W0 w) (hb : Below w.heap.size w w') : Buf2 B e v l W0 w' := by
  obtain ⟨g, cap, cur, fz, h1, h2, h3, h4, h5, h6, h7, h8, h9, h10⟩ := h
  exact ⟨g, cap, cur, fz, h1, h2, (hb.block g (Array.getElem?_eq_some_iff.1 h3).1).trans h3, h4, h5, h6, h7, h8, h9.trans (hb.mono h10), Nat.le_trans h10 hb.size⟩
/-- a block of another type is not the buffer's -/
theorem Buf2.ne (h : Buf2 B e v l W0 w) {q : Nat} {cs : Array Value} {t : TypeId} {fz : Nat × Nat} (hq : w.heap[q]? = some (.cells cs t fz)) (ht : t ≠ e) : v.ownBlock ≠ some q := by
  obtain ⟨g, cap, cur, fz', h1, _, h3, _⟩ := h
  subst h1
  intro e2
  simp only [Value.ownBlock] at e2
  have e3 : g = q := by simpa using e2
  subst e3
  rw [h3] at hq
  injection hq with hq
  injection hq with _ hq
  exact ht hq.symm
theorem Buf2.keepB (h : Buf2 B e v l W0 w) (hg : w.grownBy w' v.ownBlock) {q : Nat} {cs : Array Value} {t : TypeId} (hq : Blk w q t cs) (ht : t ≠ e) : Blk w' q t cs :=
  Blk.grown hq hg (Ne.symm (h.ne hq ht))
theorem Buf2.text {P : Program} {s d : TypeId} (h : Buf2 B e v l W0 w) (hs : P.underlying s = some (.slice e)) (he : P.underlying e = some (.int .u8)) (hd : P.underlying d = some .string) : Sem.run P (convert s d v) w = .ok (.string ⟨l.toArray⟩) w := by
  obtain ⟨g, cap, cur, fz, rfl, h2, h3, h4, h5, h6, h7, h8, _⟩ := h
  refine run_convert_bytes_back w _ _ e ⟨g, 0, none⟩ cap l hs he hd fun j hj => ?_
  rw [show (⟨g, 0, none⟩ : Addr).add j = ⟨g, j, none⟩ by cases j <;> simp [Addr.add], cell_of_row w g j cur e fz h3]
  have h9 : (cur.toList.take l.length)[j]? = (u8c l)[j]? := by rw [h8]
  rw [List.getElem?_take, if_pos hj] at h9
  rw [← Array.getElem?_toList, h9]
  unfold u8c
  rw [List.getElem?_map, List.getElem?_eq_getElem hj]; rfl
/-- '[]byte(s)' -/
theorem Buf2.start {P : Program} {s d : TypeId} (w : World) (t : ByteArray) (hs : P.underlying s = some .string) (hd : P.underlying d = some (.slice e)) (he : P.underlying e = some (.int .u8)) (ht : 0 < t.size) (h63 : t.size ≤ maxLen) :
    ∃ v w', Sem.run P (convert s d (.string t)) w = .ok v w' ∧ Buf2 w.heap.size e v t.data.toList w w' := by
  have hge := grownCap_ge w t.size 0 e
  obtain ⟨cap, hcap⟩ : ∃ c, grownCap w t.size 0 e = c := ⟨_, rfl⟩
  have hr := run_bytes_of_string (P := P) w s d e t hs hd he
  have hmx := grownCap_le_maxLen w t.size 0 e h63
  rw [hcap] at hge hr hmx
  have hsz : (bytesRow t cap).size = cap := by
    unfold bytesRow
    simp only [Array.size_append, Array.size_map, Array.size_replicate]
    show t.size + (cap - t.size) = cap
    omega
  refine ⟨_, _, hr, w.heap.size, cap, _, _, rfl, Nat.le_refl _, heap_alloc_new w.drew _, .inr (by show cap ≤ (bytesRow t cap).size; omega), hge, hmx, hsz, ?_, (Below.refl _ _).drew.alloc (Nat.le_refl _) _, by simp⟩
  unfold bytesRow u8c
  rw [Array.toList_append, List.take_append_of_le_length (by simp), List.take_of_length_le (by simp)]
  simp
theorem Buf2.append {P : Program} (t u ty : TypeId) (i : TypeInfo) (ht : P.underlying t = some (.slice e)) (hu : P.underlying u = some .string) (hi : P.info? e = some i) (hz : i.zero = some (.int .u8 0)) (hsize : i.size = 1) (hby : i.bytes = 1)
    (h : Buf2 B e v l W0 w) (s : ByteArray) (hlen : l.length + s.size ≤ 140737488355328) :
    ∃ v' w', (Builtin.append_ #[t, u] ty #[v, .string s]).run P w = .ok v' w' ∧ Buf2 B e v' (l ++ s.data.toList) W0 w' ∧ w.grownBy w' v.ownBlock := by
  obtain ⟨g, cap, cur, fz, rfl, h2, h3, h4, h5, h6, h7, h8, h9, h10⟩ := h
  have hsl : s.data.toList.length = s.size := rfl
  have hst : Lib.strCells s = u8c s.data.toList := rfl
  have hlt : g < w.heap.size := (Array.getElem?_eq_some_iff.1 h3).1
  by_cases hroom : l.length + s.size ≤ cap
  · have hf := Lib.run_firstCells_string (P := P) w 1 s
    have hcs := run_storeCells_out P g l.length e fz (Lib.strCells s) 0 cur w h3 (by rw [Lib.strCells_length]; omega) (by rw [Lib.strCells_length]; omega) (Lib.strCells_oneCell s)
    simp only [Nat.add_zero, Lib.strCells_length] at hcs
    have hr : (Builtin.append_ #[t, u] ty #[.slice (some ⟨g, 0, none⟩) l.length cap, .string s]).run P w =
      .ok (.slice (some ⟨g, 0, none⟩) (l.length + s.size) cap) (w.setRow g (cur.toList.take l.length ++ Lib.strCells s ++ cur.toList.drop (l.length + s.size)).toArray) := by
      simp [Builtin.append_, run_underlying ht, run_underlying hu, sizeOf, typeInfo, hi, hsize, Builtin.lenOf, hroom, hf, Addr.add_lit, hcs]
    have hg : w.grownBy (w.setRow g (cur.toList.take l.length ++ Lib.strCells s ++ cur.toList.drop (l.length + s.size)).toArray) (some g) := ⟨rfl, rfl, rfl, by simp, fun k _ hk => setRow_other w g k _ (fun e => hk (by simp [e]))⟩
    refine ⟨_, _, hr, ⟨g, cap, _, fz, by rw [List.length_append, hsl], h2, setRow_heap w g cur _ e _ h3, ?_, ?_, h6, ?_, ?_, h9.grown hg h10 (fun k hk => by injection hk with hk; subst hk; exact h2), by simpa using h10⟩, hg⟩
    · rw [List.length_append]; omega
    · rw [List.length_append, hsl]; exact hroom
    · simp only [List.size_toArray, List.length_append, List.length_take, List.length_drop, Array.length_toList, Lib.strCells_length]
      omega
    · rw [h8, hst, u8c_app]
      show ((u8c l ++ u8c s.data.toList) ++ _).take _ = _
      rw [List.take_append_of_le_length (by rw [← u8c_app, u8c_len]; exact Nat.le_refl _), List.take_of_length_le (by rw [← u8c_app, u8c_len]; exact Nat.le_refl _)]
  · have holds : ∀ j u, (u8c l)[j]? = some u → w.cell? ((⟨g, 0, none⟩ : Addr).add j) = some u := fun j u hj => by
      rw [show (⟨g, 0, none⟩ : Addr).add j = ⟨g, j, none⟩ by cases j <;> simp [Addr.add], cell_of_row w g j cur e fz h3, ← Array.getElem?_toList]
      rw [← h8, List.getElem?_take] at hj
      split at hj
      · exact hj
      · cases hj
    have hr := Lib.run_append_grow_string (P := P) w t u ty e i (.int .u8 0) ht hu hi hz ⟨g, 0, none⟩ l.length cap (u8c l) (by rw [hsize, u8c_len]; omega) holds s (by omega) (by omega) (by rw [hby]; exact growslice_fits (by omega) (by omega))
    have hge := grownCap_ge w (l.length + s.size) cap e
    have hcm2 : grownCap w (l.length + s.size) cap e ≤ maxLen := grownCap_le_maxLen w (l.length + s.size) cap e (by unfold maxLen; omega)
    have hg : w.grownBy (w.drew.alloc (.cells ((u8c l).toArray ++ (Lib.strCells s).toArray ++ Builtin.zeroCells (Value.int IntKind.u8 0).cells (grownCap w (l.length + s.size) cap e - (l.length + s.size))) e)) (some g) := ⟨rfl, rfl, rfl, by simp, fun k hk _ => Lib.alloc_old w.drew _ k hk⟩
    refine ⟨_, _, hr, ⟨w.heap.size, _, _, (0, 0), by rw [List.length_append, hsl], h10, heap_alloc_new w.drew _, .inl (Nat.zero_le _), by rw [List.length_append, hsl]; exact hge, hcm2, ?_, ?_, h9.grown hg h10 (fun k hk => by injection hk with hk; subst hk; exact h2), by simp; omega⟩, hg⟩
    · have hz1 : (Value.int IntKind.u8 0).cells.size = 1 := rfl
      simp only [Array.size_append, List.size_toArray, size_zeroCells, hz1, u8c_len, Lib.strCells_length]
      omega
    · rw [hst, u8c_app]
      simp only [Array.toList_append, List.append_assoc]
      rw [← List.append_assoc, List.take_append_of_le_length (by rw [← u8c_app, u8c_len]; exact Nat.le_refl _), List.take_of_length_le (by rw [← u8c_app, u8c_len]; exact Nat.le_refl _)]
theorem wpList_append_str2 {P : Program} {ops : Array Oper} {rest : List Oper} {o : Oper} {a : Act} {Q : Exit → Act → World → Prop} (hgd : o.guard = none) (sl x : Operand) (t u : TypeId)
    (ho : o.op = .call { callee := .builtin .append, args := #[sl, x], argTypes := #[t, u] }) (i : TypeInfo) (ht : P.underlying t = some (.slice e)) (hu : P.underlying u = some .string) (hi : P.info? e = some i) (hz : i.zero = some (.int .u8 0)) (hsize : i.size = 1) (hby : i.bytes = 1)
    (hs : a.eval sl = v) (h : Buf2 B e v l W0 w) (s : ByteArray) (hx : a.eval x = .string s) (hlen : l.length + s.size ≤ 140737488355328)
    (hk : ∀ v' w', Buf2 B e v' (l ++ s.data.toList) W0 w' → w.grownBy w' v.ownBlock → wpList P ops Q rest (a.put o.dst v') w') : wpList P ops Q (o :: rest) a w := by
  refine wpList_plain hgd fun K hK => ?_
  obtain ⟨v', w', hr, h2, h3⟩ := h.append t u o.type i ht hu hi hz hsize hby s hlen
  unfold Oper.wp execOp
  simp only [ho, resolve, invoke, builtin, Sem.run_bind, Sem.run_pure, Result.andThen_ok, List.map_toArray, List.map_cons, List.map_nil, hs, hx, hr]
  exact hK _ _ (hk v' w' h2 h3)
end
end Go.Proofs.YtpkapommekkbcaaDoor
