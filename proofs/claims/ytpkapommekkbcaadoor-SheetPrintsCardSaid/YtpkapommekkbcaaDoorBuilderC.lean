import Derived.Test.YtpkapommekkbcaaDoorProg
import Derived.Test.YtpkapommekkbcaaDoorBase
import Derived.Shelf.Strings.Builder1
import Derived.Test.YtpkapommekkbcaaDoorShelf
import Derived.Test.YtpkapommekkbcaaDoorDigs
set_option linter.unusedSimpArgs false
set_option linter.unusedVariables false
section
namespace Go.Proofs.YtpkapommekkbcaaDoor
open Go Go.RowKit


theorem builder_size : (Tryd.prog.info? 44).map (·.size) = some 2 := by kernel_rfl
theorem builder_lies : liesAt Tryd.prog Tryd.prog.depth 44 (2 / Tryd.prog.cellsOf 44) 0 44 1 = true := by kernel_rfl
theorem byte_info : (Tryd.prog.info? 5).map (fun i => (i.zero, i.size, i.bytes)) = some (some (.int .u8 0), 1, 1) := by kernel_rfl

set_option maxHeartbeats 1000000 in
set_option maxRecDepth 100000 in
theorem copyCheck_used (b : Nat) (w : World) (h0 : w.cell? ⟨b, 0, none⟩ = some (.pointer (some ⟨b, 0, none⟩))) :
    Calls Tryd.prog 31 #[.pointer (some ⟨b, 0, none⟩)] w fun e w' => e = .returned (.tuple #[]) ∧ w' = w := by
  obtain ⟨j, hj, _⟩ := Option.map_eq_some_iff.1 builder_size
  go_enter Tryd.func31, Tryd.ntmps31
  go_wp2
  rw [Lib.run_neq_ptr_same w _ Tryd.underlying41 hj]
  go_wp2
  go_end0
  exact ⟨rfl, rfl⟩

set_option maxHeartbeats 1000000 in
set_option maxRecDepth 100000 in
theorem copyCheck_fresh (b : Nat) (w : World) (h0 : w.cell? ⟨b, 0, none⟩ = some (.pointer none)) (hsh : w.shape? b = some (44, 2)) (hfz : w.frozen? ⟨b, 0, none⟩ = false) :
    Calls Tryd.prog 31 #[.pointer (some ⟨b, 0, none⟩)] w fun e w' => e = .returned (.tuple #[]) ∧ w' = w.setCell ⟨b, 0, none⟩ (.pointer (some ⟨b, 0, none⟩)) := by
  obtain ⟨j, hj, hjs⟩ := Option.map_eq_some_iff.1 builder_size
  go_enter Tryd.func31, Tryd.ntmps31
  go_wp2
  rw [Lib.run_to_unsafe w ⟨b, 0, none⟩ Tryd.underlying41 Tryd.underlying83 hj (by rw [hjs]; decide) hsh (Nat.zero_lt_succ 1)]
  simp only [Result.andThen]
  rw [Oper.upon_value]
  go_wp2
  rw [run_callFunc_extern Tryd.func48 (by kernel_rfl) (by kernel_rfl) (by kernel_rfl) (e := Extern.AbiNoEscape.same) (by kernel_rfl)]
  rw [Lib.run_noEscape]
  simp only [Result.andThen]
  rw [Oper.upon_value]
  go_wp2
  rw [Lib.run_from_unsafe w ⟨b, 0, none⟩ Tryd.underlying83 Tryd.underlying41 hj hsh builder_lies]
  simp only [Result.andThen]
  rw [Oper.upon_value]
  go_wp2
  go_end0
  exact ⟨rfl, rfl⟩

end Go.Proofs.YtpkapommekkbcaaDoor
end
section
/- a Builder's WriteByte -/
namespace Go.Proofs.YtpkapommekkbcaaDoor
open Go Go.RowKit

end Go.Proofs.YtpkapommekkbcaaDoor
end
section
/- a Builder's WriteString and WriteByte: what else is there stands (Besides) -/
namespace Go.Proofs.YtpkapommekkbcaaDoor
open Go Go.RowKit

/-- all stands but block b and blocks of bytes -/
structure Besides (b : Nat) (w w' : World) : Prop where
  size : w.heap.size ≤ w'.heap.size
  block : ∀ k, k < w.heap.size → k ≠ b → (∀ cs fz, w.heap[k]? ≠ some (.cells cs 5 fz)) → w'.heap[k]? = w.heap[k]?
section
variable {b : Nat} {w w' w'' : World}
theorem Besides.refl (b : Nat) (w : World) : Besides b w w := ⟨Nat.le_refl _, fun _ _ _ _ => rfl⟩
theorem Besides.trans (h : Besides b w w') (h' : Besides b w' w'') : Besides b w w'' :=
  ⟨Nat.le_trans h.size h'.size, fun k hk hb hc => by
    have e := h.block k hk hb hc
    rw [h'.block k (Nat.lt_of_lt_of_le hk h.size) hb (fun cs fz => by rw [e]; exact hc cs fz), e]⟩
theorem Besides.of_below (hb : Below w.heap.size w w') : Besides b w w' := ⟨hb.size, fun k hk _ _ => hb.block k hk⟩
theorem Besides.of_grown {v : Value} {B n : Nat} {xs : List Value} (ho : w.ownsRow B 5 1 v n xs) (hg : w.grownBy w' v.ownBlock) : Besides b w w' :=
  ⟨hg.size, fun k hk _ hc => hg.block k hk (fun e => by
    rcases ho.2 with ⟨rfl, _⟩ | ⟨g, cap, cur, rfl, _, hh, _⟩
    · cases e
    · have : k = g := by simpa [Value.ownBlock] using e
      subst this
      exact hc _ _ hh)⟩
theorem Besides.set (w : World) (b i : Nat) (u : Value) : Besides b w (w.setCell ⟨b, i, none⟩ u) :=
  ⟨by simp, fun k _ hk _ => Below.heap_setCell _ _ _ _ hk⟩
theorem Blk.besides {g : Nat} {t : TypeId} {cs : Array Value} (h : Blk w g t cs) (hb : Besides b w w') (hg : g ≠ b) (ht : t ≠ 5) : Blk w' g t cs :=
  (hb.block g h.lt hg (fun cs' fz e => by
    unfold Blk at h
    rw [h] at e
    injection e with e
    injection e with _ e
    exact ht e)).trans h
end

set_option maxHeartbeats 1000000 in
set_option maxRecDepth 100000 in
theorem copyCheck_bes (B b : Nat) (bs : List Value) (w : World) (h : Lib.IsBuilder 44 5 B b bs w) :
    Calls Tryd.prog 31 #[.pointer (some ⟨b, 0, none⟩)] w fun e w' => e = .returned (.tuple #[]) ∧ (Lib.BuilderAt 44 5 B b (.pointer (some ⟨b, 0, none⟩)) bs w' ∧ Below B w w' ∧ Besides b w w') := by
  rcases h with h | h
  · refine (copyCheck_fresh b w h.cell0 h.shape h.frozen0).mono ?_
    rintro e w' ⟨rfl, rfl⟩
    exact ⟨rfl, h.used _, (Below.refl B w).setCell (p := ⟨b, 0, none⟩) h.1 _, Besides.set w b 0 _⟩
  · refine (copyCheck_used b w h.cell0).mono ?_
    rintro e w' ⟨rfl, rfl⟩
    exact ⟨rfl, h, Below.refl B _, Besides.refl _ _⟩

set_option maxHeartbeats 1000000 in
set_option maxRecDepth 100000 in
theorem writeString_bes (B b : Nat) (bs : List Value) (s : ByteArray) (w : World) (h : Lib.IsBuilder 44 5 B b bs w) (hlen : bs.length + s.size ≤ 140737488355328) (hBw : B ≤ w.heap.size) :
    Calls Tryd.prog 13 #[.pointer (some ⟨b, 0, none⟩), .string s] w fun e w' => e = .returned (.tuple #[.int .i64 s.size, .nilIface]) ∧ (Lib.BuilderAt 44 5 B b (.pointer (some ⟨b, 0, none⟩)) (bs ++ Lib.strCells s) w' ∧ Below B w w' ∧ Besides b w w') := by
  obtain ⟨i0, hi, hz0, hz1, hz2⟩ := info_parts byte_info
  go_enter Tryd.func13, Tryd.ntmps13
  go_wp2_with (go_at_call 31; refine (copyCheck_bes B b bs _ h).mono ?_)
  rintro e w1 ⟨rfl, h1, hb1, hbe1⟩
  obtain ⟨hB, v, hbk, hown, hne⟩ := h1
  have c0 : w1.cell? ⟨b, 0, none⟩ = some (.pointer (some ⟨b, 0, none⟩)) := by rw [Lib.cell_of_heap hbk]; rfl
  have c1 : w1.cell? ⟨b, 1, none⟩ = some v := by rw [Lib.cell_of_heap hbk]; rfl
  go_wp2_with (at_builtin; refine Lib.wpList_append_own_string _ rfl _ _ 42 9 rfl B 5 i0 Tryd.underlying42 Tryd.underlying9 hi hz0 hz1 hz2 _ _ _ rfl hown s rfl ?c3 ?c4 ?c5 ?_)
  case c3 => unfold maxLen; omega
  case c4 => omega
  case c5 => have := hb1.size; omega
  intro v' w2 hown' hgrow _
  have hlt : b < w1.heap.size := by
    rcases Nat.lt_or_ge b w1.heap.size with h' | h'
    · exact h'
    · simp [Array.getElem?_eq_none h'] at hbk
  have hb2 : w2.heap[b]? = some (.cells #[.pointer (some ⟨b, 0, none⟩), v] 44 (0, 0)) := by
    rw [hgrow.block b hlt (fun e => hne e.symm)]
    exact hbk
  have d0 : w2.cell? ⟨b, 0, none⟩ = some (.pointer (some ⟨b, 0, none⟩)) := by rw [Lib.cell_of_heap hb2]; rfl
  have d1 : w2.cell? ⟨b, 1, none⟩ = some v := by rw [Lib.cell_of_heap hb2]; rfl
  have f1 : w2.frozen? ⟨b, 1, none⟩ = false := Lib.frozen_of_heap hb2 1
  obtain ⟨ao, n', cap, rfl⟩ : ∃ ao n' cap, v' = .slice ao n' cap := by
    rcases hown'.2 with ⟨hv, _⟩ | ⟨g, cap, cur, hv, _⟩
    · exact ⟨_, _, _, hv⟩
    · exact ⟨_, _, _, hv⟩
  have HBE := Lib.hid ((hbe1.trans (Besides.of_grown hown hgrow)).trans (Besides.set w2 b 1 (.slice ao n' cap)))
  go_wp2
  go_ret2
  refine ⟨rfl, ?_, ?_, HBE.out⟩
  · exact Lib.BuilderAt.put (T := 44) (e := 5) hB hb2 (bs' := bs ++ Lib.strCells s) (by simpa [Lib.strCells_length] using hown') (by decide)
  · exact (hb1.grown hgrow (by have := hb1.size; omega) (fun k hk => (hown.lt k hk).1)).setCell (p := ⟨b, 1, none⟩) hB _

set_option maxHeartbeats 2000000 in
set_option maxRecDepth 100000 in
theorem writeByte_bes (B b : Nat) (bs : List Value) (c : Int) (w : World) (h : Lib.IsBuilder 44 5 B b bs w) (hlen : bs.length + 1 ≤ 140737488355328) (hBw : B ≤ w.heap.size) :
    Calls Tryd.prog 15 #[.pointer (some ⟨b, 0, none⟩), .int .u8 c] w fun e w' => e = .returned .nilIface ∧ (Lib.BuilderAt 44 5 B b (.pointer (some ⟨b, 0, none⟩)) (bs ++ [.int .u8 c]) w' ∧ Below B w w' ∧ Besides b w w') := by
  obtain ⟨i0, hi, hz0, hz1, hz2⟩ := info_parts byte_info
  go_enter Tryd.func15, Tryd.ntmps15
  go_wp2_with (go_at_call 31; refine (copyCheck_bes B b bs _ h).mono ?_)
  rintro e w1 ⟨rfl, h1, hb1, hbe1⟩
  obtain ⟨hB, v, hbk, hown, hne⟩ := h1
  have c0 : w1.cell? ⟨b, 0, none⟩ = some (.pointer (some ⟨b, 0, none⟩)) := by rw [Lib.cell_of_heap hbk]; rfl
  have c1 : w1.cell? ⟨b, 1, none⟩ = some v := by rw [Lib.cell_of_heap hbk]; rfl
  go_wp2_with (at_builtin; refine wpList_append_own _ rfl _ _ 42 rfl B 5 i0 (.int .u8 0) 1 1 Tryd.underlying42 hi hz0 hz1 hz2 rfl (by decide) _ _ _ rfl (hown.alloc _) ⟨w1.heap.size, 0, none⟩ 1 1 [.int .u8 c] rfl rfl ?c1 ?c2 ?c3 ?c4 ?c5 ?_)
  case c1 =>
    intro j u hj
    match j, hj with
    | 0, hj => simp at hj; subst hj; simp [Addr.add]
  case c2 => intro u hu; simp at hu; subst hu; rfl
  case c3 => unfold maxLen; omega
  case c4 => omega
  case c5 => have := hb1.size; simp; omega
  intro v' w2 hown' hgrow _
  have hlt : b < w1.heap.size := by
    rcases Nat.lt_or_ge b w1.heap.size with h' | h'
    · exact h'
    · simp [Array.getElem?_eq_none h'] at hbk
  have hb2 : w2.heap[b]? = some (.cells #[.pointer (some ⟨b, 0, none⟩), v] 44 (0, 0)) := by
    rw [hgrow.block b (by simp; omega) (fun e => hne e.symm), Lib.alloc_old w1 _ b hlt]
    exact hbk
  have d0 : w2.cell? ⟨b, 0, none⟩ = some (.pointer (some ⟨b, 0, none⟩)) := by rw [Lib.cell_of_heap hb2]; rfl
  have d1 : w2.cell? ⟨b, 1, none⟩ = some v := by rw [Lib.cell_of_heap hb2]; rfl
  have f1 : w2.frozen? ⟨b, 1, none⟩ = false := Lib.frozen_of_heap hb2 1
  obtain ⟨g, cap, rfl⟩ : ∃ g cap, v' = .slice (some ⟨g, 0, none⟩) (bs.length + 1) cap := by
    rcases hown'.2 with ⟨_, h0⟩ | ⟨g, cap, cur, hv, _⟩
    · omega
    · exact ⟨g, cap, hv⟩
  have HBE := Lib.hid ((hbe1.trans ((Besides.of_below ((Below.refl _ _).alloc (Nat.le_refl _) _)).trans (Besides.of_grown (hown.alloc _) hgrow))).trans (Besides.set w2 b 1 (.slice (some ⟨g, 0, none⟩) (bs.length + 1) cap)))
  go_wp2
  go_ret
  refine ⟨rfl, ?_, ?_, HBE.out⟩
  · exact Lib.BuilderAt.put (T := 44) (e := 5) hB hb2 (bs' := bs ++ [.int .u8 c]) (by simpa using hown') (by decide)
  · exact ((hb1.alloc (by have := hb1.size; omega) _).grown hgrow (by have := hb1.size; simp; omega) (fun k hk => (hown.lt k hk).1)).setCell (p := ⟨b, 1, none⟩) hB _

/-- a builder that holds these bytes -/
def HoldsB (w : World) (B b : Nat) (xs : List UInt8) : Prop := Lib.IsBuilder 44 5 B b (Lib.byteCells xs) w
theorem HoldsB.below {w w' : World} {B b : Nat} {xs : List UInt8} (h : HoldsB w B b xs) (hb : Below w.heap.size w w') : HoldsB w' B b xs := by
  have key : ∀ p, Lib.BuilderAt 44 5 B b p (Lib.byteCells xs) w → Lib.BuilderAt 44 5 B b p (Lib.byteCells xs) w' := fun p h => by
    have hlt := h.lt
    obtain ⟨h1, v, h2, h3, h4⟩ := h
    exact ⟨h1, v, (hb.block b hlt).trans h2, h3.kept (row := none) ⟨hb.os, hb.tape, hb.output, hb.size, fun k hk _ => hb.block k hk⟩ (by cases hv : v.ownBlock <;> simp), h4⟩
  exact h.imp (key _) (key _)
theorem HoldsB.lt {w : World} {B b : Nat} {xs : List UInt8} (h : HoldsB w B b xs) : B ≤ b ∧ b < w.heap.size := by
  rcases h with h | h
  · exact ⟨h.1, h.lt⟩
  · exact ⟨h.1, h.lt⟩
/-- the builder's block is of no other type -/
theorem HoldsB.ne {w : World} {B b : Nat} {xs : List UInt8} (h : HoldsB w B b xs) {g : Nat} {t : TypeId} {cs : Array Value} (hg : Blk w g t cs) (ht : t ≠ 44) : g ≠ b := by
  intro e
  subst e
  unfold Blk at hg
  rcases h with ⟨_, v, h2, _⟩ | ⟨_, v, h2, _⟩
  all_goals
    rw [h2] at hg
    injection hg with hg
    injection hg with _ hg
    exact ht hg.symm
set_option maxRecDepth 100000 in
theorem writeS_any (B b : Nat) (xs s : List UInt8) (w : World) (h : HoldsB w B b xs) (hl : xs.length + s.length ≤ 140737488355328) (hB : B ≤ w.heap.size) :
    Calls Tryd.prog 13 #[.pointer (some ⟨b, 0, none⟩), .string (byt s)] w fun e w' => ∃ v, e = .returned v ∧ HoldsB w' B b (xs ++ s) ∧ Below B w w' ∧ Besides b w w' :=
  (writeString_bes B b (Lib.byteCells xs) (byt s) w h (by rw [Lib.byteCells_length]; exact hl) hB).mono fun e w' ⟨h1, h2, h3, h4⟩ => ⟨_, h1, by unfold HoldsB; rw [Lib.byteCells_append]; exact .inr h2, h3, h4⟩
set_option maxRecDepth 100000 in
theorem writeB_any (B b : Nat) (xs : List UInt8) (k : Int) (x : UInt8) (w : World) (hk : k = x.toNat) (h : HoldsB w B b xs) (hl : xs.length + 1 ≤ 140737488355328) (hB : B ≤ w.heap.size) :
    Calls Tryd.prog 15 #[.pointer (some ⟨b, 0, none⟩), .int .u8 k] w fun e w' => e = .returned .nilIface ∧ HoldsB w' B b (xs ++ [x]) ∧ Below B w w' ∧ Besides b w w' := by
  subst hk
  exact (writeByte_bes B b (Lib.byteCells xs) _ w h (by rw [Lib.byteCells_length]; exact hl) hB).mono fun e w' ⟨h1, h2, h3, h4⟩ => ⟨h1, by unfold HoldsB; rw [Lib.byteCells_append]; exact .inr h2, h3, h4⟩
end Go.Proofs.YtpkapommekkbcaaDoor
end
