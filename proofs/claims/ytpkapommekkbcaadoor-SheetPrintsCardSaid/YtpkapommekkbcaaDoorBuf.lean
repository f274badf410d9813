/- a buffer of bytes of the call's own: its beginning as a literal, some bytes more at once, its text -/
import Derived.Test.YtpkapommekkbcaaDoorBase
import Derived.Test.YtpkapommekkbcaaDoorProg
import Derived.Lib.BufSteps
import Derived.Laws.IdiomStrings
import Derived.Laws.BytesArg
set_option linter.unusedSimpArgs false
set_option linter.unusedVariables false
namespace Go.Proofs.YtpkapommekkbcaaDoor
open Go Go.RowKit

/-- the bytes of a list, as cells -/
def u8c (l : List UInt8) : List Value := l.map fun b => Value.int .u8 b.toNat
theorem u8c_app (a b : List UInt8) : u8c (a ++ b) = u8c a ++ u8c b := List.map_append
theorem u8c_len (l : List UInt8) : (u8c l).length = l.length := List.length_map _
/-- a buffer that holds these bytes -/
def Buf (B : Nat) (e : TypeId) (v : Value) (l : List UInt8) (W0 w : World) : Prop := Lib.OwnBuf B e v l.length (u8c l) W0 w
theorem Buf.nil {B : Nat} {e : TypeId} {w : World} (hB : B ≤ w.heap.size) : Buf B e (.slice none 0 0) [] w w := ⟨World.ownsRowF_nil _ _ _ _, Below.refl _ _, hB⟩
theorem Buf.below {B : Nat} {e : TypeId} {v : Value} {l : List UInt8} {W0 w w' : World} (h : Buf B e v l W0 w) (hb : Below w.heap.size w w') : Buf B e v l W0 w' := by
  obtain ⟨h1, h2, h3⟩ := h
  exact ⟨h1.kept (row := none) ⟨hb.os, hb.tape, hb.output, hb.size, fun k hk _ => hb.block k hk⟩ (by cases hv : v.ownBlock <;> simp), h2.trans (hb.mono h3), Nat.le_trans h3 hb.size⟩
theorem Buf.later {B : Nat} {e : TypeId} {v : Value} {l : List UInt8} {W W0 w : World} (h : Buf B e v l W0 w) (hb : Below B W W0) : Buf B e v l W w := ⟨h.1, hb.trans h.2.1, h.2.2⟩
/-- a literal that the call has just laid -/
theorem Buf.lit {e : TypeId} {l : List UInt8} {w : World} {cs : Array Value} (hc : cs.toList = u8c l) (hl : l.length ≤ maxLen) : Buf w.heap.size e (.slice (some ⟨w.heap.size, 0, none⟩) l.length l.length) l w (w.alloc (.cells cs e)) := by
  refine ⟨⟨by rw [u8c_len]; omega, .inr ⟨w.heap.size, l.length, cs, (0, 0), rfl, Nat.le_refl _, heap_alloc_new w _, Nat.zero_le _, Nat.le_refl _, hl, ?_, ?_⟩⟩, (Below.refl _ _).alloc (Nat.le_refl _) _, by simp⟩
  · have := congrArg List.length hc
    rw [u8c_len] at this
    simpa using this
  · rw [hc, List.take_of_length_le (by rw [u8c_len]; omega)]
theorem Buf.len {B : Nat} {e : TypeId} {v : Value} {l : List UInt8} {W0 w : World} (h : Buf B e v l W0 w) : ∃ A c, v = .slice A l.length c := by
  rcases h.1.2 with ⟨rfl, e⟩ | ⟨g, cap, _, _, rfl, _⟩
  · exact ⟨none, 0, by rw [e]⟩
  · exact ⟨_, _, rfl⟩

section
variable {P : Program}
/-- 'append(buf, c, d ..)': the new bytes lie in the block that the statement has just laid -/
theorem wpList_append_lits {ops : Array Oper} {rest : List Oper} {o : Oper} {a : Act} {Q : Exit → Act → World → Prop} (hgd : o.guard = none) (s x : Operand) (t : TypeId)
    (ho : o.op = .call { callee := .builtin .append, args := #[s, x], argTypes := #[t, t] })
    (B : Nat) (e : TypeId) (i : TypeInfo) (ht : P.underlying t = some (.slice e)) (hi : P.info? e = some i) (hz : i.zero = some (.int .u8 0)) (hsize : i.size = 1) (hby : i.bytes = 1)
    (v : Value) (l : List UInt8) (hs : a.eval s = v) (W0 w0 : World) (hb : Buf B e v l W0 w0) (y : List UInt8) (cs : Array Value) (hc : cs.toList = u8c y)
    (k c : Nat) (hx : a.eval x = .slice (some ⟨w0.heap.size, 0, none⟩) k c) (hk : k = y.length) (hlen : l.length + y.length ≤ 140737488355328)
    (h : ∀ v' w', Buf B e v' (l ++ y) W0 w' → wpList P ops Q rest (a.put o.dst v') w') : wpList P ops Q (o :: rest) a (w0.alloc (.cells cs e)) := by
  subst hk
  have hb' := Lib.OwnBuf.alloc hb (.cells cs e)
  refine wpList_append_ownF _ hgd s x t ho B e i (.int .u8 0) 1 1 ht hi hz hsize hby rfl (by decide) v l.length (u8c l) hs hb'.1 ⟨w0.heap.size, 0, none⟩ y.length c (u8c y) hx (by rw [u8c_len]; omega) ?_ ?_ (by unfold maxLen; omega) (by omega) hb'.2.2 ?_
  · intro j u hj
    rw [← hc] at hj
    show (w0.alloc (.cells cs e)).cell? _ = some u
    have e1 : (w0.alloc (.cells cs e)).heap[w0.heap.size]? = some (.cells cs e) := heap_alloc_new w0 _
    rw [show (⟨w0.heap.size, 0, none⟩ : Addr).add j = ⟨w0.heap.size, j, none⟩ by cases j <;> simp [Addr.add], Lib.cell_of_heap e1]
    simpa using hj
  · intro u hu
    obtain ⟨b, _, rfl⟩ := List.mem_map.1 hu
    rfl
  · intro v' w' ho' hg _
    refine h v' w' ?_
    have := hb'.grown (n' := l.length + y.length) (xs' := u8c l ++ u8c y) ho' hg
    unfold Buf
    rw [u8c_app, List.length_append]
    exact this
/-- the same at an operation by itself; the new bytes lie in a block g -/
theorem wp_append_blk {o : Oper} {a : Act} {w : World} {K : Act → World → Prop} {Q : Exit → Act → World → Prop} (s x : Operand) (t : TypeId)
    (ho : o.op = .call { callee := .builtin .append, args := #[s, x], argTypes := #[t, t] })
    (B : Nat) (e : TypeId) (i : TypeInfo) (ht : P.underlying t = some (.slice e)) (hi : P.info? e = some i) (hz : i.zero = some (.int .u8 0)) (hsize : i.size = 1) (hby : i.bytes = 1)
    (v : Value) (l : List UInt8) (hs : a.eval s = v) (W0 : World) (hb : Buf B e v l W0 w) (y : List UInt8) (cs : Array Value) (hc : cs.toList = u8c y) (g : Nat) (hg : Blk w g e cs)
    (k c : Nat) (hx : a.eval x = .slice (some ⟨g, 0, none⟩) k c) (hk : k = y.length) (hlen : l.length + y.length ≤ 140737488355328)
    (h : ∀ v' w', Buf B e v' (l ++ y) W0 w' → K (a.put o.dst v') w') : o.wp P a w K Q := by
  subst hk
  obtain ⟨v', w', hr, h2, h3, h4⟩ := run_append_ownF (P := P) w B t o.type e i (.int .u8 0) 1 1 ht hi hz hsize hby rfl (by decide) v l.length (u8c l) hb.1 ⟨g, 0, none⟩ y.length c (u8c y) (by rw [u8c_len]; omega) (by
    intro j u hj
    rw [← hc] at hj
    rw [show (⟨g, 0, none⟩ : Addr).add j = ⟨g, j, none⟩ by cases j <;> simp [Addr.add], Lib.cell_of_heap hg]
    simpa using hj) (by
    intro u hu
    obtain ⟨b, _, rfl⟩ := List.mem_map.1 hu
    rfl) (by unfold maxLen; omega) (by omega) hb.2.2
  unfold Oper.wp execOp
  simp only [ho, resolve, invoke, builtin, Sem.run_bind, Sem.run_pure, Result.andThen_ok, List.map_toArray, List.map_cons, List.map_nil, hs, hx, hr]
  refine h v' w' ?_
  have := Lib.OwnBuf.grown hb (n' := l.length + y.length) (xs' := u8c l ++ u8c y) h2 h3
  unfold Buf
  rw [u8c_app, List.length_append]
  exact this
/-- 'append(buf, s...)' -/
theorem wpList_append_str {ops : Array Oper} {rest : List Oper} {o : Oper} {a : Act} {Q : Exit → Act → World → Prop} {w : World} (hgd : o.guard = none) (sl x : Operand) (t u : TypeId)
    (ho : o.op = .call { callee := .builtin .append, args := #[sl, x], argTypes := #[t, u] })
    (B : Nat) (e : TypeId) (i : TypeInfo) (ht : P.underlying t = some (.slice e)) (hu : P.underlying u = some .string) (hi : P.info? e = some i) (hz : i.zero = some (.int .u8 0)) (hsize : i.size = 1) (hby : i.bytes = 1)
    (v : Value) (l : List UInt8) (hs : a.eval sl = v) (W0 : World) (hb : Buf B e v l W0 w) (s : ByteArray) (y : List UInt8) (hy : s.data.toList = y) (hx : a.eval x = .string s) (hlen : l.length + y.length ≤ 140737488355328)
    (h : ∀ v' w', Buf B e v' (l ++ y) W0 w' → wpList P ops Q rest (a.put o.dst v') w') : wpList P ops Q (o :: rest) a w := by
  subst hy
  refine Lib.wpList_append_text hgd sl x t u ho B e i ht hu hi hz hsize hby v l.length (u8c l) hs W0 hb s hx hlen ?_
  intro v' w' hb'
  refine h v' w' ?_
  unfold Buf
  rw [u8c_app, List.length_append]
  exact hb'
end
/-- a text out of its bytes -/
theorem Buf.text {B : Nat} {v : Value} {l : List UInt8} {W0 w : World} (h : Buf B 5 v l W0 w) : Sem.run Tryd.prog (convert 42 9 v) w = .ok (.string ⟨l.toArray⟩) w := by
  rcases h.1.2 with ⟨rfl, h0⟩ | ⟨g, cap, cur, fz, rfl, _, _, _, _, _, _, _⟩
  · have : l = [] := List.eq_nil_of_length_eq_zero h0
    subst this
    exact run_convert_bytes_nil w 42 5 Tryd.underlying42 Tryd.underlying5 0 0 9 Tryd.underlying9
  · refine run_convert_bytes_back w _ _ 5 ⟨g, 0, none⟩ cap l Tryd.underlying42 Tryd.underlying5 Tryd.underlying9 fun j hj => ?_
    exact h.1.cells rfl j _ (by unfold u8c; rw [List.getElem?_map, List.getElem?_eq_getElem hj]; rfl)
end Go.Proofs.YtpkapommekkbcaaDoor
