import Derived.Test.YtmafhaadcjgcbaaAFindR
import Derived.Test.YtmafhaadcjgcbaaAUsersR
import Derived.Test.YtmafhaadcjgcbaaASpoil
import Derived.Test.YtmafhaadcjgcbaaAChecksP
import Derived.Test.YtmafhaadcjgcbaaASameOwn
namespace Go.Proofs.Ytmafhaadcjgcbaa
open Go Go.RowKit

def zeroN : ANode := ⟨0, ⟨#[]⟩, 0, ⟨#[]⟩, [], [], []⟩
open Classical in
noncomputable def fnd (m : AModel) (id : Int) : ANode := if h : HasN m id then Classical.choose h.2 else zeroN
open Classical in
noncomputable def hasB (m : AModel) (id : Int) : Bool := decide (HasN m id)
open Classical in
theorem fnd_yes {m : AModel} {x : ANode} (h : HasN m x.id) (hx : x ∈ m.nodes) : fnd m x.id = x := by
  unfold fnd; rw [dif_pos h]
  have := Classical.choose_spec h.2
  exact node_inj h.1.1.2 this.1 hx this.2
open Classical in
theorem fnd_no {m : AModel} {id : Int} (h : ¬ HasN m id) : fnd m id = zeroN := dif_neg h
open Classical in
theorem hasB_yes {m : AModel} {id : Int} (h : HasN m id) : hasB m id = true := decide_eq_true h
open Classical in
theorem hasB_no {m : AModel} {id : Int} (h : ¬ HasN m id) : hasB m id = false := decide_eq_false h
/-- a node as a value -/
def nodeV (n : ANode) (P K R : Option Addr) (cp ck cr : Nat) : Value := .agg #[.int .i64 n.id, .string n.concept, .int .i64 n.parent, .string n.role, .slice P n.props.length cp, .slice K n.kids.length ck, .slice R n.refs.length cr]
structure NRows (w : World) (F : Nat → Prop) (n : ANode) (P K R : Option Addr) (cp ck cr : Nat) : Prop where
  p : RowOf 2 EProp w F P n.props
  k : RowOf 1 EInt w F K n.kids
  r : RowOf 2 ERef w F R n.refs
  lp : n.props.length ≤ 9223372036854775807
  lk : n.kids.length ≤ 9223372036854775807
  lr : n.refs.length ≤ 9223372036854775807
theorem NRows.keep {w w' : World} {F F' : Nat → Prop} {n : ANode} {P K R : Option Addr} {cp ck cr : Nat} (h : NRows w F n P K R cp ck cr) (hk : Keep F w w') (hF : ∀ b, F b → F' b) : NRows w' F' n P K R cp ck cr :=
  ⟨h.p.keep EProp.stays hk hF, h.k.keep EInt.stays hk hF, h.r.keep ERef.stays hk hF, h.lp, h.lk, h.lr⟩
theorem freeV_none (w : World) (n c : Nat) : FreeV w (.slice none n c) := fun _ _ _ e => by cases e
theorem foundAs_got {w' : World} {F : Nat → Prop} {m : AModel} {id : Int} {v : Value} (h : FoundAs w' F m id v) :
    ∃ P K R cp ck cr, v = .tuple #[.agg #[.int .i64 (fnd m id).id, .string (fnd m id).concept, .int .i64 (fnd m id).parent, .string (fnd m id).role, .slice P (fnd m id).props.length cp, .slice K (fnd m id).kids.length ck, .slice R (fnd m id).refs.length cr], .bool (hasB m id)] ∧ NRows w' F (fnd m id) P K R cp ck cr ∧
      FreeV w' (.slice P (fnd m id).props.length cp) ∧ FreeV w' (.slice K (fnd m id).kids.length ck) ∧ FreeV w' (.slice R (fnd m id).refs.length cr) := by
  rcases h with ⟨x, hx, hh, rfl, _, _, _, rfl, ⟨P, c1, rfl, p1, p2, p3⟩, ⟨K, c2, rfl, k1, k2, k3⟩, ⟨R, c3, rfl, r1, r2, r3⟩, f1, f2, f3⟩ | ⟨hn, rfl⟩
  · unfold maxLen at p2 k2 r2
    rw [fnd_yes hh hx, hasB_yes hh]
    exact ⟨P, K, R, c1, c2, c3, rfl, ⟨p3, k3, r3, by omega, by omega, by omega⟩, f1, f2, f3⟩
  · rw [fnd_no hn, hasB_no hn]
    exact ⟨none, none, none, 0, 0, 0, rfl, ⟨RowOf.nil _, RowOf.nil _, RowOf.nil _, by simp [zeroN], by simp [zeroN], by simp [zeroN]⟩, freeV_none _ _ _, freeV_none _ _ _, freeV_none _ _ _⟩
theorem foundIn_got {w' : World} {F : Nat → Prop} {m : AModel} {id : Int} {v : Value} (h : FoundIn w' F m id v) :
    ∃ P K R cp ck cr, v = .tuple #[.agg #[.int .i64 (fnd m id).id, .string (fnd m id).concept, .int .i64 (fnd m id).parent, .string (fnd m id).role, .slice P (fnd m id).props.length cp, .slice K (fnd m id).kids.length ck, .slice R (fnd m id).refs.length cr], .bool (hasB m id)] ∧ NRows w' F (fnd m id) P K R cp ck cr := by
  rcases h with ⟨x, hx, hh, rfl, _, _, _, rfl, ⟨P, c1, rfl, p1, p2, p3⟩, ⟨K, c2, rfl, k1, k2, k3⟩, ⟨R, c3, rfl, r1, r2, r3⟩⟩ | ⟨hn, rfl⟩
  · unfold maxLen at p2 k2 r2
    rw [fnd_yes hh hx, hasB_yes hh]
    exact ⟨P, K, R, c1, c2, c3, rfl, ⟨p3, k3, r3, by omega, by omega, by omega⟩⟩
  · rw [fnd_no hn, hasB_no hn]
    exact ⟨none, none, none, 0, 0, 0, rfl, ⟨RowOf.nil _, RowOf.nil _, RowOf.nil _, by simp [zeroN], by simp [zeroN], by simp [zeroN]⟩⟩

theorem WrR.of_row {α : Type} {size B T g : Nat} {f : α → List Value} (hf : ∀ x, (f x).length = size) {w : World} {F : Nat → Prop} {A : Option Addr} {l : List α} {n c : Nat} (h : RowOf size (EFlat f) w F A l) (hfr : FreeV w (.slice A n c)) (hF : ∀ b, F b → B ≤ b ∧ b < T ∧ b ≠ g) : WrR size B T g w A l.length := by
  intro i hi
  obtain ⟨b, off, rfl, hb⟩ := h.1 (by intro hn; subst hn; simp at hi)
  obtain ⟨cs, hl, hx, hc⟩ := h.2 i hi
  obtain ⟨h1, h2, h3⟩ := hF b hb
  refine ⟨b, off, rfl, h1, h2, h3, fun j hj => ⟨?_, hfr _ _ _ rfl _⟩⟩
  rw [hc b off rfl j hj]
  simp [hl, hj]
theorem WrR.of_own {B T g : Nat} {w : World} {base n c : Nat} {A : Option Addr} {l : List Int} (h : OwnI w base (.slice A n c) l) (hB : B ≤ base) (hT : w.heap.size ≤ T) (hg : w.heap.size ≤ g) : WrR 1 B T g w A l.length := by
  obtain ⟨A', c', e, _, h3, h4⟩ := h.isRow (F := fun b => base ≤ b ∧ b < w.heap.size) (fun b h1 h2 => ⟨h1, h2⟩)
  injection e with e1 _ _
  subst e1
  exact WrR.of_row (f := intCells) intCells_len h4 (FreeV.own h) (fun b hb => ⟨by omega, by omega, by omega⟩)
theorem FreeV.far {w w' : World} {v : Value} (h : FreeV w v) (hb : ∀ a n c, v = .slice (some a) n c → w'.heap[a.block]? = w.heap[a.block]?) : FreeV w' v := fun a n c e i => by
  rw [World.frozen?_of_block (w := w) (a := ⟨a.block, i, none⟩) (hb a n c e)]; exact h a n c e i
theorem OwnI.len {w : World} {base n c : Nat} {A : Option Addr} {l : List Int} (h : OwnI w base (.slice A n c) l) : l.length ≤ 9223372036854775807 := by
  obtain ⟨A', c', e, h2, h3, h4⟩ := h.isRow (F := fun b => b < w.heap.size) (fun b _ h => h)
  unfold maxLen at h3
  omega
theorem ints_same (A A' : Option Addr) (c c' : Nat) (l : List Int) (w : World) (F F' : Nat → Prop) (h : RowOf 1 EInt w F A l) (h' : RowOf 1 EInt w F' A' l) (hl : l.length ≤ 9223372036854775807) :
    Calls Try.prog 31 #[.slice A l.length c, .slice A' l.length c'] w fun e w' => e = .returned (.bool true) ∧ Below w.heap.size w w' :=
  (eq_is (eqB_yes (rfl : l = l)) (ints_any A A' c c' l l w F F' h h' hl)).mono fun _ _ ⟨he, n, hn⟩ => ⟨he, by subst hn; exact ⟨rfl, rfl, rfl, Nat.le_refl _, fun _ _ => rfl⟩⟩
def rnOf (n : ANode) (P K R : Option Addr) (cp ck cr : Nat) : RN := ⟨n.id, n.concept, n.parent, n.role, P, n.props.length, cp, K, n.kids.length, ck, R, n.refs.length, cr⟩
def rnKids (l : List Int) (K : Option Addr) (ck : Nat) : RN := ⟨0, ⟨#[]⟩, 0, ⟨#[]⟩, none, 0, 0, K, l.length, ck, none, 0, 0⟩
theorem WrR.widen {size B T g T' g' n : Nat} {w : World} {A : Option Addr} (h : WrR size B T g w A n) (hT : T ≤ T') (hg : T ≤ g') : WrR size B T' g' w A n := fun i hi => by
  obtain ⟨b, off, e, h1, h2, h3, h4⟩ := h i hi
  exact ⟨b, off, e, h1, by omega, by omega, h4⟩
theorem nodes_of {w : World} {g : Nat} {ns : List RN} (h : Blk w g 38 (ns.flatMap (fun x => x.cells.toList)).toArray) : NodesFrom w g ns 0 := by
  have hl : ∀ x : RN, x.cells.toList.length = 7 := fun _ => rfl
  refine ⟨_, h, by rw [List.size_toArray, flat_length hl], fun k hk _ j hj => ?_⟩
  rw [List.getElem?_toArray, flat_at hl ns k j hk hj, Array.getElem?_toList]
end Go.Proofs.Ytmafhaadcjgcbaa
