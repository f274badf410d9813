import Derived.Test.YtfnainlijkeekaaBase
namespace Go.Proofs.Ytfnainlijkeekaa
open Go Go.RowKit

structure Spot where
  node : Int
  kind : Int
  name : ByteArray
  begin_ : Int
  end_ : Int
structure Line where
  text : ByteArray
  spots : List Spot

def Spot.cells (s : Spot) : List Value := [.int .i64 s.node, .int .i64 s.kind, .string s.name, .int .i64 s.begin_, .int .i64 s.end_]
def Spot.arr (s : Spot) : Array Value := #[.int .i64 s.node, .int .i64 s.kind, .string s.name, .int .i64 s.begin_, .int .i64 s.end_]
def ESpot : World → (Nat → Prop) → Spot → List Value → Prop := EFlat Spot.cells
def ELine (w : World) (F : Nat → Prop) (x : Line) (cs : List Value) : Prop := ∃ v, cs = [.string x.text, v] ∧ IsRow 5 ESpot w F v x.spots
theorem Spot.cells_len : ∀ s : Spot, s.cells.length = 5 := fun _ => rfl
theorem ESpot.stays : Stays ESpot := EFlat.stays _
theorem ELine.stays : Stays ELine := fun _ _ _ _ _ _ hF hk ⟨v, e, h⟩ => ⟨v, e, h.keep ESpot.stays hk hF⟩

theorem spots_at {w : World} {F : Nat → Prop} {A : Option Addr} {l : List Spot} (h : RowOf 5 ESpot w F A l) {i : Nat} (hi : i < l.length) :
    ∃ b off, A = some ⟨b, off, none⟩ ∧ F b ∧ w.cell? ⟨b, off + i * 5, none⟩ = some (.int .i64 l[i].node) ∧ w.cell? ⟨b, off + i * 5 + 1, none⟩ = some (.int .i64 l[i].kind) ∧
      w.cell? ⟨b, off + i * 5 + 2, none⟩ = some (.string l[i].name) ∧ w.cell? ⟨b, off + i * 5 + 3, none⟩ = some (.int .i64 l[i].begin_) ∧ w.cell? ⟨b, off + i * 5 + 4, none⟩ = some (.int .i64 l[i].end_) := by
  obtain ⟨b, off, rfl, hb⟩ := h.1 (by intro hn; subst hn; simp at hi)
  obtain ⟨cs, _, hx, hc⟩ := h.2 i hi
  have hc := hc b off rfl
  unfold ESpot EFlat Spot.cells at hx
  subst hx
  exact ⟨b, off, rfl, hb, hc 0 (by omega), hc 1 (by omega), hc 2 (by omega), hc 3 (by omega), hc 4 (by omega)⟩

theorem lines_at {w : World} {F : Nat → Prop} {A : Option Addr} {l : List Line} (h : RowOf 2 ELine w F A l) {i : Nat} (hi : i < l.length) :
    ∃ b off S c, A = some ⟨b, off, none⟩ ∧ F b ∧ w.cell? ⟨b, off + i * 2, none⟩ = some (.string l[i].text) ∧ w.cell? ⟨b, off + i * 2 + 1, none⟩ = some (.slice S l[i].spots.length c) ∧ l[i].spots.length ≤ c ∧ c ≤ maxLen ∧ RowOf 5 ESpot w F S l[i].spots := by
  obtain ⟨b, off, rfl, hb⟩ := h.1 (by intro hn; subst hn; simp at hi)
  obtain ⟨cs, _, ⟨v, hx, S, c, rfl, hc1, hc2, hr⟩, hc⟩ := h.2 i hi
  have hc := hc b off rfl
  subst hx
  exact ⟨b, off, S, c, rfl, hb, hc 0 (by omega), hc 1 (by omega), hc1, hc2, hr⟩

/-! ### What the functions tell -/
/-- the first spot of a node -/
def placeSpots (node : Int) : List Spot → Option Int
  | [] => none
  | s :: r => if s.node = node then some s.begin_ else placeSpots node r
def placeFrom (node : Int) : Nat → List Line → Int × Int × Bool
  | _, [] => (0, 0, false)
  | i, x :: r => match placeSpots node x.spots with
    | some b => (i, b, true)
    | none => placeFrom node (i + 1) r

theorem Spot.blk {w : World} {g : Nat} {t : TypeId} {s : Spot} (h : Blk w g t s.arr) :
    w.cell? ⟨g, 0, none⟩ = some (.int .i64 s.node) ∧ w.cell? ⟨g, 1, none⟩ = some (.int .i64 s.kind) ∧ w.cell? ⟨g, 2, none⟩ = some (.string s.name) ∧ w.cell? ⟨g, 3, none⟩ = some (.int .i64 s.begin_) ∧ w.cell? ⟨g, 4, none⟩ = some (.int .i64 s.end_) :=
  ⟨h.cell 0, h.cell 1, h.cell 2, h.cell 3, h.cell 4⟩
def Spot.zero : Spot := ⟨0, 0, ByteArray.empty, 0, 0⟩
theorem Spot.zero_arr : Spot.zero.arr = #[.int .i64 0, .int .i64 0, .string { data := #[] }, .int .i64 0, .int .i64 0] := rfl
def strictIn (col : Int) (s : Spot) : Bool := decide (s.begin_ ≤ col) && decide (col < s.end_)
def endsIn (col : Int) (s : Spot) : Bool := decide (s.begin_ ≤ col) && decide (col = s.end_)
def findSpots (col : Int) (l : List Spot) : Option Spot := match l.find? (strictIn col) with | some s => some s | none => l.reverse.find? (endsIn col)
def findLine (line col : Int) (l : List Line) : Option Spot := if h : 0 ≤ line ∧ line < l.length then findSpots col (l[line.toNat]'(by omega)).spots else none
end Go.Proofs.Ytfnainlijkeekaa
