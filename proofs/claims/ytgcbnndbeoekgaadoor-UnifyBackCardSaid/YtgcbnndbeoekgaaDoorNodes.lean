import Derived.Test.YtgcbnndbeoekgaaDoorBase
import Derived.Laws.OwnMore
set_option linter.unusedSimpArgs false
set_option linter.unusedVariables false
namespace Go.Proofs.YtgcbnndbeoekgaaDoor
open Go Go.RowKit

/-- a node of a term -/
structure TN where
  var : Int
  name : ByteArray
  args : List Int

def intCell (n : Int) : List Value := [.int .i64 n]
theorem intCell_len : ∀ n : Int, (intCell n).length = 1 := fun _ => rfl
def EInt : World → (Nat → Prop) → Int → List Value → Prop := EFlat intCell
theorem EInt.stays : Stays EInt := EFlat.stays _
def ETN (w : World) (F : Nat → Prop) (t : TN) (cs : List Value) : Prop := ∃ v, cs = [.int .i64 t.var, .string t.name, v] ∧ IsRow 1 EInt w F v t.args
theorem ETN.stays : Stays ETN := fun _ _ _ _ _ _ hF hk ⟨v, e, h⟩ => ⟨v, e, h.keep EInt.stays hk hF⟩

theorem ints_at {w : World} {F : Nat → Prop} {A : Option Addr} {l : List Int} (h : RowOf 1 EInt w F A l) {i : Nat} (hi : i < l.length) :
    ∃ b off, A = some ⟨b, off, none⟩ ∧ F b ∧ w.cell? ⟨b, off + i, none⟩ = some (.int .i64 l[i]) := by
  obtain ⟨b, off, rfl, hb⟩ := h.1 (by intro hn; subst hn; simp at hi)
  obtain ⟨cs, _, hx, hc⟩ := h.2 i hi
  have hc := hc b off rfl
  unfold EInt EFlat intCell at hx
  subst hx
  exact ⟨b, off, rfl, hb, by simpa using hc 0 (by omega)⟩
theorem nodes_at {w : World} {F : Nat → Prop} {A : Option Addr} {l : List TN} (h : RowOf 3 ETN w F A l) {i : Nat} (hi : i < l.length) :
    ∃ b off S c, A = some ⟨b, off, none⟩ ∧ F b ∧ w.cell? ⟨b, off + i * 3, none⟩ = some (.int .i64 l[i].var) ∧ w.cell? ⟨b, off + i * 3 + 1, none⟩ = some (.string l[i].name) ∧
      w.cell? ⟨b, off + i * 3 + 2, none⟩ = some (.slice S l[i].args.length c) ∧ l[i].args.length ≤ c ∧ c ≤ maxLen ∧ RowOf 1 EInt w F S l[i].args := by
  obtain ⟨b, off, rfl, hb⟩ := h.1 (by intro hn; subst hn; simp at hi)
  obtain ⟨cs, _, ⟨v, hx, S, c, rfl, hc1, hc2, hr⟩, hc⟩ := h.2 i hi
  have hc := hc b off rfl
  subst hx
  exact ⟨b, off, S, c, rfl, hb, hc 0 (by omega), hc 1 (by omega), hc 2 (by omega), hc1, hc2, hr⟩

/-! ### Nodes that the call builds: a row of its own, and a row of its own for each node's arguments -/
def nodeCells (t : TN) (v : Value) : List Value := [.int .i64 t.var, .string t.name, v]
def rowCells (ts : List TN) (avs : List Value) : List Value := (List.zipWith nodeCells ts avs).flatten

/-- eN, eI: the element types of the two kinds of rows -/
def OwnNodes (eN eI : TypeId) (w : World) (B : Nat) (v : Value) (ts : List TN) : Prop :=
  ∃ avs : List Value, avs.length = ts.length ∧ w.ownsRow B eN 3 v ts.length (rowCells ts avs) ∧
    (∀ i (h : i < ts.length) (h' : i < avs.length), w.ownsRow B eI 1 avs[i] ts[i].args.length (ts[i].args.map (.int .i64))) ∧
    (∀ i j (h : i < avs.length) (h' : j < avs.length), i ≠ j → ∀ b, avs[i].ownBlock = some b → avs[j].ownBlock ≠ some b)

theorem rowCells_get {ts : List TN} {avs : List Value} {i k : Nat} (hi : i < ts.length) (hi' : i < avs.length) (hk : k < 3) : (rowCells ts avs)[i * 3 + k]? = (nodeCells ts[i] avs[i])[k]? := by
  unfold rowCells
  have hz : i < (List.zipWith nodeCells ts avs).length := by simp; omega
  rw [flatten_take (size := 3) (fun cs hcs => by obtain ⟨j, hj, rfl⟩ := List.getElem_of_mem hcs; simp [nodeCells]) hz hk]
  simp
theorem rowCells_snoc (ts : List TN) (avs : List Value) (t : TN) (a : Value) (h : avs.length = ts.length) : rowCells (ts ++ [t]) (avs ++ [a]) = rowCells ts avs ++ nodeCells t a := by
  unfold rowCells; rw [List.zipWith_append h.symm]; simp
theorem rowCells_set {ts : List TN} {avs : List Value} {i : Nat} {t : TN} {a : Value} (h : avs.length = ts.length) (hi : i < ts.length) {k : Nat} (hk : k < 3) {u : Value}
    (hu : (nodeCells ts[i] (avs[i]'(by omega))).set k u = nodeCells t a) : (rowCells ts avs).set (i * 3 + k) u = rowCells (ts.set i t) (avs.set i a) := by
  induction ts generalizing avs i with
  | nil => simp at hi
  | cons x r ih =>
    cases avs with
    | nil => simp at h
    | cons y q =>
      cases i with
      | zero =>
        simp only [List.getElem_cons_zero] at hu
        unfold rowCells
        simp only [List.zipWith_cons_cons, List.flatten_cons, List.set_cons_zero, Nat.zero_mul, Nat.zero_add]
        rw [List.set_append_left _ _ (by simpa [nodeCells] using hk), hu]
      | succ i =>
        have ih := ih (avs := q) (i := i) (by simpa using h) (by simpa using hi) (by simpa using hu)
        unfold rowCells at ih ⊢
        simp only [List.zipWith_cons_cons, List.flatten_cons, List.set_cons_succ]
        rw [List.set_append_right _ _ (by simp [nodeCells]; omega), show (i + 1) * 3 + k - (nodeCells x y).length = i * 3 + k by simp [nodeCells]; omega, ih]

section
variable {eN eI : TypeId} {w w' : World} {B : Nat} {v : Value} {ts : List TN}

theorem OwnNodes.nil (w : World) (B : Nat) : OwnNodes eN eI w B (.slice none 0 0) [] :=
  ⟨[], rfl, World.ownsRow_nil _ _ _ _, fun i h => absurd h (by simp), fun i j h => absurd h (by simp)⟩
/-- an owned row of one element type does not lie in a block of another -/
theorem own_type_ne {base base' : Nat} {e e' : TypeId} {size size' n n' : Nat} {v v' : Value} {xs xs' : List Value} (h : w.ownsRow base e size v n xs) (h' : w.ownsRow base' e' size' v' n' xs') (hne : e ≠ e') : ∀ b, v.ownBlock = some b → v'.ownBlock ≠ some b := by
  intro b hb hb'
  rcases h.2 with ⟨rfl, _⟩ | ⟨g, cap, cur, rfl, _, hh, _⟩
  · simp [Value.ownBlock] at hb
  · rcases h'.2 with ⟨rfl, _⟩ | ⟨g', cap', cur', rfl, _, hh', _⟩
    · simp [Value.ownBlock] at hb'
    · simp [Value.ownBlock] at hb hb'
      subst hb
      subst hb'
      rw [hh] at hh'
      injection hh' with hh'
      injection hh' with _ he
      exact hne he
theorem OwnNodes.kept (h : OwnNodes eN eI w B v ts) {row : Option Nat} (hg : w.grownBy w' row) (hr : ∀ b, row = some b → ∃ cs t, w.heap[b]? = some (.cells cs t (0, 0)) ∧ t ≠ eN ∧ t ≠ eI) : OwnNodes eN eI w' B v ts := by
  have key : ∀ {e size n} {v : Value} {xs : List Value}, (e = eN ∨ e = eI) → w.ownsRow B e size v n xs → w'.ownsRow B e size v n xs := by
    intro e size n v xs he ho
    refine ho.kept hg ?_
    rcases ho.2 with ⟨rfl, _⟩ | ⟨g, cap, cur, rfl, _, hh, _⟩
    · exact .inl rfl
    · refine .inr fun hb => ?_
      obtain ⟨cs, t, h1, h2, h3⟩ := hr g (by rw [← hb]; rfl)
      rw [hh] at h1
      injection h1 with h1
      injection h1 with _ h1
      rcases he with rfl | rfl
      · exact h2 h1.symm
      · exact h3 h1.symm
  obtain ⟨avs, h1, h2, h3, h4⟩ := h
  exact ⟨avs, h1, key (.inl rfl) h2, fun i hi hi' => key (.inr rfl) (h3 i hi hi'), h4⟩
theorem OwnNodes.alloc (h : OwnNodes eN eI w B v ts) (o : Obj) : OwnNodes eN eI (w.alloc o) B v ts := h.kept (World.grownBy_alloc w o none) (fun b hb => by cases hb)
theorem OwnNodes.drew (h : OwnNodes eN eI w B v ts) : OwnNodes eN eI w.drew B v ts := h
theorem OwnNodes.drewN (h : OwnNodes eN eI w B v ts) (n : Nat) : OwnNodes eN eI (w.drewN n) B v ts := h
theorem OwnNodes.below (h : OwnNodes eN eI w B v ts) (hb : Below w.heap.size w w') : OwnNodes eN eI w' B v ts :=
  h.kept (row := none) ⟨hb.os, hb.tape, hb.output, hb.size, fun k hk _ => hb.block k hk⟩ (fun b hb => by cases hb)
/-- a store into a block of another element type -/
theorem OwnNodes.other (h : OwnNodes eN eI w B v ts) {g i : Nat} {t : TypeId} {cs : Array Value} (hb : Blk w g t cs) (h1 : t ≠ eN) (h2 : t ≠ eI) (u : Value) : OwnNodes eN eI (w.setCell ⟨g, i, none⟩ u) B v ts :=
  h.kept (row := some g) ⟨rfl, rfl, rfl, by simp, fun k hk hne => Below.heap_setCell _ _ _ _ (fun e => hne (by rw [e]))⟩ (fun b e => by cases e; exact ⟨cs, t, hb, h1, h2⟩)

theorem OwnNodes.ne_blk (h : OwnNodes eN eI w B v ts) {g : Nat} {t : TypeId} {cs : Array Value} (hb : Blk w g t cs) (hne : t ≠ eN) : v.ownBlock ≠ some g := by
  obtain ⟨avs, h1, h2, _⟩ := h
  rcases h2.2 with ⟨rfl, _⟩ | ⟨g', cap, cur, rfl, _, hh, _⟩
  · simp [Value.ownBlock]
  · intro he
    simp [Value.ownBlock] at he
    subst he
    unfold Blk at hb
    rw [hh] at hb
    injection hb with hb
    injection hb with _ hb
    exact hne hb.symm
theorem OwnNodes.ownLt (h : OwnNodes eN eI w B v ts) : ∀ b, v.ownBlock = some b → B ≤ b ∧ b < w.heap.size := by
  obtain ⟨avs, h1, h2, _⟩ := h
  exact h2.lt

/-- the nodes' row in memory, at a node -/
theorem OwnNodes.at_ (h : OwnNodes eN eI w B v ts) {i : Nat} (hi : i < ts.length) : ∃ g cap av, v = .slice (some ⟨g, 0, none⟩) ts.length cap ∧ B ≤ g ∧ g < w.heap.size ∧
    w.cell? ⟨g, i * 3, none⟩ = some (.int .i64 ts[i].var) ∧ w.cell? ⟨g, i * 3 + 1, none⟩ = some (.string ts[i].name) ∧ w.cell? ⟨g, i * 3 + 2, none⟩ = some av ∧
    w.frozen? ⟨g, i * 3, none⟩ = false ∧ w.frozen? ⟨g, i * 3 + 1, none⟩ = false ∧ w.frozen? ⟨g, i * 3 + 2, none⟩ = false ∧
    w.ownsRow B eI 1 av ts[i].args.length (ts[i].args.map (.int .i64)) ∧ (∃ A c, av = .slice A ts[i].args.length c) ∧ ts.length ≤ cap ∧ cap ≤ maxLen := by
  obtain ⟨avs, h1, h2, h3, h4⟩ := h
  have hlt := h2.lt
  have hcells := fun g => h2.cells (g := g)
  rcases h2.2 with ⟨rfl, hn⟩ | ⟨g, cap, cur, rfl, hb, hh, hc1, hc2, _⟩
  · omega
  · have hi' : i < avs.length := by omega
    have hget : ∀ k, k < 3 → ∀ u, (nodeCells ts[i] avs[i])[k]? = some u → w.cell? ⟨g, i * 3 + k, none⟩ = some u := by
      intro k hk u hu
      have := hcells g rfl (i * 3 + k) u (by rw [rowCells_get hi hi' hk]; exact hu)
      rw [add_some, Nat.zero_add] at this
      exact this
    have hfz : ∀ o, w.frozen? ⟨g, o, none⟩ = false := fun o => by simp [World.frozen?, hh]
    obtain ⟨A, c, he⟩ := own_shape (h3 i hi hi')
    exact ⟨g, cap, avs[i], rfl, hb, (hlt g rfl).2, hget 0 (by omega) _ rfl, hget 1 (by omega) _ rfl, hget 2 (by omega) _ rfl, hfz _, hfz _, hfz _, h3 i hi hi', ⟨A, c, he⟩, hc1, hc2⟩
theorem OwnNodes.shape (h : OwnNodes eN eI w B v ts) : ∃ A c, v = .slice A ts.length c := by
  obtain ⟨avs, h1, h2, _⟩ := h
  exact own_shape h2
theorem OwnNodes.len (h : OwnNodes eN eI w B v ts) : ts.length ≤ maxLen := by
  obtain ⟨avs, h1, h2, _⟩ := h
  rcases h2.2 with ⟨_, hn⟩ | ⟨g, cap, cur, _, _, _, hc1, hc2, _⟩
  · omega
  · omega
end

section
variable {eN eI : TypeId} {w w' : World} {B : Nat} {v : Value} {ts : List TN}
theorem OwnNodes.push (hne : eN ≠ eI) {avs : List Value} (h1 : avs.length = ts.length) (h2 : w.ownsRow B eN 3 v ts.length (rowCells ts avs)) (h3 : ∀ i (h : i < ts.length) (h' : i < avs.length), w.ownsRow B eI 1 avs[i] ts[i].args.length (ts[i].args.map (.int .i64)))
    (h4 : ∀ i j (h : i < avs.length) (h' : j < avs.length), i ≠ j → ∀ b, avs[i].ownBlock = some b → avs[j].ownBlock ≠ some b) {y : TN} (hy : y.args = []) {v' : Value}
    (ho : w'.ownsRow B eN 3 v' (ts.length + 1) (rowCells ts avs ++ nodeCells y (.slice none 0 0))) (hg : w.grownBy w' v.ownBlock) : OwnNodes eN eI w' B v' (ts ++ [y]) := by
  have key : ∀ {n} {a : Value} {xs : List Value}, w.ownsRow B eI 1 a n xs → w'.ownsRow B eI 1 a n xs := by
    intro n a xs ha
    refine ha.kept hg ?_
    cases hb : a.ownBlock with
    | none => exact .inl rfl
    | some b => exact .inr fun e => own_type_ne ha h2 (fun e => hne e.symm) b hb e.symm
  refine ⟨avs ++ [.slice none 0 0], by simp [h1], by rw [rowCells_snoc _ _ _ _ h1]; simpa using ho, fun i hi hi' => ?_, fun i j hi hj hij b hb => ?_⟩
  · by_cases hlt : i < ts.length
    · rw [List.getElem_append_left (by omega), List.getElem_append_left hlt]
      exact key (h3 i hlt (by omega))
    · have e : i = ts.length := by simp at hi; omega
      subst e
      rw [List.getElem_append_right (by omega), List.getElem_append_right (by omega)]
      simp [h1, hy]
      exact World.ownsRow_nil _ _ _ _
  · by_cases hi2 : i < avs.length
    · rw [List.getElem_append_left hi2] at hb
      by_cases hj2 : j < avs.length
      · rw [List.getElem_append_left hj2]; exact h4 i j hi2 hj2 hij b hb
      · have e : j = avs.length := by simp at hj; omega
        subst e
        rw [List.getElem_append_right (by omega)]; simp [Value.ownBlock]
    · have e : i = avs.length := by simp at hi; omega
      subst e
      rw [List.getElem_append_right (by omega)] at hb
      simp [Value.ownBlock] at hb

/-- a store into one of a node's first two cells -/
theorem OwnNodes.store (hne : eN ≠ eI) {g cap : Nat} {n : Nat} (h : OwnNodes eN eI w B (.slice (some ⟨g, 0, none⟩) n cap) ts) {i : Nat} (hi : i < ts.length) {k : Nat} (hk : k < 3) {u : Value} {t : TN} (ha : t.args = ts[i].args)
    (hu : ∀ a, (nodeCells ts[i] a).set k u = nodeCells t a) : OwnNodes eN eI (w.setCell ⟨g, i * 3 + k, none⟩ u) B (.slice (some ⟨g, 0, none⟩) n cap) (ts.set i t) := by
  obtain ⟨avs, h1, h2, h3, h4⟩ := h
  have hn : ts.length = n := by
    obtain ⟨A, c, e⟩ := own_shape h2
    injection e with _ e _
    exact e.symm
  subst hn
  obtain ⟨s1, s2⟩ := h2.stored (i * 3 + k) u
  have hset : avs.set i (avs[i]'(by omega)) = avs := by simp
  refine ⟨avs, by simp [h1], ?_, fun j hj hj' => ?_, h4⟩
  · rw [rowCells_set h1 hi hk (hu _), hset] at s1
    simpa using s1
  · have hj2 : j < ts.length := by simpa using hj
    have := (h3 j hj2 hj').kept s2 (by
      cases hb : avs[j].ownBlock with
      | none => exact .inl rfl
      | some b => exact .inr fun e => own_type_ne (h3 j hj2 hj') h2 (fun e => hne e.symm) b hb (by rw [e]; rfl))
    by_cases hij : i = j
    · subst hij; simp [ha]; simpa using this
    · rw [List.getElem_set_ne hij]; exact this

/-- a node's arguments have become one more -/
theorem OwnNodes.moreArg (hne : eN ≠ eI) {g cap : Nat} {n : Nat} (h : OwnNodes eN eI w B (.slice (some ⟨g, 0, none⟩) n cap) ts) {i : Nat} (hi : i < ts.length) {av av' : Value} (hav : w.cell? ⟨g, i * 3 + 2, none⟩ = some av) {x : Int}
    (ho : w'.ownsRow B eI 1 av' (ts[i].args.length + 1) (ts[i].args.map (.int .i64) ++ [.int .i64 x])) (hg : w.grownBy w' av.ownBlock) (hat : av'.ownBlock = av.ownBlock ∨ av'.ownBlock = some w.heap.size) :
    OwnNodes eN eI (w'.setCell ⟨g, i * 3 + 2, none⟩ av') B (.slice (some ⟨g, 0, none⟩) n cap) (ts.set i { ts[i] with args := ts[i].args ++ [x] }) := by
  obtain ⟨avs, h1, h2, h3, h4⟩ := h
  have hn : ts.length = n := by
    obtain ⟨A, c, e⟩ := own_shape h2
    injection e with _ e _
    exact e.symm
  subst hn
  have hi' : i < avs.length := by omega
  have eav : av = avs[i] := by
    have h5 := h2.cellAt (i * 3 + 2) (by omega)
    rw [rowCells_get hi hi' (by omega), hav] at h5
    exact Option.some.inj h5
  subst eav
  -- the nodes' row behind the append
  have h2' : w'.ownsRow B eN 3 (.slice (some ⟨g, 0, none⟩) ts.length cap) ts.length (rowCells ts avs) := h2.kept hg (by
    cases hb : avs[i].ownBlock with
    | none => exact .inr (by simp [Value.ownBlock])
    | some b => exact .inr fun e => own_type_ne (h3 i hi hi') h2 (fun e => hne e.symm) b hb (by rw [e]))
  obtain ⟨s1, s2⟩ := h2'.stored (i * 3 + 2) av'
  have hold : ∀ j (hj : j < avs.length), i ≠ j → ∀ b, avs[j].ownBlock = some b → b < w.heap.size := fun j hj _ b hb => ((h3 j (by omega) hj).lt b hb).2
  refine ⟨avs.set i av', by simp [h1], ?_, fun j hj hj' => ?_, fun j k hj hk hjk b hb => ?_⟩
  · rw [rowCells_set (t := { ts[i] with args := ts[i].args ++ [x] }) (a := av') h1 hi (by omega) (by simp [nodeCells])] at s1
    simpa using s1
  · have hj2 : j < ts.length := by simpa using hj
    have hj3 : j < avs.length := by simpa using hj'
    by_cases hij : i = j
    · subst hij
      simp only [List.getElem_set_self, List.length_append, List.length_cons, List.length_nil, List.map_append, List.map_cons, List.map_nil]
      exact ho.kept s2 (by
        cases hb : av'.ownBlock with
        | none => exact .inl rfl
        | some b => exact .inr fun e => own_type_ne ho h2' (fun e => hne e.symm) b hb (by rw [e]; rfl))
    · rw [List.getElem_set_ne hij, List.getElem_set_ne hij]
      have a1 := (h3 j hj2 hj3).kept hg (by
        cases hb : avs[j].ownBlock with
        | none => exact .inl rfl
        | some b => exact .inr fun e => h4 j i hj3 hi' (fun e => hij e.symm) b hb e.symm)
      exact a1.kept s2 (by
        cases hb : avs[j].ownBlock with
        | none => exact .inl rfl
        | some b => exact .inr fun e => own_type_ne a1 h2' (fun e => hne e.symm) b hb (by rw [e]; rfl))
  · have hj3 : j < avs.length := by simpa using hj
    have hk3 : k < avs.length := by simpa using hk
    have new_ne : ∀ m (hm : m < avs.length), i ≠ m → ∀ b, av'.ownBlock = some b → avs[m].ownBlock ≠ some b := by
      intro m hm him b hb hmb
      rcases hat with e | e
      · rw [e] at hb; exact h4 i m hi' hm him b hb hmb
      · rw [e] at hb; have := hold m hm him b hmb; cases hb; omega
    by_cases hij : i = j
    · subst hij
      rw [List.getElem_set_self] at hb
      rw [List.getElem_set_ne hjk]
      exact new_ne k hk3 hjk b hb
    · rw [List.getElem_set_ne hij] at hb
      by_cases hik : i = k
      · subst hik
        rw [List.getElem_set_self]
        intro e
        exact new_ne j hj3 (fun e => hjk e.symm) b e hb
      · rw [List.getElem_set_ne hik]
        exact h4 j k hj3 hk3 hjk b hb

/-- what the call owns reads as the nodes -/
theorem OwnNodes.isRow (h : OwnNodes eN eI w B v ts) {F : Nat → Prop} (hF : ∀ b, B ≤ b → b < w.heap.size → F b) : IsRow 3 ETN w F v ts := by
  have hs := h.shape
  obtain ⟨A, c, rfl⟩ := hs
  have hlen := h.len
  obtain ⟨avs, h1, h2, h3, h4⟩ := h
  have hc : ts.length ≤ c ∧ c ≤ maxLen := by
    rcases h2.2 with ⟨e, hn⟩ | ⟨g, cap, cur, e, _, _, hc1, hc2, _⟩
    · injection e with _ _ e; omega
    · injection e with _ _ e; omega
  refine ⟨A, c, rfl, hc.1, hc.2, ?_, ?_⟩
  · intro hn
    rcases h2.2 with ⟨e, hn'⟩ | ⟨g, cap, cur, e, _⟩
    · exact absurd (List.eq_nil_of_length_eq_zero hn') hn
    · injection e with e _ _
      subst e
      exact ⟨g, 0, rfl, hF g (h2.lt g rfl).1 (h2.lt g rfl).2⟩
  · intro i hi
    have hi' : i < avs.length := by omega
    refine ⟨nodeCells ts[i] avs[i], rfl, ⟨avs[i], rfl, ?_⟩, ?_⟩
    · refine IsRow.of_own (e := eI) (base := B) intCell_len (f := intCell) ?_ (fun b hb => hF b ((h3 i hi hi').lt b hb).1 ((h3 i hi hi').lt b hb).2)
      have e : ts[i].args.flatMap intCell = ts[i].args.map (.int .i64) := by
        induction ts[i].args with
        | nil => rfl
        | cons x r ih => rw [List.flatMap_cons, ih]; rfl
      rw [e]; exact h3 i hi hi'
    · intro b off hA j hj
      subst hA
      have hg : (⟨b, off, none⟩ : Addr) = ⟨b, 0, none⟩ := by
        rcases h2.2 with ⟨e, hn'⟩ | ⟨g, cap, cur, e, _⟩
        · injection e with e; cases e
        · injection e with e; cases e; rfl
      injection hg with _ hg
      subst hg
      rw [Nat.zero_add, ← rowCells_get hi hi' hj]
      exact h2.cellAt (i * 3 + j) (by omega)
end

theorem wpList_pushNode {P : Program} (w : World) {eN eI : TypeId} (hne : eN ≠ eI) {ops : Array Oper} {rest : List Oper} {o : Oper} {a : Act} {Q : Exit → Act → World → Prop} (hgd : o.guard = none) (s x : Operand) (t : TypeId)
    (ho : o.op = .call { callee := .builtin .append, args := #[s, x], argTypes := #[t, t] })
    (base : Nat) {z : Value} {bytes : Nat} (ht : P.underlying t = some (.slice eN)) (hinfo : (P.info? eN).map (fun i => (i.zero, i.size, i.bytes)) = some (some z, 3, bytes)) (hzs : z.cells.size = 3)
    (v : Value) (ts : List TN) (hs : a.eval s = v) (hown : OwnNodes eN eI w base v ts)
    (y : TN) (hy : y.args = []) (ad : Addr) (c : Nat) (hx : a.eval x = .slice (some ad) 1 c) (hcs : ∀ j u, (nodeCells y (.slice none 0 0))[j]? = some u → w.cell? (ad.add j) = some u)
    (h63 : ts.length + 1 ≤ maxLen) (hbytes : (ts.length + 1) * bytes ≤ 140737488355328) (hbase : base ≤ w.heap.size)
    (h : ∀ A' c' w', OwnNodes eN eI w' base (.slice A' (ts.length + 1) c') (ts ++ [y]) → w.grownBy w' v.ownBlock → wpList P ops Q rest (a.put o.dst (.slice A' (ts.length + 1) c')) w') : wpList P ops Q (o :: rest) a w := by
  refine wpList_plain hgd fun K hK => ?_
  obtain ⟨avs, h1, h2, h3, h4⟩ := hown
  exact wp_append_from w s x t ho base eN ht hinfo hzs (by omega) v ts.length (rowCells ts avs) hs h2 (some ad) 1 c (nodeCells y (.slice none 0 0)) hx rfl (by simp) (fun ad' e => by cases e; exact hcs) (by intro u hu; simp [nodeCells] at hu; rcases hu with rfl | rfl | rfl <;> rfl) h63 hbytes hbase
    fun A' c' w' g2 g3 _ => hK _ _ (h A' c' w' (OwnNodes.push hne h1 h2 h3 h4 hy g2 g3) g3)
end Go.Proofs.YtgcbnndbeoekgaaDoor
