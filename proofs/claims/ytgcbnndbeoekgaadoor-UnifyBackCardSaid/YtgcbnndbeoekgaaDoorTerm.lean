import Derived.Test.YtgcbnndbeoekgaaDoorTermC
set_option linter.unusedSimpArgs false
set_option linter.unusedVariables false
namespace Go.Proofs.YtgcbnndbeoekgaaDoor
open Go Go.RowKit

/-- (*unify.reader).term: a term is read, or refused -/
theorem term_any (B : Nat) (s : ByteArray) (hs : s.size ≤ 9223372036854775807) : ∀ (n i : Nat) (ts : List TN) (w : World), s.size - i ≤ n → ts.length ≤ 256 → Rd w B s i ts →
    Calls Tryd.prog 31 #[.pointer (some ⟨B, 0, none⟩)] w (TermPost B s i ts w) := by
  intro n
  induction n with
  | zero =>
    intro i ts w hn _ h
    exact term_bad B s i ts w hs h (.inl (byteAt_ge (by omega)))
  | succ n ih =>
    intro i ts w hn hlen h
    have hB : B < w.heap.size := by
      obtain ⟨_, v, hb, _⟩ := h
      exact hb.lt
    by_cases hlt : i < s.size
    · cases h63 : ((s[i].toNat : Int) == 63)
      · cases hl : letterB s[i]
        · exact term_bad B s i ts w hs h (.inr ⟨hlt, h63, hl⟩)
        · by_cases h256 : ts.length = 256
          · exact term_long B s i ts w hs h hlt (.inr ⟨h63, hl⟩) h256
          · exact term_name B s i ts w hs h hlt h63 hl (by omega) hB fun j ts' w' hij hl' h' => ih j ts' w' (by omega) hl' h'
      · by_cases h256 : ts.length = 256
        · exact term_long B s i ts w hs h hlt (.inl h63) h256
        · exact term_hole B s i ts w hs h hlt h63 (by omega) hB
    · exact term_bad B s i ts w hs h (.inl (byteAt_ge hlt))

/-! ### unify.Parse -/
/-- what a text is: a term's nodes, or where it is refused, and why -/
def Says (s : ByteArray) (i err : Int) (l : List TN) : Prop :=
  (i = 0 ∧ err = 0 ∧ Reach s (.due 0 [] []) (.done l)) ∨ (err ≠ 0 ∧ l = [] ∧ ∃ k : Nat, i = k ∧ Reach s (.due 0 [] []) (.fail k err))
theorem Says.same {s : ByteArray} {i err i' err' : Int} {l l' : List TN} (h : Says s i err l) (h' : Says s i' err' l') : i = i' ∧ err = err' ∧ l = l' := by
  rcases h with ⟨rfl, rfl, h⟩ | ⟨h1, rfl, k, rfl, h⟩ <;> rcases h' with ⟨rfl, rfl, h'⟩ | ⟨h1', rfl, k', rfl, h'⟩
  · have := Reach.same h h' trivial trivial; cases this; exact ⟨rfl, rfl, rfl⟩
  · have := Reach.same h h' trivial trivial; cases this
  · have := Reach.same h h' trivial trivial; cases this
  · have := Reach.same h h' trivial trivial; cases this; exact ⟨rfl, rfl, rfl⟩
theorem says_done {s : ByteArray} {l : List TN} (h : Sim s 0 [] 0 s.size l) : Says s 0 0 l := by
  rcases h with ⟨_, _, _, _, _, h⟩ | ⟨h, _⟩
  · exact .inl ⟨rfl, rfl, (h []).next (step_done rfl)⟩
  · exact absurd rfl h
theorem says_rest {s : ByteArray} {j : Nat} {l : List TN} (h : Sim s 0 [] 0 j l) (hj : j ≠ s.size) : Says s j 2 [] := by
  rcases h with ⟨_, _, _, _, _, h⟩ | ⟨h, _⟩
  · exact .inr ⟨by decide, rfl, j, rfl, (h []).next (step_rest hj)⟩
  · exact absurd rfl h
theorem says_err {s : ByteArray} {j : Nat} {err : Int} {l : List TN} (h : Sim s 0 [] err j l) (he : err ≠ 0) : Says s j err [] := by
  rcases h with ⟨h, _⟩ | ⟨_, _, h⟩
  · exact absurd h he
  · exact .inr ⟨he, rfl, j, rfl, h []⟩
theorem keep_far {F : Nat → Prop} {w : World} {p : Addr} (hF : ∀ b, F b → b ≠ p.block) (u : Value) : Keep F w (w.setCell p u) :=
  fun q hq => World.cell?_of_block (Below.heap_setCell w p u q.block (hF _ hq))
/-- a reading is answered -/
def ParsePost (s : ByteArray) (w : World) (e : Ending) (w' : World) : Prop :=
  ∃ (v : Value) (i err : Int) (l : List TN), e = .returned (.tuple #[.agg #[v], .int .i64 i, .int .i64 err]) ∧ Says s i err l ∧ Below w.heap.size w w' ∧ IsRow 3 ETN w' (fun b => b < w'.heap.size) v l

set_option maxRecDepth 100000 in
set_option maxHeartbeats 1000000 in
theorem parse_any (s : ByteArray) (hs : s.size ≤ 9223372036854775807) (w : World) : Calls Tryd.prog 14 #[.string s] w (ParsePost s w) := by
  go_enter Tryd.func14, Tryd.ntmps14
  go_wp2_with fail
  have hb0 : Blk ((w.alloc (.cells #[.slice none 0 0] 24)).alloc (.cells #[.string s, .int .i64 0, .slice none 0 0] 74)) (w.heap.size + 1) 74 #[.string s, .int .i64 0, .slice none 0 0] := Blk.new' (by simp)
  refine (term_any (w.heap.size + 1) s hs s.size 0 [] _ (by omega) (by simp) ⟨Nat.zero_le _, _, hb0, OwnNodes.nil _ _⟩).mono ?_
  rintro e w1 ⟨err, j, l, rfl, ⟨hj, v, hb, ho⟩, hbel, hS⟩
  obtain ⟨A, c, rfl⟩ := ho.shape
  have hr : Blk w1 w.heap.size 24 #[.slice none 0 0] := ((Blk.new w _ _).alloc _).below hbel (by omega)
  have hbel2 : Below w.heap.size w w1 := (((Below.refl _ _).alloc (Nat.le_refl _) _).alloc (by simp) _).trans (hbel.mono (by omega))
  have c1 := hb.cell 1; have c2 := hb.cell 2; have r0 := hr.cell 0; have rf := hr.frozen 0
  simp at c1 c2 r0
  have hlt1 := hb.lt
  have hrow := Lib.hid (ho.isRow (F := fun b => w.heap.size + 1 ≤ b ∧ b < w1.heap.size) (fun b h1 h2 => ⟨h1, h2⟩))
  have HB := Lib.hid hbel2; have HS := Lib.hid hS; have HR := Lib.hid hr; have HO := Lib.hid ho
  clear hbel hbel2 hS hb0 hb hr ho
  by_cases herr : err = 0
  · subst herr
    by_cases hjs : j = s.size
    · subst hjs
      have hfin := Lib.hid (says_done HS.out)
      have hj1 : decide ((s.size : Int) < s.size) = false := decide_eq_false (by omega)
      go_wp2
      exact bodyPost_ret (v := .tuple #[.agg #[.slice A l.length c], .int .i64 0, .int .i64 0]) (by simp [results, Tryd.results14, go_sem, r0]) rfl ⟨_, _, _, _, rfl, hfin.out, HB.out.setCell (p := ⟨w.heap.size, 0, none⟩) (Nat.le_refl _) _, hrow.out.keep (ETN.stays) (keep_far (fun b hb => by have := hb.1; show b ≠ w.heap.size; omega) _) (fun b hb => by simpa using hb.2)⟩
    · have hfin := Lib.hid (says_rest HS.out hjs)
      have hj1 : (j : Int) < s.size := by omega
      clear hjs
      go_wp2
      go_region_held3 (fun w' => w'.cell? ⟨w.heap.size + 1, 1, none⟩ = some (.int .i64 j) ∧ w'.frozen? ⟨w.heap.size, 0, none⟩ = false) (go_keep) (fail)
      all_goals go_wp2
      all_goals exact bodyPost_ret (v := .tuple #[.agg #[.slice none 0 0], .int .i64 j, .int .i64 2]) (by simp [results, Tryd.results14, go_sem, r0]) rfl ⟨_, _, _, _, rfl, hfin.out, HB.out.drew.setCell (p := ⟨w.heap.size, 0, none⟩) (Nat.le_refl _) _, IsRow.nil⟩
  · have hfin := Lib.hid (says_err HS.out herr)
    have he1 : (err == 0) = false := beq_eq_false_iff_ne.2 herr
    have he2 : (err != 0) = true := bne_iff_ne.2 herr
    clear herr
    go_wp2
    go_region_held3 (fun w' => w'.cell? ⟨w.heap.size + 1, 1, none⟩ = some (.int .i64 j) ∧ w'.frozen? ⟨w.heap.size, 0, none⟩ = false) (go_keep) (fail)
    all_goals go_wp2
    all_goals exact bodyPost_ret (v := .tuple #[.agg #[.slice none 0 0], .int .i64 j, .int .i64 err]) (by simp [results, Tryd.results14, go_sem, r0]) rfl ⟨_, _, _, _, rfl, hfin.out, HB.out.drew.setCell (p := ⟨w.heap.size, 0, none⟩) (Nat.le_refl _) _, IsRow.nil⟩
end Go.Proofs.YtgcbnndbeoekgaaDoor
