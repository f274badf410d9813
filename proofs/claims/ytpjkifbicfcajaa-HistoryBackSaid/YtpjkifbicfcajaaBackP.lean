/- back through all models: plain, and what is done with a past at a place of a list -/
import Derived.Test.YtpjkifbicfcajaaPastK
set_option linter.unusedSimpArgs false
set_option linter.unusedVariables false
namespace Go.Proofs.Ytpjkifbicfcajaa
open Go Go.RowKit

/-- a list of models looked at from a place -/
def Zip (K : List AModel) (t : Nat) : APast := ⟨K.take t, K[t]!, K.drop (t + 1)⟩
section
variable {K : List AModel} {t : Nat}
theorem zip_here (h : t < K.length) : K[t]! = K[t] := getElem!_pos K t h
theorem Zip_list (h : t < K.length) : (Zip K t).list = K := by
  unfold Zip APast.list
  show K.take t ++ K[t]! :: K.drop (t + 1) = K
  rw [zip_here h, ← List.drop_eq_getElem_cons h, List.take_append_drop]
theorem Zip_fits (h : t < K.length) (hl : K.length ≤ 65) : (Zip K t).Fits := by unfold APast.Fits; rw [Zip_list h]; exact hl
theorem Zip_all (h : t < K.length) (ha : ∀ m ∈ K, ModAll m) : ∀ m ∈ (Zip K t).list, ModAll m := by rw [Zip_list h]; exact ha
theorem Zip_undo (h : t + 1 < K.length) : undoP (Zip K (t + 1)) = (0, Zip K t) := by
  have e : (Zip K (t + 1)).ahead = (Zip K t).ahead ++ [K[t]!] := by
    show K.take (t + 1) = K.take t ++ [K[t]!]
    rw [zip_here (by omega)]
    exact List.take_succ_eq_append_getElem (by omega)
  have hb : (Zip K (t + 1)).here :: (Zip K (t + 1)).behind = (Zip K t).behind := by
    show K[t + 1]! :: K.drop (t + 1 + 1) = K.drop (t + 1)
    rw [zip_here h, ← List.drop_eq_getElem_cons h]
  unfold undoP
  rw [e, List.getLast?_concat]
  simp only [List.dropLast_concat]
  rw [hb]
  rfl
theorem Zip_redo (h : t + 1 < K.length) : redoP (Zip K t) = (0, Zip K (t + 1)) := by
  have e : (Zip K t).behind = K[t + 1]! :: (Zip K (t + 1)).behind := by
    show K.drop (t + 1) = K[t + 1]! :: K.drop (t + 1 + 1)
    rw [zip_here h, ← List.drop_eq_getElem_cons h]
  have ha : (Zip K t).ahead ++ [(Zip K t).here] = (Zip K (t + 1)).ahead := by
    show K.take t ++ [K[t]!] = K.take (t + 1)
    rw [zip_here (by omega)]
    exact (List.take_succ_eq_append_getElem (by omega)).symm
  unfold redoP
  rw [e]
  simp only
  rw [ha]
  rfl
theorem Zip_first : undoP (Zip K 0) = (270, Zip K 0) := by
  have e : (Zip K 0).ahead = [] := rfl
  unfold undoP
  rw [e]
  rfl
theorem Zip_last (h : t + 1 = K.length) : redoP (Zip K t) = (270, Zip K t) := by
  have e : (Zip K t).behind = [] := by show K.drop (t + 1) = []; rw [h, List.drop_length]
  unfold redoP
  rw [e]
theorem Zip_append {x : AModel} (h : t + 1 = K.length) : (⟨(Zip K t).ahead ++ [(Zip K t).here], x, []⟩ : APast) = Zip (K ++ [x]) (t + 1) := by
  have e : (Zip K t).ahead ++ [(Zip K t).here] = K := by
    show K.take t ++ [K[t]!] = K
    rw [zip_here (by omega), ← List.take_succ_eq_append_getElem (by omega), h, List.take_length]
  rw [e]
  unfold Zip
  rw [h, List.take_left, zip_here (by simp)]
  simp
theorem Zip_one (m : AModel) : Zip [m] 0 = ⟨[], m, []⟩ := rfl
theorem push_zip_no {x : AModel} (h : checkI x = 29) : pushP (Zip K t) x = (29, Zip K t) := by unfold pushP; rw [if_pos (by rw [h]; decide), h]
theorem push_zip_same {x : AModel} (h : checkI x = 0) (hx : x = K[t]!) : pushP (Zip K t) x = (0, Zip K t) := by unfold pushP; rw [if_neg (by rw [h]; decide), if_pos (show x = (Zip K t).here from hx)]
theorem push_zip_new {x : AModel} (h : checkI x = 0) (hx : x ≠ K[t]!) (ht : t + 1 = K.length) (hl : K.length ≤ 64) : pushP (Zip K t) x = (0, Zip (K ++ [x]) (t + 1)) := by
  unfold pushP
  rw [if_neg (by rw [h]; decide), if_neg (show ¬ x = (Zip K t).here from hx)]
  have e : (Zip K t).ahead.length = t := by show (K.take t).length = t; rw [List.length_take]; omega
  rw [e, if_neg (by omega), Zip_append ht]
end
section
variable {w w' : World} {p : Nat} {F : Nat → Prop} {K : List AModel} {t : Nat}
theorem to_ok {e : Ending} {m : AModel} {a b : List AModel} (h : ToPost w w' F p (0, ⟨a, m, b⟩) e) : ∃ A c, e = .returned (.tuple #[.agg #[.int .i64 m.next, .slice A m.nodes.length c], .int .i64 0]) ∧ KeepO (· = p) w w' ∧ IsPast w' F p ⟨a, m, b⟩ ∧ RowOf 7 ENode w' (fun b => b < w'.heap.size) A m.nodes := by
  obtain ⟨mv, he, hk, hp, _, h2⟩ := h
  obtain ⟨v, l, rfl, ho, hm⟩ := h2 rfl
  have h1 := ho.isRow (F := fun b => b < w'.heap.size) (fun b _ h => h)
  rw [hm] at h1
  obtain ⟨A, c, rfl, _, _, h3⟩ := h1
  exact ⟨A, c, he, hk, hp, h3⟩
theorem to_no {e : Ending} {P : APast} (h : ToPost w w' F p (270, P) e) : e = .returned (.tuple #[.agg #[.int .i64 0, .slice none 0 0], .int .i64 270]) ∧ KeepO (· = p) w w' ∧ IsPast w' F p P := by
  obtain ⟨mv, he, hk, hp, h1, _⟩ := h
  obtain rfl := h1 (by show (270 : Int) ≠ 0; decide)
  exact ⟨he, hk, hp⟩
theorem undo_zip (hF : ∀ b, F b → b < w.heap.size) (hpF : ¬ F p) (h : IsPast w F p (Zip K (t + 1))) (ht : t + 1 < K.length) (hl : K.length ≤ 65) (ha : ∀ m ∈ K, ModAll m) : Calls Try.prog 18 #[.pointer (some ⟨p, 0, none⟩)] w fun e w' =>
    ∃ A c, e = .returned (.tuple #[.agg #[.int .i64 (K[t]!).next, .slice A (K[t]!).nodes.length c], .int .i64 0]) ∧ KeepO (· = p) w w' ∧ IsPast w' F p (Zip K t) ∧ RowOf 7 ENode w' (fun b => b < w'.heap.size) A (K[t]!).nodes :=
  (undo_any p _ w F hF hpF h (Zip_fits ht hl) (Zip_all ht ha)).mono fun _ _ h2 => by rw [Zip_undo ht] at h2; exact to_ok h2
theorem redo_zip (hF : ∀ b, F b → b < w.heap.size) (hpF : ¬ F p) (h : IsPast w F p (Zip K t)) (ht : t + 1 < K.length) (hl : K.length ≤ 65) (ha : ∀ m ∈ K, ModAll m) : Calls Try.prog 21 #[.pointer (some ⟨p, 0, none⟩)] w fun e w' =>
    ∃ A c, e = .returned (.tuple #[.agg #[.int .i64 (K[t + 1]!).next, .slice A (K[t + 1]!).nodes.length c], .int .i64 0]) ∧ KeepO (· = p) w w' ∧ IsPast w' F p (Zip K (t + 1)) ∧ RowOf 7 ENode w' (fun b => b < w'.heap.size) A (K[t + 1]!).nodes :=
  (redo_any p _ w F hF hpF h (Zip_fits (by omega) hl) (Zip_all (by omega) ha)).mono fun _ _ h2 => by rw [Zip_redo ht] at h2; exact to_ok h2
theorem undo_first (hF : ∀ b, F b → b < w.heap.size) (hpF : ¬ F p) (h : IsPast w F p (Zip K 0)) (ht : 0 < K.length) (hl : K.length ≤ 65) (ha : ∀ m ∈ K, ModAll m) : Calls Try.prog 18 #[.pointer (some ⟨p, 0, none⟩)] w fun e w' =>
    e = .returned (.tuple #[.agg #[.int .i64 0, .slice none 0 0], .int .i64 270]) ∧ KeepO (· = p) w w' ∧ IsPast w' F p (Zip K 0) :=
  (undo_any p _ w F hF hpF h (Zip_fits ht hl) (Zip_all ht ha)).mono fun _ _ h2 => by rw [Zip_first] at h2; exact to_no h2
theorem redo_last (hF : ∀ b, F b → b < w.heap.size) (hpF : ¬ F p) (h : IsPast w F p (Zip K t)) (ht : t + 1 = K.length) (hl : K.length ≤ 65) (ha : ∀ m ∈ K, ModAll m) : Calls Try.prog 21 #[.pointer (some ⟨p, 0, none⟩)] w fun e w' =>
    e = .returned (.tuple #[.agg #[.int .i64 0, .slice none 0 0], .int .i64 270]) ∧ KeepO (· = p) w w' ∧ IsPast w' F p (Zip K t) :=
  (redo_any p _ w F hF hpF h (Zip_fits (by omega) hl) (Zip_all (by omega) ha)).mono fun _ _ h2 => by rw [Zip_last ht] at h2; exact to_no h2
theorem now_zip (hF : ∀ b, F b → b < w.heap.size) (h : IsPast w F p (Zip K t)) (ht : t < K.length) (ha : ∀ m ∈ K, ModAll m) : Calls Try.prog 32 #[.pointer (some ⟨p, 0, none⟩)] w fun e w' =>
    ∃ A c, e = .returned (.agg #[.int .i64 (K[t]!).next, .slice A (K[t]!).nodes.length c]) ∧ RowOf 7 ENode w' (fun b => b < w'.heap.size) A (K[t]!).nodes ∧ Below w.heap.size w w' :=
  (now_any p _ w F hF h (ha _ (by show K[t]! ∈ K; rw [zip_here ht]; exact List.getElem_mem ht))).mono fun e w' ⟨v, h1, l, ho, hm, hb⟩ => by
    have h3 := ho.isRow (F := fun b => b < w'.heap.size) (fun b _ h => h)
    rw [hm] at h3
    obtain ⟨A, c, rfl, _, _, h3⟩ := h3
    exact ⟨A, c, h1, h3, hb⟩
theorem depth_zip (h : IsPast w F p (Zip K t)) (ht : t + 1 = K.length) (hl : K.length ≤ 65) : Calls Try.prog 33 #[.pointer (some ⟨p, 0, none⟩)] w fun e w' => e = .returned (.tuple #[.int .i64 t, .int .i64 0]) ∧ Below w.heap.size w w' := by
  obtain ⟨A, c, hb, _, _, _⟩ := h
  rw [Zip_list (by omega), show (Zip K t).ahead.length = t by show (K.take t).length = t; rw [List.length_take]; omega] at hb
  have := depth_any p K.length c t A w hb (by omega) hl
  rw [show K.length - 1 - t = 0 by omega] at this
  exact this
/-- all there is but a past's box and a list's block -/
def FQ (w : World) (p : Nat) (v : Value) (b : Nat) : Prop := b < w.heap.size ∧ b ≠ p ∧ v.ownBlock ≠ some b
theorem past_step {v : Value} {P : APast} (hv : ∀ b, v.ownBlock = some b → b < w.heap.size) (hp : p < w.heap.size) (hs : w.heap.size ≤ w'.heap.size) (h : IsPast w' (fun b => FQ w p v b ∨ (w.heap.size ≤ b ∧ b < w'.heap.size)) p P) : IsPast w' (FQ w' p v) p P :=
  h.keep (Keep.refl _ _) (fun b hb => by
    rcases hb with ⟨h1, h2, h3⟩ | ⟨h1, h2⟩
    · exact ⟨by omega, h2, h3⟩
    · exact ⟨h2, by omega, fun e => by have := hv b e; omega⟩) rfl
theorem past_below {v : Value} {P : APast} (h : IsPast w (FQ w p v) p P) (hb : Below w.heap.size w w') : IsPast w' (FQ w' p v) p P :=
  (h.below hb (fun _ h => h.1)).keep (Keep.refl _ _) (fun b hb' => ⟨Nat.lt_of_lt_of_le hb'.1 hb.size, hb'.2⟩) rfl
theorem past_grown {v v' : Value} {P : APast} (h : IsPast w (FQ w p v) p P) (hg : w.grownBy w' v.ownBlock) (hvp : v.ownBlock ≠ some p) (hat : v'.ownBlock = v.ownBlock ∨ v'.ownBlock = some w.heap.size) : IsPast w' (FQ w' p v') p P :=
  (h.keep (F' := FQ w p v) (Keep.grown hg (fun b hb => ⟨hb.1, fun e => hb.2.2 e⟩)) (fun _ h => h) (hg.block p h.lt (fun e => hvp e.symm))).keep (Keep.refl _ _) (fun b hb => ⟨Nat.lt_of_lt_of_le hb.1 hg.size, hb.2.1, fun e => by
    rcases hat with h1 | h1
    · exact hb.2.2 (h1 ▸ e)
    · rw [h1] at e; cases e; exact absurd hb.1 (Nat.lt_irrefl _)⟩) rfl
theorem model_cells {w : World} {F : Nat → Prop} {A : Option Addr} {l : List AModel} (hF : ∀ b, F b → b < w.heap.size) (h : RowOf 2 EModel w F A l) (i : Nat) (hi : i < l.length) :
    ∃ b off S c, A = some ⟨b, off, none⟩ ∧ l[i].nodes.length ≤ c ∧ c ≤ maxLen ∧ ∀ V, Below w.heap.size w V →
      V.cell? ⟨b, off + i * 2, none⟩ = some (.int .i64 l[i].next) ∧ V.cell? ⟨b, off + i * 2 + 1, none⟩ = some (.slice S l[i].nodes.length c) ∧ RowOf 7 ENode V F S l[i].nodes := by
  obtain ⟨b, off, S, c, rfl, hbF, d0, d1, k1, k2, hr⟩ := model_at h hi
  have hb := hF b hbF
  exact ⟨b, off, S, c, rfl, k1, k2, fun V hV => ⟨(hV.cell (p := ⟨b, _, none⟩) hb).trans d0, (hV.cell (p := ⟨b, _, none⟩) hb).trans d1, hr.keep ENode.stays (Keep.below hV hF) (fun _ h => h)⟩⟩
theorem own_model_at {base n cv : Nat} {Av : Option Addr} {F : Nat → Prop} (h : OwnRow 2 27 EModel F w base (.slice Av n cv) K) (ht : t < K.length) :
    ∃ bk offk Sk ck, Av = some ⟨bk, offk, none⟩ ∧ w.cell? ⟨bk, offk + t * 2, none⟩ = some (.int .i64 (K[t]!).next) ∧ w.cell? ⟨bk, offk + t * 2 + 1, none⟩ = some (.slice Sk (K[t]!).nodes.length ck) ∧ RowOf 7 ENode w (fun b => b < w.heap.size) Sk (K[t]!).nodes := by
  obtain ⟨Ak, ck2, ev, _, _, hrowk⟩ := h.isRow EModel.stays (F' := fun b => b < w.heap.size) (fun b h h2 => h2) (fun b _ h => h)
  injection ev with ev1 ev2 ev3
  subst ev1
  obtain ⟨bk, offk, Sk, ck, rfl, _, q0, q1, _, _, hrk⟩ := model_at hrowk (i := t) ht
  rw [← zip_here ht] at q0 q1 hrk
  exact ⟨bk, offk, Sk, ck, rfl, q0, q1, hrk⟩
theorem KeepO.grownBy {p : Nat} (h : KeepO (· = p) w w') : w.grownBy w' (some p) := ⟨h.os, h.tape, h.output, h.size, fun i hi hne => h.block i hi (fun e => hne (by rw [e]))⟩
end
end Go.Proofs.Ytpjkifbicfcajaa
