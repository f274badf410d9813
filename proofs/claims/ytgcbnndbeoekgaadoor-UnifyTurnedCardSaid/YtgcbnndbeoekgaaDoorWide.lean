/- how many nodes some terms have: the law's terms, wide -/
import Derived.Test.YtgcbnndbeoekgaaDoorFindB
import Derived.Test.YtgcbnndbeoekgaaDoorRegY
set_option linter.unusedSimpArgs false
set_option linter.unusedVariables false
namespace Go.Proofs.YtgcbnndbeoekgaaDoor
open Go Go.RowKit

theorem term_info : (Tryd.prog.info? 24).map (fun i => (i.zero, i.size, i.bytes)) = some (some (.agg #[.slice none 0 0]), 1, 24) := by kernel_rfl
theorem tn_info15 : (Tryd.prog.info? 58).map (fun i => (i.zero, i.size, i.bytes)) = some (some (.agg #[.int .i64 0, .string ⟨#[]⟩, .slice none 0 0]), 3, 48) := by kernel_rfl
def LenV (n : Nat) (u : Value) : Prop := ∃ S c, u = .slice S n c
inductive Lens : List Nat → List Value → Prop where
  | nil : Lens [] []
  | cons {n u ns us} : LenV n u → Lens ns us → Lens (n :: ns) (u :: us)
theorem Lens.app {ns us ms vs} (h : Lens ns us) (k : Lens ms vs) : Lens (ns ++ ms) (us ++ vs) := by
  induction h with
  | nil => exact k
  | cons h1 _ ih => exact .cons h1 ih
theorem Lens.len {ns us} (h : Lens ns us) : us.length = ns.length := by
  induction h with
  | nil => rfl
  | cons _ _ ih => simp [ih]
theorem Lens.at_ {ns us} (h : Lens ns us) : ∀ i (hi : i < ns.length), ∃ S c, us[i]? = some (.slice S ns[i] c) := by
  induction h with
  | nil => intro i hi; simp at hi
  | cons h1 _ ih =>
    intro i hi
    cases i with
    | zero => obtain ⟨S, c, rfl⟩ := h1; exact ⟨S, c, rfl⟩
    | succ i => simpa using ih i (by simpa using hi)
theorem Lens.one {ns us} (h : Lens ns us) : ∀ u ∈ us, u.oneCell' = true := by
  induction h with
  | nil => intro u hu; cases hu
  | cons h1 _ ih =>
    intro u hu
    rcases List.mem_cons.1 hu with e | e
    · obtain ⟨S, c, rfl⟩ := h1; subst e; rfl
    · exact ih u e
/-- terms of the call's own, of which their lengths are known -/
def LenRow (w : World) (base : Nat) (v : Value) (ns : List Nat) : Prop := ∃ us, w.ownsRow base 24 1 v ns.length us ∧ Lens ns us
section
variable {w w' : World} {base : Nat} {v : Value} {ns : List Nat}
theorem LenRow.kept {row : Option Nat} (h : LenRow w base v ns) (hg : w.grownBy w' row) (hne : v.ownBlock = none ∨ v.ownBlock ≠ row) : LenRow w' base v ns := let ⟨us, h1, h2⟩ := h; ⟨us, h1.kept hg hne, h2⟩
theorem LenRow.below (h : LenRow w base v ns) (hb : Below w.heap.size w w') : LenRow w' base v ns :=
  h.kept (row := none) ⟨hb.os, hb.tape, hb.output, hb.size, fun k hk _ => hb.block k hk⟩ (by cases hv : v.ownBlock <;> simp)
theorem LenRow.shape (h : LenRow w base v ns) : ∃ A c, v = .slice A ns.length c := let ⟨_, h1, _⟩ := h; own_shape h1
theorem LenRow.lt (h : LenRow w base v ns) : ∀ g, v.ownBlock = some g → base ≤ g ∧ g < w.heap.size := let ⟨_, h1, _⟩ := h; h1.lt
theorem LenRow.made (w : World) {base : Nat} (hb : base ≤ w.heap.size) : LenRow (w.alloc (.cells #[] 24)) base (.slice (some ⟨w.heap.size, 0, none⟩) 0 0) [] :=
  ⟨[], World.ownsRow_made (base := base) (e := 24) (size := 1) w #[] 0 hb (Nat.zero_le _) (by simp), .nil⟩
theorem LenRow.cell {A : Option Addr} {n c : Nat} (h : LenRow w base (.slice A n c) ns) {i : Nat} (hi : i < ns.length) : ∃ g S k, A = some ⟨g, 0, none⟩ ∧ base ≤ g ∧ g < w.heap.size ∧ w.cell? ⟨g, i, none⟩ = some (.slice S ns[i] k) := by
  obtain ⟨us, h1, h2⟩ := h
  obtain ⟨S, k, hu⟩ := h2.at_ i hi
  have hlt := h1.lt
  have hcells := fun g => h1.cells (g := g)
  rcases h1.2 with ⟨_, hn⟩ | ⟨g, cap, cur, e, _⟩
  · omega
  · injection e with e _ _
    subst e
    refine ⟨g, S, k, rfl, (hlt g rfl).1, (hlt g rfl).2, ?_⟩
    have := hcells g rfl i _ hu
    rw [add_some, Nat.zero_add] at this
    exact this
theorem wp_lens {o : Oper} {a : Act} {K : Act → World → Prop} {Q : Exit → Act → World → Prop} (w : World) (s x : Operand)
    (ho : o.op = .call { callee := .builtin .append, args := #[s, x], argTypes := #[37, 37] }) (v : Value) (hs : a.eval s = v) (hown : LenRow w base v ns) (g c : Nat) (ms : List Nat) (us : List Value) (hx : a.eval x = .slice (some ⟨g, 0, none⟩) ms.length c) (hblk : Blk w g 24 us.toArray) (hms : Lens ms us)
    (hl : ns.length + ms.length ≤ 1048576) (hbase : base ≤ w.heap.size)
    (h : ∀ A' c' w', LenRow w' base (.slice A' (ns.length + ms.length) c') (ns ++ ms) → w.grownBy w' v.ownBlock → K (a.put o.dst (.slice A' (ns.length + ms.length) c')) w') : o.wp Tryd.prog a w K Q := by
  obtain ⟨xs, h1, h2⟩ := hown
  exact wp_append_from w s x 37 ho base 24 Tryd.underlying37 term_info rfl (by omega) v ns.length xs hs h1 (some ⟨g, 0, none⟩) ms.length c us hx (by rw [hms.len]; omega) (by intro e; cases e)
    (fun ad e => by cases e; exact news_cells hblk) hms.one (by unfold maxLen; omega) (by omega) hbase
    fun A' c' w' g2 g3 _ => h A' c' w' ⟨xs ++ us, by simpa using g2, h2.app hms⟩ g3
theorem step_lens {ops : Array Oper} {o : Oper} {a : Act} {K : Act → World → Prop} {Q : Exit → Act → World → Prop} {G : Prop} (w : World) (hgd : o.guard = none) (s x : Operand)
    (ho : o.op = .call { callee := .builtin .append, args := #[s, x], argTypes := #[37, 37] }) (v : Value) (hs : a.eval s = v) (hown : LenRow w base v ns) (g c : Nat) (ms : List Nat) (us : List Value) (hx : a.eval x = .slice (some ⟨g, 0, none⟩) ms.length c) (hblk : Blk w g 24 us.toArray) (hms : Lens ms us)
    (hl : ns.length + ms.length ≤ 1048576) (hbase : base ≤ w.heap.size)
    (h : ∀ A' c' w', LenRow w' base (.slice A' (ns.length + ms.length) c') (ns ++ ms) → w.grownBy w' v.ownBlock → K (a.put o.dst (.slice A' (ns.length + ms.length) c')) w') :
    if Region.wanted o (yielded ops a.tmps) = true then Oper.wp Tryd.prog o a w K Q else G := by
  rw [if_pos (by simp [Region.wanted, hgd])]
  exact wp_lens w s x ho v hs hown g c ms us hx hblk hms hl hbase h
end
theorem sum_take {ns : List Nat} {i : Nat} (h : i < ns.length) : (ns.take (i + 1)).sum = (ns.take i).sum + ns[i] := by
  rw [List.take_succ_eq_append_getElem h, List.sum_append]; simp
theorem sum_bound {ns : List Nat} {M : Nat} (h : ∀ n ∈ ns, n ≤ M) : ns.sum ≤ M * ns.length := by
  induction ns with
  | nil => simp
  | cons x r ih =>
    rw [List.sum_cons, List.length_cons]
    have h1 := h x (by simp)
    have h2 := ih (fun n hn => h n (by simp [hn]))
    rw [Nat.mul_add]; omega
set_option maxRecDepth 100000 in
set_option maxHeartbeats 1000000 in
theorem wide_any (v : Value) (ns : List Nat) (w : World) (base : Nat) (hown : LenRow w base v ns) (hb : ∀ n ∈ ns, n ≤ 140737488355328) (hl : ns.length ≤ 4000) :
    Calls Tryd.prog 16 #[v] w fun e w' => e = .returned (.bool (decide (400 < ns.sum))) ∧ w = w' := by
  obtain ⟨A, c, rfl⟩ := hown.shape
  have HO := Lib.hid hown
  have HBN := Lib.hid hb
  clear hown hb
  go_enter Tryd.func16, Tryd.ntmps16
  go_wp2
  go_loopg [3, 4] ns.length (fun g s3 s4 wx => ∃ i : Nat, s4 = .int .i64 i ∧ s3 = .int .i64 ((ns.take i).sum : Nat) ∧ g = ns.length - i ∧ i ≤ ns.length ∧ w = wx)
  case atStart => exact ⟨0, rfl, rfl, rfl, Nat.zero_le _, rfl⟩
  case round =>
    obtain ⟨i, rfl, rfl, rfl, hi, rfl⟩ := hrel
    have i0 : (0 : Int) ≤ i := by omega
    have hs : (ns.take i).sum ≤ 562949953421312000 := by
      have h1 := sum_bound (ns := ns.take i) (M := 140737488355328) (fun n hn => HBN.out n (List.mem_of_mem_take hn))
      have h2 : (ns.take i).length ≤ 4000 := by rw [List.length_take]; omega
      have h3 : 140737488355328 * (ns.take i).length ≤ 140737488355328 * 4000 := Nat.mul_le_mul_left _ h2
      omega
    obtain ⟨sm, hsm⟩ : ∃ q, (ns.take i).sum = q := ⟨_, rfl⟩
    have HSM := Lib.hid hsm
    rw [hsm] at hs ⊢
    clear hsm
    have s0 : (0 : Int) ≤ sm := by omega
    have s1 : (sm : Int) ≤ 562949953421312000 := by omega
    by_cases hlt : i < ns.length
    · have hlt' : (i : Int) < ns.length := by omega
      obtain ⟨g, S, k, rfl, _, hgl, d0⟩ := HO.out.cell hlt
      have HN := Lib.hid (sum_take hlt)
      have hxb := HBN.out _ (List.getElem_mem hlt)
      generalize ns[i] = x at *
      have x0 : (0 : Int) ≤ x := by omega
      have x1 : (x : Int) ≤ 140737488355328 := by omega
      have HX : Hid ((ns.take (i + 1)).sum = sm + x) := Lib.hid (by rw [HN.out, HSM.out])
      clear HN
      go_wp2
      go_roundg (ns.length - (i + 1))
      case measure => omega
      case rel => exact ⟨i + 1, by go_num, by rw [HX.out]; go_num, rfl, by omega, rfl⟩
    · have hlt' : ¬ (i : Int) < ns.length := by omega
      have HX : Hid (ns.sum = sm) := Lib.hid (by rw [← HSM.out, List.take_of_length_le (by omega)])
      by_cases h4 : 400 < sm
      · have HD : Hid (decide (400 < ns.sum) = true) := Lib.hid (decide_eq_true (by rw [HX.out]; exact h4))
        have h4' : (400 : Int) < sm := by omega
        go_wp2
        go_ret
        exact ⟨by rw [HD.out]; rfl, rfl⟩
      · have HD : Hid (decide (400 < ns.sum) = false) := Lib.hid (decide_eq_false (by rw [HX.out]; exact h4))
        have h4' : ¬ (400 : Int) < sm := by omega
        go_wp2
        go_ret
        exact ⟨by rw [HD.out]; rfl, rfl⟩
end Go.Proofs.YtgcbnndbeoekgaaDoor
