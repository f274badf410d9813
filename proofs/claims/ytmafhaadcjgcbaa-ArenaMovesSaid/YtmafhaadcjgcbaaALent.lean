import Derived.Test.YtmafhaadcjgcbaaALentI
set_option linter.unusedSimpArgs false
set_option linter.unusedVariables false
namespace Go.Proofs.Ytmafhaadcjgcbaa
open Go Go.RowKit

set_option maxRecDepth 100000 in
set_option maxHeartbeats 4000000 in
theorem lent_any (A : Option Addr) (c : Nat) (m : AModel) (w : World) (F : Nat → Prop) (hF : ∀ b, F b → b < w.heap.size) (h : RowOf 7 ENode w F A m.nodes) (hz : ∀ x ∈ m.nodes, LensOK x) (hl : m.nodes.length ≤ 300) :
    Calls Try.prog 15 #[.agg #[.int .i64 m.next, .slice A m.nodes.length c]] w fun e w' => ∃ v, e = .returned v ∧ IsModelM w' (fun b => w.heap.size ≤ b ∧ b < w'.heap.size) v m ∧ Below w.heap.size w w' := by
  go_enter Try.func15, Try.ntmps15
  go_wp2_with fail
  go_loopg [4] m.nodes.length (fun g s4 wx => ∃ (i : Nat) (v : Value), s4 = .int .i64 i ∧ g = m.nodes.length - i ∧ i ≤ m.nodes.length ∧ Below w.heap.size w wx ∧ Blk wx w.heap.size 24 #[.int .i64 m.next, .slice A m.nodes.length c] ∧ Blk wx (w.heap.size + 1) 24 #[.int .i64 0, .slice none 0 0] ∧ Blk wx (w.heap.size + 2) 24 #[.int .i64 m.next, v] ∧ OwnRow 7 38 ENodeO (fun b => w.heap.size + 3 ≤ b) wx (w.heap.size + 3) v ((m.nodes.take i).map some))
  case atStart => exact ⟨0, _, rfl, rfl, Nat.zero_le _, (((Below.refl _ _).alloc (Nat.le_refl _) _).alloc (by simp) _).alloc (by simp; omega) _, ((Blk.new _ _ _).alloc _).alloc _, (Blk.new' (by simp)).alloc _, Blk.new' (by simp), OwnRow.nil _ _⟩
  case round =>
    obtain ⟨i, vn, rfl, rfl, hil, hb, hmb, hrb, hob, hown⟩ := hrel
    have HB := Lib.hid hb; have HM := Lib.hid hmb; have HRB := Lib.hid hrb; have HOB := Lib.hid hob; have HOWN := Lib.hid hown
    have m1 := hmb.cell 1
    have hmlt := hmb.lt; have holt := hob.lt; have hrlt := hrb.lt
    simp at m1
    clear hmb hrb hob hown
    by_cases hlt : i < m.nodes.length
    · have hlt' : (i : Int) < m.nodes.length := by omega
      have i0 : (0 : Int) ≤ i := by omega
      obtain ⟨b, off, Sp, cp, Sk, ck, Sr, cr, rfl, hbF, d0, d1, d2, d3, d4, d5, d6, ⟨_, _, hr0⟩, ⟨_, _, hr1⟩, ⟨_, _, hr2⟩⟩ := node_at h hlt
      have hbw := hF _ hbF
      replace d0 := (hb.cell (p := ⟨b, off + i * 7, none⟩) hbw).trans d0; replace d1 := (hb.cell (p := ⟨b, off + i * 7 + 1, none⟩) hbw).trans d1; replace d2 := (hb.cell (p := ⟨b, off + i * 7 + 2, none⟩) hbw).trans d2; replace d3 := (hb.cell (p := ⟨b, off + i * 7 + 3, none⟩) hbw).trans d3; replace d4 := (hb.cell (p := ⟨b, off + i * 7 + 4, none⟩) hbw).trans d4; replace d5 := (hb.cell (p := ⟨b, off + i * 7 + 5, none⟩) hbw).trans d5; replace d6 := (hb.cell (p := ⟨b, off + i * 7 + 6, none⟩) hbw).trans d6
      obtain ⟨hz1, hz2, hz3⟩ := hz _ (List.getElem_mem hlt)
      obtain ⟨n, hn⟩ : ∃ n, m.nodes[i] = n := ⟨_, rfl⟩
      have HN := Lib.hid hn
      rw [hn] at d0 d1 d2 d3 d4 d5 d6 hr0 hr1 hr2 hz1 hz2 hz3
      have HR0 := Lib.hid hr0; have HR1 := Lib.hid hr1; have HR2 := Lib.hid hr2
      clear hn hr0 hr1 hr2 hb
      go_upto_region 6 with fail
      obtain ⟨p, hp⟩ : ∃ p, wr.heap.size = p := ⟨_, rfl⟩
      obtain ⟨v, hv⟩ : ∃ v, wr.alloc (.cells #[.int .i64 n.id, .string n.concept, .int .i64 n.parent, .string n.role, .slice Sp n.props.length cp, .slice Sk n.kids.length ck, .slice Sr n.refs.length cr] 38) = v := ⟨_, rfl⟩
      have HX : Hid (Blk v p 38 #[.int .i64 n.id, .string n.concept, .int .i64 n.parent, .string n.role, .slice Sp n.props.length cp, .slice Sk n.kids.length ck, .slice Sr n.refs.length cr]) := Lib.hid (by rw [← hv, ← hp]; exact Blk.new _ _ _)
      have HV0 : Hid (Below wr.heap.size wr v) := Lib.hid (by rw [← hv]; exact (Below.refl _ _).alloc (Nat.le_refl _) _)
      have HVS : Hid (v.heap.size = p + 1) := Lib.hid (by rw [← hv, ← hp]; simp)
      have HP := Lib.hid hp
      have HBV := Lib.hid (HB.out.trans (HV0.out.mono HB.out.size))
      rw [hv, hp]
      clear hv d0 d1 d2 d3 d4 d5 d6 hp m1
      go_cut [] (fun wx => ∃ (B1 : Option Addr) (e1 : Nat), KeptBut p v wx ∧ Blk wx p 38 #[.int .i64 n.id, .string n.concept, .int .i64 n.parent, .string n.role, .slice B1 n.props.length e1, .slice Sk n.kids.length ck, .slice Sr n.refs.length cr] ∧ IsRowM 2 EProp (markStr) wx (fun b => v.heap.size ≤ b ∧ b < wx.heap.size) (.slice B1 n.props.length e1) n.props)
      case first => as_aux_lemma =>
        have x4 := HX.out.cell 4
        have hp := HX.out.lt
        simp at x4
        have HC : Hid (∀ w', Below v.heap.size v w' → ∀ ad, Sp = some ad → ∀ j u, (n.props.flatMap propCells)[j]? = some u → w'.cell? (ad.add j) = some u) := Lib.hid (fun w' hb ad hA => (RowOf.keep EProp.stays (F' := F) (Keep.below (HBV.out.trans (hb.mono HBV.out.size)) hF) (fun _ h => h) HR0.out).cellsFrom propCells_len ad hA)
        have HNONE := Lib.hid (show Sp = none → n.props.length = 0 from fun e => by have h0 := HR0.out; subst e; rw [h0.none_nil]; rfl)
        refine wp_region_X (S := (fun w' => w'.cell? ⟨p, 4, none⟩ = some (.slice Sp n.props.length cp))) 12 (by kernel_rfl) (by exact x4) (fun hHeld => ?_)
        refine wpAnyX_take (i := 1) (v := ?_) rfl (by kernel_rfl) (by kernel_rfl) (by kernel_rfl) (by kernel_rfl) (fun _ _ _ h => h) (Or.inl ⟨by rfl, ?_⟩) (by assumption) ?_
        rotate_left 1
        · (intro w' hSw; go_simp); try with_reducible rfl
        try simp only [Act.put, List.setIfInBounds_toArray]
        refine wpAnyX_take (i := 2) (v := ?_) rfl (by kernel_rfl) (by kernel_rfl) (by kernel_rfl) (by kernel_rfl) (fun _ _ _ h => h) (Or.inl ⟨by rfl, ?_⟩) (by assumption) ?_
        rotate_left 1
        · (intro w' hSw; go_simp); try with_reducible rfl
        try simp only [Act.put]
        refine wpAnyX_take (i := 4) (v := ?_) rfl (by kernel_rfl) (by kernel_rfl) (by kernel_rfl) (by kernel_rfl) (fun _ _ _ h => h) (Or.inl ⟨by rfl, ?_⟩) (by assumption) ?_
        rotate_left 1
        · (intro w' hSw; go_simp); try with_reducible rfl
        try simp only [Act.put]
        refine wpAnyX_take (i := 7) (v := ?_) rfl (by kernel_rfl) (by kernel_rfl) (by kernel_rfl) (by kernel_rfl) (fun _ _ _ h => h) (Or.inl ⟨by rfl, ?_⟩) (by assumption) ?_
        rotate_left 1
        · (intro w' hSw; go_simp); try with_reducible rfl
        try simp only [Act.put]
        refine wpAnyX_take (i := 8) (v := ?_) rfl (by kernel_rfl) (by kernel_rfl) (by kernel_rfl) (by kernel_rfl) (fun _ _ _ h => h) (Or.inl ⟨by rfl, ?_⟩) (by assumption) ?_
        rotate_left 1
        · (intro w' hSw; go_simp); try with_reducible rfl
        try simp only [Act.put]
        refine wpAnyX_take (i := 9) (v := ?_) rfl (by kernel_rfl) (by kernel_rfl) (by kernel_rfl) (by kernel_rfl) (fun _ _ _ h => h) (Or.inl ⟨by rfl, ?_⟩) (by assumption) ?_
        rotate_left 1
        · (intro w' hSw; go_simp); try with_reducible rfl
        try simp only [Act.put]
        refine wpAnyX_two (i := 0) (j := 5) rfl rfl (by kernel_rfl) (fun K hK => ?_) (fun K hK => ?_)
        · go_simp
          refine hK.out _ _ (fun _ => (Below.cell (((Below.refl v.heap.size v).alloc (Nat.le_refl _) (.cells #[] 85)).drew) hp).trans x4) ?_
          clear hK K
          try simp only [Act.put, List.setIfInBounds_toArray, List.set_cons_zero, List.set_cons_succ, Nat.zero_add]
          refine wpAnyX_two (i := 3) (j := 5) rfl rfl (by kernel_rfl) (fun K hK => ?_) (fun K hK => ?_)
          · have hcur := HC.out _ (((Below.refl v.heap.size v).alloc (Nat.le_refl _) (.cells #[] 85)).drew)
            refine step_append_from _ (by rfl) (.tmp 21) (.tmp 23) _ (by rfl) v.heap.size 85 Try.underlying34 prop_info rfl (by omega) (.slice (some ⟨v.heap.size, 0, none⟩) 0 0) 0 [] (by rfl) ((World.ownsRow_made (base := v.heap.size) (e := 85) (size := 2) v #[] 0 (Nat.le_refl _) (Nat.zero_le _) rfl).drew) Sp n.props.length cp (n.props.flatMap propCells) (by rfl) (flat_length propCells_len _) HNONE.out hcur (flat_one propCells_one _) (by unfold maxLen; omega) (by omega) (by simp <;> omega) ?_
            intro A1 c1 w1 own1 hg1 hat1
            simp only [Nat.zero_add, List.nil_append] at own1 hat1
            clear hcur
            have hb1 : Below v.heap.size v w1 := (((Below.refl v.heap.size v).alloc (Nat.le_refl _) (.cells #[] 85)).drew).grown hg1 (by simp) (fun k hk => by simp [Value.ownBlock] at hk; omega)
            refine hK.out _ _ (fun _ => (Below.cell (hb1) hp).trans x4) ?_
            clear hK K
            try simp only [Act.put, List.setIfInBounds_toArray, Nat.zero_add]
            refine wpAnyX_one (i := 5) rfl (by kernel_rfl) (fun K hK => ?_)
            go_simp
            refine hK.out _ _ (fun _ => (Below.cell ((hb1.alloc hb1.size _)) hp).trans x4) ?_
            clear hK K
            try simp only [Act.put, List.setIfInBounds_toArray, List.set_cons_zero, List.set_cons_succ, Nat.zero_add]
            refine wpAnyX_one (i := 6) rfl (by kernel_rfl) (fun K hK => ?_)
            refine step_append_from _ (by rfl) (.tmp 24) (.tmp 26) _ (by rfl) v.heap.size 85 Try.underlying34 prop_info rfl (by omega) (.slice A1 n.props.length c1) n.props.length (n.props.flatMap propCells) (by rfl) (own1.alloc _) (some ⟨w1.heap.size, 0, none⟩) 1 1 [markStr, .string ⟨#[]⟩] (by rfl) (by rfl) (by simp) (by intro ad e; cases e; exact news_cells (cs := #[.string ⟨#[109, 97, 114, 107]⟩, .string ⟨#[]⟩]) (Blk.new _ _ _)) (by simp [markStr, Value.oneCell']) (by unfold maxLen; omega) (by omega) (by have := hb1.size; simp; omega) ?_
            intro A2 c2 w2 own2 hg2 hat2
            have hb2 : Below v.heap.size v w2 := (hb1.alloc hb1.size _).grown hg2 (by have := hb1.size; simp; omega) (fun k hk => (own1.lt k hk).1)
            obtain ⟨g2, rfl, hc2, hc2', _, _⟩ := own_pos own2 (by omega)
            have hc3 : (n.props.length : Int) ≤ c2 := by omega
            have hc4 : n.props.length ≤ c2 := by omega
            refine hK.out _ _ (fun _ => (Below.cell hb2 hp).trans x4) ?_
            clear hK K
            try simp only [Act.put, List.setIfInBounds_toArray]
            refine wpAnyX_one (i := 10) rfl (by kernel_rfl) (fun K hK => ?_)
            go_simp
            refine hK.out _ _ (fun _ => (Below.cell hb2 hp).trans x4) ?_
            clear hK K
            try simp only [Act.put, List.setIfInBounds_toArray, List.set_cons_zero, List.set_cons_succ, Nat.zero_add]
            refine wpAnyX_one (i := 11) rfl (by kernel_rfl) (fun K hK => ?_)
            go_simp
            refine hK.out _ _ (fun _ => (Below.cell hb2 hp).trans x4) ?_
            clear hK K
            try simp only [Act.put, List.setIfInBounds_toArray, List.set_cons_zero, List.set_cons_succ, Nat.zero_add]
            refine wpAnyX_one (i := 12) rfl (by kernel_rfl) (fun K hK => ?_)
            have hx2 := (Below.cell hb2 hp).trans x4
            have hz2 := (Below.frozen (p := ⟨p, 4, none⟩) hb2 hp).trans (Blk.frozen HX.out 4)
            go_simp
            refine hK.out _ _ (fun h => absurd rfl h) ?_
            clear hK K
            try simp only [Act.put, List.setIfInBounds_toArray, List.set_cons_zero, List.set_cons_succ, Nat.zero_add]
            refine wpAnyX_done (by kernel_rfl) ?_ _
            have HR := Lib.hid (lent_row (j := 4) propCells_len (by omega) (by rfl) HX.out hb2 own2 (by rfl))
            go_wp2_with fail
            go_meet
            case rel => exact ⟨_, _, HR.out.1, by simpa using HR.out.2.1, HR.out.2.2⟩
          · go_simp
            refine hK.out _ _ (fun _ => (Below.cell ((((Below.refl v.heap.size v).alloc (Nat.le_refl _) (.cells #[] 85)).alloc (by simp) (.cells #[.string ⟨#[109, 97, 114, 107]⟩, .string ⟨#[]⟩] 85)).drew) hp).trans x4) ?_
            clear hK K
            try simp only [Act.put, List.setIfInBounds_toArray, List.set_cons_zero, List.set_cons_succ, Nat.zero_add]
            refine wpAnyX_one (i := 3) rfl (by kernel_rfl) (fun K hK => ?_)
            have hcur := HC.out _ ((((Below.refl v.heap.size v).alloc (Nat.le_refl _) (.cells #[] 85)).alloc (by simp) (.cells #[.string ⟨#[109, 97, 114, 107]⟩, .string ⟨#[]⟩] 85)).drew)
            refine step_append_from _ (by rfl) (.tmp 21) (.tmp 23) _ (by rfl) v.heap.size 85 Try.underlying34 prop_info rfl (by omega) (.slice (some ⟨v.heap.size, 0, none⟩) 0 0) 0 [] (by rfl) (((World.ownsRow_made (base := v.heap.size) (e := 85) (size := 2) v #[] 0 (Nat.le_refl _) (Nat.zero_le _) rfl).alloc _).drew) Sp n.props.length cp (n.props.flatMap propCells) (by rfl) (flat_length propCells_len _) HNONE.out hcur (flat_one propCells_one _) (by unfold maxLen; omega) (by omega) (by simp <;> omega) ?_
            intro A1 c1 w1 own1 hg1 hat1
            simp only [Nat.zero_add, List.nil_append] at own1 hat1
            clear hcur
            have hb1 : Below v.heap.size v w1 := ((((Below.refl v.heap.size v).alloc (Nat.le_refl _) (.cells #[] 85)).alloc (by simp) (.cells #[.string ⟨#[109, 97, 114, 107]⟩, .string ⟨#[]⟩] 85)).drew).grown hg1 (by simp; omega) (fun k hk => by simp [Value.ownBlock] at hk; omega)
            refine hK.out _ _ (fun _ => (Below.cell (hb1) hp).trans x4) ?_
            clear hK K
            try simp only [Act.put, List.setIfInBounds_toArray, Nat.zero_add]
            refine wpAnyX_one (i := 6) rfl (by kernel_rfl) (fun K hK => ?_)
            refine step_append_from _ (by rfl) (.tmp 24) (.tmp 26) _ (by rfl) v.heap.size 85 Try.underlying34 prop_info rfl (by omega) (.slice A1 n.props.length c1) n.props.length (n.props.flatMap propCells) (by rfl) (own1) (some ⟨v.heap.size + 1, 0, none⟩) 1 1 [markStr, .string ⟨#[]⟩] (by rfl) (by rfl) (by simp) (by intro ad e; cases e; exact news_cells (cs := #[.string ⟨#[109, 97, 114, 107]⟩, .string ⟨#[]⟩]) ((Blk.drew (Blk.new' (g := v.heap.size + 1) (by simp))).grown hg1 (by simp [Value.ownBlock]))) (by simp [markStr, Value.oneCell']) (by unfold maxLen; omega) (by omega) (hb1.size) ?_
            intro A2 c2 w2 own2 hg2 hat2
            have hb2 : Below v.heap.size v w2 := hb1.grown hg2 hb1.size (fun k hk => (own1.lt k hk).1)
            obtain ⟨g2, rfl, hc2, hc2', _, _⟩ := own_pos own2 (by omega)
            have hc3 : (n.props.length : Int) ≤ c2 := by omega
            have hc4 : n.props.length ≤ c2 := by omega
            refine hK.out _ _ (fun _ => (Below.cell hb2 hp).trans x4) ?_
            clear hK K
            try simp only [Act.put]
            refine wpAnyX_one (i := 10) rfl (by kernel_rfl) (fun K hK => ?_)
            go_simp
            refine hK.out _ _ (fun _ => (Below.cell hb2 hp).trans x4) ?_
            clear hK K
            try simp only [Act.put, List.setIfInBounds_toArray, List.set_cons_zero, List.set_cons_succ, Nat.zero_add]
            refine wpAnyX_one (i := 11) rfl (by kernel_rfl) (fun K hK => ?_)
            go_simp
            refine hK.out _ _ (fun _ => (Below.cell hb2 hp).trans x4) ?_
            clear hK K
            try simp only [Act.put, List.setIfInBounds_toArray, List.set_cons_zero, List.set_cons_succ, Nat.zero_add]
            refine wpAnyX_one (i := 12) rfl (by kernel_rfl) (fun K hK => ?_)
            have hx2 := (Below.cell hb2 hp).trans x4
            have hz2 := (Below.frozen (p := ⟨p, 4, none⟩) hb2 hp).trans (Blk.frozen HX.out 4)
            go_simp
            refine hK.out _ _ (fun h => absurd rfl h) ?_
            clear hK K
            try simp only [Act.put, List.setIfInBounds_toArray, List.set_cons_zero, List.set_cons_succ, Nat.zero_add]
            refine wpAnyX_done (by kernel_rfl) ?_ _
            have HR := Lib.hid (lent_row (j := 4) propCells_len (by omega) (by rfl) HX.out hb2 own2 (by rfl))
            go_wp2_with fail
            go_meet
            case rel => exact ⟨_, _, HR.out.1, by simpa using HR.out.2.1, HR.out.2.2⟩
        · go_simp
          refine hK.out _ _ (fun _ => (Below.cell (((Below.refl v.heap.size v).alloc (Nat.le_refl _) (.cells #[.string ⟨#[109, 97, 114, 107]⟩, .string ⟨#[]⟩] 85)).drew) hp).trans x4) ?_
          clear hK K
          try simp only [Act.put, List.setIfInBounds_toArray, List.set_cons_zero, List.set_cons_succ, Nat.zero_add]
          refine wpAnyX_one (i := 0) rfl (by kernel_rfl) (fun K hK => ?_)
          go_simp
          refine hK.out _ _ (fun _ => (Below.cell ((((Below.refl v.heap.size v).alloc (Nat.le_refl _) (.cells #[.string ⟨#[109, 97, 114, 107]⟩, .string ⟨#[]⟩] 85)).alloc (by simp) (.cells #[] 85)).drew) hp).trans x4) ?_
          clear hK K
          try simp only [Act.put, List.setIfInBounds_toArray, List.set_cons_zero, List.set_cons_succ, Nat.zero_add]
          refine wpAnyX_one (i := 3) rfl (by kernel_rfl) (fun K hK => ?_)
          have hcur := HC.out _ ((((Below.refl v.heap.size v).alloc (Nat.le_refl _) (.cells #[.string ⟨#[109, 97, 114, 107]⟩, .string ⟨#[]⟩] 85)).alloc (by simp) (.cells #[] 85)).drew)
          refine step_append_from _ (by rfl) (.tmp 21) (.tmp 23) _ (by rfl) v.heap.size 85 Try.underlying34 prop_info rfl (by omega) (.slice (some ⟨v.heap.size + 1, 0, none⟩) 0 0) 0 [] (by rfl) ((by simpa using (World.ownsRow_made (base := v.heap.size) (e := 85) (size := 2) (v.alloc (.cells #[.string ⟨#[109, 97, 114, 107]⟩, .string ⟨#[]⟩] 85)) #[] 0 (by simp) (Nat.zero_le _) rfl).drew)) Sp n.props.length cp (n.props.flatMap propCells) (by rfl) (flat_length propCells_len _) HNONE.out hcur (flat_one propCells_one _) (by unfold maxLen; omega) (by omega) (by simp <;> omega) ?_
          intro A1 c1 w1 own1 hg1 hat1
          simp only [Nat.zero_add, List.nil_append] at own1 hat1
          clear hcur
          have hb1 : Below v.heap.size v w1 := ((((Below.refl v.heap.size v).alloc (Nat.le_refl _) (.cells #[.string ⟨#[109, 97, 114, 107]⟩, .string ⟨#[]⟩] 85)).alloc (by simp) (.cells #[] 85)).drew).grown hg1 (by simp; omega) (fun k hk => by simp [Value.ownBlock] at hk; omega)
          refine hK.out _ _ (fun _ => (Below.cell (hb1) hp).trans x4) ?_
          clear hK K
          try simp only [Act.put, List.setIfInBounds_toArray, Nat.zero_add]
          refine wpAnyX_one (i := 6) rfl (by kernel_rfl) (fun K hK => ?_)
          refine step_append_from _ (by rfl) (.tmp 24) (.tmp 26) _ (by rfl) v.heap.size 85 Try.underlying34 prop_info rfl (by omega) (.slice A1 n.props.length c1) n.props.length (n.props.flatMap propCells) (by rfl) (own1) (some ⟨v.heap.size, 0, none⟩) 1 1 [markStr, .string ⟨#[]⟩] (by rfl) (by rfl) (by simp) (by intro ad e; cases e; exact news_cells (cs := #[.string ⟨#[109, 97, 114, 107]⟩, .string ⟨#[]⟩]) ((Blk.drew ((Blk.new v 85 #[.string ⟨#[109, 97, 114, 107]⟩, .string ⟨#[]⟩]).alloc _)).grown hg1 (by simp [Value.ownBlock]))) (by simp [markStr, Value.oneCell']) (by unfold maxLen; omega) (by omega) (hb1.size) ?_
          intro A2 c2 w2 own2 hg2 hat2
          have hb2 : Below v.heap.size v w2 := hb1.grown hg2 hb1.size (fun k hk => (own1.lt k hk).1)
          obtain ⟨g2, rfl, hc2, hc2', _, _⟩ := own_pos own2 (by omega)
          have hc3 : (n.props.length : Int) ≤ c2 := by omega
          have hc4 : n.props.length ≤ c2 := by omega
          refine hK.out _ _ (fun _ => (Below.cell hb2 hp).trans x4) ?_
          clear hK K
          try simp only [Act.put]
          refine wpAnyX_one (i := 10) rfl (by kernel_rfl) (fun K hK => ?_)
          go_simp
          refine hK.out _ _ (fun _ => (Below.cell hb2 hp).trans x4) ?_
          clear hK K
          try simp only [Act.put, List.setIfInBounds_toArray, List.set_cons_zero, List.set_cons_succ, Nat.zero_add]
          refine wpAnyX_one (i := 11) rfl (by kernel_rfl) (fun K hK => ?_)
          go_simp
          refine hK.out _ _ (fun _ => (Below.cell hb2 hp).trans x4) ?_
          clear hK K
          try simp only [Act.put, List.setIfInBounds_toArray, List.set_cons_zero, List.set_cons_succ, Nat.zero_add]
          refine wpAnyX_one (i := 12) rfl (by kernel_rfl) (fun K hK => ?_)
          have hx2 := (Below.cell hb2 hp).trans x4
          have hz2 := (Below.frozen (p := ⟨p, 4, none⟩) hb2 hp).trans (Blk.frozen HX.out 4)
          go_simp
          refine hK.out _ _ (fun h => absurd rfl h) ?_
          clear hK K
          try simp only [Act.put, List.setIfInBounds_toArray, List.set_cons_zero, List.set_cons_succ, Nat.zero_add]
          refine wpAnyX_done (by kernel_rfl) ?_ _
          have HR := Lib.hid (lent_row (j := 4) propCells_len (by omega) (by rfl) HX.out hb2 own2 (by rfl))
          go_wp2_with fail
          go_meet
          case rel => exact ⟨_, _, HR.out.1, by simpa using HR.out.2.1, HR.out.2.2⟩
      case rest =>
        obtain ⟨B1, e1, hk1, hx1, hrow1⟩ := hcut
        have hpp := HX.out.lt
        have hpw : w.heap.size + 3 ≤ p := by have := HP.out; omega
        have HBV' := Lib.hid (HBV.out.trans (hk1.below (by omega) HBV.out.size))
        have HV0' := Lib.hid (HV0.out.trans (hk1.below (by have := HP.out; omega) HV0.out.size))
        have HW1' := Lib.hid hrow1
        have hpl1 : p < v.heap.size := hpp
        have HX' := Lib.hid hx1
        clear hk1 hx1 hrow1 HBV HV0 HX HVS
        obtain ⟨v0, rfl⟩ : ∃ v0 : World, v0 = v := ⟨_, rfl⟩
        obtain ⟨v, rfl⟩ : ∃ v : World, v = wc := ⟨_, rfl⟩
        have HBV := HBV'; have HV0 := HV0'; have HX := HX'
        have HW1 := HW1'
        clear HBV' HV0' HX' HW1'
        go_upto_region 7 with fail
        go_cut [] (fun wx => ∃ (B2 : Option Addr) (e2 : Nat), KeptBut p v wx ∧ Blk wx p 38 #[.int .i64 n.id, .string n.concept, .int .i64 n.parent, .string n.role, .slice B1 n.props.length e1, .slice B2 n.kids.length e2, .slice Sr n.refs.length cr] ∧ IsRowM 1 EInt (.int .i64 (-7)) wx (fun b => v.heap.size ≤ b ∧ b < wx.heap.size) (.slice B2 n.kids.length e2) n.kids)
        case first => as_aux_lemma =>
          have x5 := HX.out.cell 5
          have hp := HX.out.lt
          simp at x5
          have HC : Hid (∀ w', Below v.heap.size v w' → ∀ ad, Sk = some ad → ∀ j u, (n.kids.flatMap intCells)[j]? = some u → w'.cell? (ad.add j) = some u) := Lib.hid (fun w' hb ad hA => (RowOf.keep EInt.stays (F' := F) (Keep.below (HBV.out.trans (hb.mono HBV.out.size)) hF) (fun _ h => h) HR1.out).cellsFrom intCells_len ad hA)
          have HNONE := Lib.hid (show Sk = none → n.kids.length = 0 from fun e => by have h0 := HR1.out; subst e; rw [h0.none_nil]; rfl)
          refine wp_region_X (S := (fun w' => w'.cell? ⟨p, 5, none⟩ = some (.slice Sk n.kids.length ck))) 11 (by kernel_rfl) (by exact x5) (fun hHeld => ?_)
          refine wpAnyX_take (i := 1) (v := ?_) rfl (by kernel_rfl) (by kernel_rfl) (by kernel_rfl) (by kernel_rfl) (fun _ _ _ h => h) (Or.inl ⟨by rfl, ?_⟩) (by assumption) ?_
          rotate_left 1
          · (intro w' hSw; go_simp); try with_reducible rfl
          try simp only [Act.put, List.setIfInBounds_toArray]
          refine wpAnyX_take (i := 2) (v := ?_) rfl (by kernel_rfl) (by kernel_rfl) (by kernel_rfl) (by kernel_rfl) (fun _ _ _ h => h) (Or.inl ⟨by rfl, ?_⟩) (by assumption) ?_
          rotate_left 1
          · (intro w' hSw; go_simp); try with_reducible rfl
          try simp only [Act.put]
          refine wpAnyX_take (i := 6) (v := ?_) rfl (by kernel_rfl) (by kernel_rfl) (by kernel_rfl) (by kernel_rfl) (fun _ _ _ h => h) (Or.inl ⟨by rfl, ?_⟩) (by assumption) ?_
          rotate_left 1
          · (intro w' hSw; go_simp); try with_reducible rfl
          try simp only [Act.put]
          refine wpAnyX_take (i := 7) (v := ?_) rfl (by kernel_rfl) (by kernel_rfl) (by kernel_rfl) (by kernel_rfl) (fun _ _ _ h => h) (Or.inl ⟨by rfl, ?_⟩) (by assumption) ?_
          rotate_left 1
          · (intro w' hSw; go_simp); try with_reducible rfl
          try simp only [Act.put]
          refine wpAnyX_take (i := 8) (v := ?_) rfl (by kernel_rfl) (by kernel_rfl) (by kernel_rfl) (by kernel_rfl) (fun _ _ _ h => h) (Or.inl ⟨by rfl, ?_⟩) (by assumption) ?_
          rotate_left 1
          · (intro w' hSw; go_simp); try with_reducible rfl
          try simp only [Act.put]
          refine wpAnyX_two (i := 0) (j := 4) rfl rfl (by kernel_rfl) (fun K hK => ?_) (fun K hK => ?_)
          · go_simp
            refine hK.out _ _ (fun _ => (Below.cell (((Below.refl v.heap.size v).alloc (Nat.le_refl _) (.cells #[] 3)).drew) hp).trans x5) ?_
            clear hK K
            try simp only [Act.put, List.setIfInBounds_toArray, List.set_cons_zero, List.set_cons_succ, Nat.zero_add]
            refine wpAnyX_two (i := 3) (j := 4) rfl rfl (by kernel_rfl) (fun K hK => ?_) (fun K hK => ?_)
            · have hcur := HC.out _ (((Below.refl v.heap.size v).alloc (Nat.le_refl _) (.cells #[] 3)).drew)
              refine step_append_from _ (by rfl) (.tmp 33) (.tmp 35) _ (by rfl) v.heap.size 3 Try.underlying35 int_info rfl (by omega) (.slice (some ⟨v.heap.size, 0, none⟩) 0 0) 0 [] (by rfl) ((World.ownsRow_made (base := v.heap.size) (e := 3) (size := 1) v #[] 0 (Nat.le_refl _) (Nat.zero_le _) rfl).drew) Sk n.kids.length ck (n.kids.flatMap intCells) (by rfl) (flat_length intCells_len _) HNONE.out hcur (flat_one intCells_one _) (by unfold maxLen; omega) (by omega) (by simp <;> omega) ?_
              intro A1 c1 w1 own1 hg1 hat1
              simp only [Nat.zero_add, List.nil_append] at own1 hat1
              clear hcur
              have hb1 : Below v.heap.size v w1 := (((Below.refl v.heap.size v).alloc (Nat.le_refl _) (.cells #[] 3)).drew).grown hg1 (by simp) (fun k hk => by simp [Value.ownBlock] at hk; omega)
              refine hK.out _ _ (fun _ => (Below.cell (hb1) hp).trans x5) ?_
              clear hK K
              try simp only [Act.put, List.setIfInBounds_toArray, Nat.zero_add]
              refine wpAnyX_one (i := 4) rfl (by kernel_rfl) (fun K hK => ?_)
              go_simp
              refine hK.out _ _ (fun _ => (Below.cell ((hb1.alloc hb1.size _)) hp).trans x5) ?_
              clear hK K
              try simp only [Act.put, List.setIfInBounds_toArray, List.set_cons_zero, List.set_cons_succ, Nat.zero_add]
              refine wpAnyX_one (i := 5) rfl (by kernel_rfl) (fun K hK => ?_)
              refine step_append_from _ (by rfl) (.tmp 36) (.tmp 37) _ (by rfl) v.heap.size 3 Try.underlying35 int_info rfl (by omega) (.slice A1 n.kids.length c1) n.kids.length (n.kids.flatMap intCells) (by rfl) (own1.alloc _) (some ⟨w1.heap.size, 0, none⟩) 1 1 [.int .i64 (-7)] (by rfl) (by rfl) (by simp) (by intro ad e; cases e; exact news_cells (cs := #[.int .i64 (-7)]) (Blk.new _ _ _)) (by simp [Value.oneCell']) (by unfold maxLen; omega) (by omega) (by have := hb1.size; simp; omega) ?_
              intro A2 c2 w2 own2 hg2 hat2
              have hb2 : Below v.heap.size v w2 := (hb1.alloc hb1.size _).grown hg2 (by have := hb1.size; simp; omega) (fun k hk => (own1.lt k hk).1)
              obtain ⟨g2, rfl, hc2, hc2', _, _⟩ := own_pos own2 (by omega)
              have hc3 : (n.kids.length : Int) ≤ c2 := by omega
              have hc4 : n.kids.length ≤ c2 := by omega
              refine hK.out _ _ (fun _ => (Below.cell hb2 hp).trans x5) ?_
              clear hK K
              try simp only [Act.put, List.setIfInBounds_toArray]
              refine wpAnyX_one (i := 9) rfl (by kernel_rfl) (fun K hK => ?_)
              go_simp
              refine hK.out _ _ (fun _ => (Below.cell hb2 hp).trans x5) ?_
              clear hK K
              try simp only [Act.put, List.setIfInBounds_toArray, List.set_cons_zero, List.set_cons_succ, Nat.zero_add]
              refine wpAnyX_one (i := 10) rfl (by kernel_rfl) (fun K hK => ?_)
              go_simp
              refine hK.out _ _ (fun _ => (Below.cell hb2 hp).trans x5) ?_
              clear hK K
              try simp only [Act.put, List.setIfInBounds_toArray, List.set_cons_zero, List.set_cons_succ, Nat.zero_add]
              refine wpAnyX_one (i := 11) rfl (by kernel_rfl) (fun K hK => ?_)
              have hx2 := (Below.cell hb2 hp).trans x5
              have hz2 := (Below.frozen (p := ⟨p, 5, none⟩) hb2 hp).trans (Blk.frozen HX.out 5)
              go_simp
              refine hK.out _ _ (fun h => absurd rfl h) ?_
              clear hK K
              try simp only [Act.put, List.setIfInBounds_toArray, List.set_cons_zero, List.set_cons_succ, Nat.zero_add]
              refine wpAnyX_done (by kernel_rfl) ?_ _
              have HR := Lib.hid (lent_row (j := 5) intCells_len (by omega) (by rfl) HX.out hb2 own2 (by rfl))
              go_wp2_with fail
              go_meet
              case rel => exact ⟨_, _, HR.out.1, by simpa using HR.out.2.1, HR.out.2.2⟩
            · go_simp
              refine hK.out _ _ (fun _ => (Below.cell ((((Below.refl v.heap.size v).alloc (Nat.le_refl _) (.cells #[] 3)).alloc (by simp) (.cells #[.int .i64 (-7)] 3)).drew) hp).trans x5) ?_
              clear hK K
              try simp only [Act.put, List.setIfInBounds_toArray, List.set_cons_zero, List.set_cons_succ, Nat.zero_add]
              refine wpAnyX_one (i := 3) rfl (by kernel_rfl) (fun K hK => ?_)
              have hcur := HC.out _ ((((Below.refl v.heap.size v).alloc (Nat.le_refl _) (.cells #[] 3)).alloc (by simp) (.cells #[.int .i64 (-7)] 3)).drew)
              refine step_append_from _ (by rfl) (.tmp 33) (.tmp 35) _ (by rfl) v.heap.size 3 Try.underlying35 int_info rfl (by omega) (.slice (some ⟨v.heap.size, 0, none⟩) 0 0) 0 [] (by rfl) (((World.ownsRow_made (base := v.heap.size) (e := 3) (size := 1) v #[] 0 (Nat.le_refl _) (Nat.zero_le _) rfl).alloc _).drew) Sk n.kids.length ck (n.kids.flatMap intCells) (by rfl) (flat_length intCells_len _) HNONE.out hcur (flat_one intCells_one _) (by unfold maxLen; omega) (by omega) (by simp <;> omega) ?_
              intro A1 c1 w1 own1 hg1 hat1
              simp only [Nat.zero_add, List.nil_append] at own1 hat1
              clear hcur
              have hb1 : Below v.heap.size v w1 := ((((Below.refl v.heap.size v).alloc (Nat.le_refl _) (.cells #[] 3)).alloc (by simp) (.cells #[.int .i64 (-7)] 3)).drew).grown hg1 (by simp; omega) (fun k hk => by simp [Value.ownBlock] at hk; omega)
              refine hK.out _ _ (fun _ => (Below.cell (hb1) hp).trans x5) ?_
              clear hK K
              try simp only [Act.put, List.setIfInBounds_toArray, Nat.zero_add]
              refine wpAnyX_one (i := 5) rfl (by kernel_rfl) (fun K hK => ?_)
              refine step_append_from _ (by rfl) (.tmp 36) (.tmp 37) _ (by rfl) v.heap.size 3 Try.underlying35 int_info rfl (by omega) (.slice A1 n.kids.length c1) n.kids.length (n.kids.flatMap intCells) (by rfl) (own1) (some ⟨v.heap.size + 1, 0, none⟩) 1 1 [.int .i64 (-7)] (by rfl) (by rfl) (by simp) (by intro ad e; cases e; exact news_cells (cs := #[.int .i64 (-7)]) ((Blk.drew (Blk.new' (g := v.heap.size + 1) (by simp))).grown hg1 (by simp [Value.ownBlock]))) (by simp [Value.oneCell']) (by unfold maxLen; omega) (by omega) (hb1.size) ?_
              intro A2 c2 w2 own2 hg2 hat2
              have hb2 : Below v.heap.size v w2 := hb1.grown hg2 hb1.size (fun k hk => (own1.lt k hk).1)
              obtain ⟨g2, rfl, hc2, hc2', _, _⟩ := own_pos own2 (by omega)
              have hc3 : (n.kids.length : Int) ≤ c2 := by omega
              have hc4 : n.kids.length ≤ c2 := by omega
              refine hK.out _ _ (fun _ => (Below.cell hb2 hp).trans x5) ?_
              clear hK K
              try simp only [Act.put]
              refine wpAnyX_one (i := 9) rfl (by kernel_rfl) (fun K hK => ?_)
              go_simp
              refine hK.out _ _ (fun _ => (Below.cell hb2 hp).trans x5) ?_
              clear hK K
              try simp only [Act.put, List.setIfInBounds_toArray, List.set_cons_zero, List.set_cons_succ, Nat.zero_add]
              refine wpAnyX_one (i := 10) rfl (by kernel_rfl) (fun K hK => ?_)
              go_simp
              refine hK.out _ _ (fun _ => (Below.cell hb2 hp).trans x5) ?_
              clear hK K
              try simp only [Act.put, List.setIfInBounds_toArray, List.set_cons_zero, List.set_cons_succ, Nat.zero_add]
              refine wpAnyX_one (i := 11) rfl (by kernel_rfl) (fun K hK => ?_)
              have hx2 := (Below.cell hb2 hp).trans x5
              have hz2 := (Below.frozen (p := ⟨p, 5, none⟩) hb2 hp).trans (Blk.frozen HX.out 5)
              go_simp
              refine hK.out _ _ (fun h => absurd rfl h) ?_
              clear hK K
              try simp only [Act.put, List.setIfInBounds_toArray, List.set_cons_zero, List.set_cons_succ, Nat.zero_add]
              refine wpAnyX_done (by kernel_rfl) ?_ _
              have HR := Lib.hid (lent_row (j := 5) intCells_len (by omega) (by rfl) HX.out hb2 own2 (by rfl))
              go_wp2_with fail
              go_meet
              case rel => exact ⟨_, _, HR.out.1, by simpa using HR.out.2.1, HR.out.2.2⟩
          · go_simp
            refine hK.out _ _ (fun _ => (Below.cell (((Below.refl v.heap.size v).alloc (Nat.le_refl _) (.cells #[.int .i64 (-7)] 3)).drew) hp).trans x5) ?_
            clear hK K
            try simp only [Act.put, List.setIfInBounds_toArray, List.set_cons_zero, List.set_cons_succ, Nat.zero_add]
            refine wpAnyX_one (i := 0) rfl (by kernel_rfl) (fun K hK => ?_)
            go_simp
            refine hK.out _ _ (fun _ => (Below.cell ((((Below.refl v.heap.size v).alloc (Nat.le_refl _) (.cells #[.int .i64 (-7)] 3)).alloc (by simp) (.cells #[] 3)).drew) hp).trans x5) ?_
            clear hK K
            try simp only [Act.put, List.setIfInBounds_toArray, List.set_cons_zero, List.set_cons_succ, Nat.zero_add]
            refine wpAnyX_one (i := 3) rfl (by kernel_rfl) (fun K hK => ?_)
            have hcur := HC.out _ ((((Below.refl v.heap.size v).alloc (Nat.le_refl _) (.cells #[.int .i64 (-7)] 3)).alloc (by simp) (.cells #[] 3)).drew)
            refine step_append_from _ (by rfl) (.tmp 33) (.tmp 35) _ (by rfl) v.heap.size 3 Try.underlying35 int_info rfl (by omega) (.slice (some ⟨v.heap.size + 1, 0, none⟩) 0 0) 0 [] (by rfl) ((by simpa using (World.ownsRow_made (base := v.heap.size) (e := 3) (size := 1) (v.alloc (.cells #[.int .i64 (-7)] 3)) #[] 0 (by simp) (Nat.zero_le _) rfl).drew)) Sk n.kids.length ck (n.kids.flatMap intCells) (by rfl) (flat_length intCells_len _) HNONE.out hcur (flat_one intCells_one _) (by unfold maxLen; omega) (by omega) (by simp <;> omega) ?_
            intro A1 c1 w1 own1 hg1 hat1
            simp only [Nat.zero_add, List.nil_append] at own1 hat1
            clear hcur
            have hb1 : Below v.heap.size v w1 := ((((Below.refl v.heap.size v).alloc (Nat.le_refl _) (.cells #[.int .i64 (-7)] 3)).alloc (by simp) (.cells #[] 3)).drew).grown hg1 (by simp; omega) (fun k hk => by simp [Value.ownBlock] at hk; omega)
            refine hK.out _ _ (fun _ => (Below.cell (hb1) hp).trans x5) ?_
            clear hK K
            try simp only [Act.put, List.setIfInBounds_toArray, Nat.zero_add]
            refine wpAnyX_one (i := 5) rfl (by kernel_rfl) (fun K hK => ?_)
            refine step_append_from _ (by rfl) (.tmp 36) (.tmp 37) _ (by rfl) v.heap.size 3 Try.underlying35 int_info rfl (by omega) (.slice A1 n.kids.length c1) n.kids.length (n.kids.flatMap intCells) (by rfl) (own1) (some ⟨v.heap.size, 0, none⟩) 1 1 [.int .i64 (-7)] (by rfl) (by rfl) (by simp) (by intro ad e; cases e; exact news_cells (cs := #[.int .i64 (-7)]) ((Blk.drew ((Blk.new v 3 #[.int .i64 (-7)]).alloc _)).grown hg1 (by simp [Value.ownBlock]))) (by simp [Value.oneCell']) (by unfold maxLen; omega) (by omega) (hb1.size) ?_
            intro A2 c2 w2 own2 hg2 hat2
            have hb2 : Below v.heap.size v w2 := hb1.grown hg2 hb1.size (fun k hk => (own1.lt k hk).1)
            obtain ⟨g2, rfl, hc2, hc2', _, _⟩ := own_pos own2 (by omega)
            have hc3 : (n.kids.length : Int) ≤ c2 := by omega
            have hc4 : n.kids.length ≤ c2 := by omega
            refine hK.out _ _ (fun _ => (Below.cell hb2 hp).trans x5) ?_
            clear hK K
            try simp only [Act.put]
            refine wpAnyX_one (i := 9) rfl (by kernel_rfl) (fun K hK => ?_)
            go_simp
            refine hK.out _ _ (fun _ => (Below.cell hb2 hp).trans x5) ?_
            clear hK K
            try simp only [Act.put, List.setIfInBounds_toArray, List.set_cons_zero, List.set_cons_succ, Nat.zero_add]
            refine wpAnyX_one (i := 10) rfl (by kernel_rfl) (fun K hK => ?_)
            go_simp
            refine hK.out _ _ (fun _ => (Below.cell hb2 hp).trans x5) ?_
            clear hK K
            try simp only [Act.put, List.setIfInBounds_toArray, List.set_cons_zero, List.set_cons_succ, Nat.zero_add]
            refine wpAnyX_one (i := 11) rfl (by kernel_rfl) (fun K hK => ?_)
            have hx2 := (Below.cell hb2 hp).trans x5
            have hz2 := (Below.frozen (p := ⟨p, 5, none⟩) hb2 hp).trans (Blk.frozen HX.out 5)
            go_simp
            refine hK.out _ _ (fun h => absurd rfl h) ?_
            clear hK K
            try simp only [Act.put, List.setIfInBounds_toArray, List.set_cons_zero, List.set_cons_succ, Nat.zero_add]
            refine wpAnyX_done (by kernel_rfl) ?_ _
            have HR := Lib.hid (lent_row (j := 5) intCells_len (by omega) (by rfl) HX.out hb2 own2 (by rfl))
            go_wp2_with fail
            go_meet
            case rel => exact ⟨_, _, HR.out.1, by simpa using HR.out.2.1, HR.out.2.2⟩
        case rest =>
          obtain ⟨B2, e2, hk2, hx2, hrow2⟩ := hcut
          have hpp := HX.out.lt
          have hpw : w.heap.size + 3 ≤ p := by have := HP.out; omega
          have HBV' := Lib.hid (HBV.out.trans (hk2.below (by omega) HBV.out.size))
          have HV0' := Lib.hid (HV0.out.trans (hk2.below (by have := HP.out; omega) HV0.out.size))
          have HW1' := Lib.hid (lent_keep HW1.out hk2 (by assumption))
          have HW2' := Lib.hid hrow2
          have hpl2 : p < v.heap.size := hpp
          have HX' := Lib.hid hx2
          clear hk2 hx2 hrow2 HBV HV0 HX HW1
          obtain ⟨v1, rfl⟩ : ∃ v1 : World, v1 = v := ⟨_, rfl⟩
          obtain ⟨v, rfl⟩ : ∃ v : World, v = wc := ⟨_, rfl⟩
          have HBV := HBV'; have HV0 := HV0'; have HX := HX'
          have HW1 := HW1'
          have HW2 := HW2'
          clear HBV' HV0' HX' HW1' HW2'
          go_upto_region 8 with fail
          go_cut [] (fun wx => ∃ (B3 : Option Addr) (e3 : Nat), KeptBut p v wx ∧ Blk wx p 38 #[.int .i64 n.id, .string n.concept, .int .i64 n.parent, .string n.role, .slice B1 n.props.length e1, .slice B2 n.kids.length e2, .slice B3 n.refs.length e3] ∧ IsRowM 2 ERef (markStr) wx (fun b => v.heap.size ≤ b ∧ b < wx.heap.size) (.slice B3 n.refs.length e3) n.refs)
          case first => as_aux_lemma =>
            have x6 := HX.out.cell 6
            have hp := HX.out.lt
            simp at x6
            have HC : Hid (∀ w', Below v.heap.size v w' → ∀ ad, Sr = some ad → ∀ j u, (n.refs.flatMap refCells)[j]? = some u → w'.cell? (ad.add j) = some u) := Lib.hid (fun w' hb ad hA => (RowOf.keep ERef.stays (F' := F) (Keep.below (HBV.out.trans (hb.mono HBV.out.size)) hF) (fun _ h => h) HR2.out).cellsFrom refCells_len ad hA)
            have HNONE := Lib.hid (show Sr = none → n.refs.length = 0 from fun e => by have h0 := HR2.out; subst e; rw [h0.none_nil]; rfl)
            refine wp_region_X (S := (fun w' => w'.cell? ⟨p, 6, none⟩ = some (.slice Sr n.refs.length cr))) 12 (by kernel_rfl) (by exact x6) (fun hHeld => ?_)
            refine wpAnyX_take (i := 1) (v := ?_) rfl (by kernel_rfl) (by kernel_rfl) (by kernel_rfl) (by kernel_rfl) (fun _ _ _ h => h) (Or.inl ⟨by rfl, ?_⟩) (by assumption) ?_
            rotate_left 1
            · (intro w' hSw; go_simp); try with_reducible rfl
            try simp only [Act.put, List.setIfInBounds_toArray]
            refine wpAnyX_take (i := 2) (v := ?_) rfl (by kernel_rfl) (by kernel_rfl) (by kernel_rfl) (by kernel_rfl) (fun _ _ _ h => h) (Or.inl ⟨by rfl, ?_⟩) (by assumption) ?_
            rotate_left 1
            · (intro w' hSw; go_simp); try with_reducible rfl
            try simp only [Act.put]
            refine wpAnyX_take (i := 4) (v := ?_) rfl (by kernel_rfl) (by kernel_rfl) (by kernel_rfl) (by kernel_rfl) (fun _ _ _ h => h) (Or.inl ⟨by rfl, ?_⟩) (by assumption) ?_
            rotate_left 1
            · (intro w' hSw; go_simp); try with_reducible rfl
            try simp only [Act.put]
            refine wpAnyX_take (i := 7) (v := ?_) rfl (by kernel_rfl) (by kernel_rfl) (by kernel_rfl) (by kernel_rfl) (fun _ _ _ h => h) (Or.inl ⟨by rfl, ?_⟩) (by assumption) ?_
            rotate_left 1
            · (intro w' hSw; go_simp); try with_reducible rfl
            try simp only [Act.put]
            refine wpAnyX_take (i := 8) (v := ?_) rfl (by kernel_rfl) (by kernel_rfl) (by kernel_rfl) (by kernel_rfl) (fun _ _ _ h => h) (Or.inl ⟨by rfl, ?_⟩) (by assumption) ?_
            rotate_left 1
            · (intro w' hSw; go_simp); try with_reducible rfl
            try simp only [Act.put]
            refine wpAnyX_take (i := 9) (v := ?_) rfl (by kernel_rfl) (by kernel_rfl) (by kernel_rfl) (by kernel_rfl) (fun _ _ _ h => h) (Or.inl ⟨by rfl, ?_⟩) (by assumption) ?_
            rotate_left 1
            · (intro w' hSw; go_simp); try with_reducible rfl
            try simp only [Act.put]
            refine wpAnyX_two (i := 0) (j := 5) rfl rfl (by kernel_rfl) (fun K hK => ?_) (fun K hK => ?_)
            · go_simp
              refine hK.out _ _ (fun _ => (Below.cell (((Below.refl v.heap.size v).alloc (Nat.le_refl _) (.cells #[] 82)).drew) hp).trans x6) ?_
              clear hK K
              try simp only [Act.put, List.setIfInBounds_toArray, List.set_cons_zero, List.set_cons_succ, Nat.zero_add]
              refine wpAnyX_two (i := 3) (j := 5) rfl rfl (by kernel_rfl) (fun K hK => ?_) (fun K hK => ?_)
              · have hcur := HC.out _ (((Below.refl v.heap.size v).alloc (Nat.le_refl _) (.cells #[] 82)).drew)
                refine step_append_from _ (by rfl) (.tmp 44) (.tmp 46) _ (by rfl) v.heap.size 82 Try.underlying36 ref_info rfl (by omega) (.slice (some ⟨v.heap.size, 0, none⟩) 0 0) 0 [] (by rfl) ((World.ownsRow_made (base := v.heap.size) (e := 82) (size := 2) v #[] 0 (Nat.le_refl _) (Nat.zero_le _) rfl).drew) Sr n.refs.length cr (n.refs.flatMap refCells) (by rfl) (flat_length refCells_len _) HNONE.out hcur (flat_one refCells_one _) (by unfold maxLen; omega) (by omega) (by simp <;> omega) ?_
                intro A1 c1 w1 own1 hg1 hat1
                simp only [Nat.zero_add, List.nil_append] at own1 hat1
                clear hcur
                have hb1 : Below v.heap.size v w1 := (((Below.refl v.heap.size v).alloc (Nat.le_refl _) (.cells #[] 82)).drew).grown hg1 (by simp) (fun k hk => by simp [Value.ownBlock] at hk; omega)
                refine hK.out _ _ (fun _ => (Below.cell (hb1) hp).trans x6) ?_
                clear hK K
                try simp only [Act.put, List.setIfInBounds_toArray, Nat.zero_add]
                refine wpAnyX_one (i := 5) rfl (by kernel_rfl) (fun K hK => ?_)
                go_simp
                refine hK.out _ _ (fun _ => (Below.cell ((hb1.alloc hb1.size _)) hp).trans x6) ?_
                clear hK K
                try simp only [Act.put, List.setIfInBounds_toArray, List.set_cons_zero, List.set_cons_succ, Nat.zero_add]
                refine wpAnyX_one (i := 6) rfl (by kernel_rfl) (fun K hK => ?_)
                refine step_append_from _ (by rfl) (.tmp 47) (.tmp 49) _ (by rfl) v.heap.size 82 Try.underlying36 ref_info rfl (by omega) (.slice A1 n.refs.length c1) n.refs.length (n.refs.flatMap refCells) (by rfl) (own1.alloc _) (some ⟨w1.heap.size, 0, none⟩) 1 1 [markStr, .int .i64 0] (by rfl) (by rfl) (by simp) (by intro ad e; cases e; exact news_cells (cs := #[.string ⟨#[109, 97, 114, 107]⟩, .int .i64 0]) (Blk.new _ _ _)) (by simp [markStr, Value.oneCell']) (by unfold maxLen; omega) (by omega) (by have := hb1.size; simp; omega) ?_
                intro A2 c2 w2 own2 hg2 hat2
                have hb2 : Below v.heap.size v w2 := (hb1.alloc hb1.size _).grown hg2 (by have := hb1.size; simp; omega) (fun k hk => (own1.lt k hk).1)
                obtain ⟨g2, rfl, hc2, hc2', _, _⟩ := own_pos own2 (by omega)
                have hc3 : (n.refs.length : Int) ≤ c2 := by omega
                have hc4 : n.refs.length ≤ c2 := by omega
                refine hK.out _ _ (fun _ => (Below.cell hb2 hp).trans x6) ?_
                clear hK K
                try simp only [Act.put, List.setIfInBounds_toArray]
                refine wpAnyX_one (i := 10) rfl (by kernel_rfl) (fun K hK => ?_)
                go_simp
                refine hK.out _ _ (fun _ => (Below.cell hb2 hp).trans x6) ?_
                clear hK K
                try simp only [Act.put, List.setIfInBounds_toArray, List.set_cons_zero, List.set_cons_succ, Nat.zero_add]
                refine wpAnyX_one (i := 11) rfl (by kernel_rfl) (fun K hK => ?_)
                go_simp
                refine hK.out _ _ (fun _ => (Below.cell hb2 hp).trans x6) ?_
                clear hK K
                try simp only [Act.put, List.setIfInBounds_toArray, List.set_cons_zero, List.set_cons_succ, Nat.zero_add]
                refine wpAnyX_one (i := 12) rfl (by kernel_rfl) (fun K hK => ?_)
                have hx2 := (Below.cell hb2 hp).trans x6
                have hz2 := (Below.frozen (p := ⟨p, 6, none⟩) hb2 hp).trans (Blk.frozen HX.out 6)
                go_simp
                refine hK.out _ _ (fun h => absurd rfl h) ?_
                clear hK K
                try simp only [Act.put, List.setIfInBounds_toArray, List.set_cons_zero, List.set_cons_succ, Nat.zero_add]
                refine wpAnyX_done (by kernel_rfl) ?_ _
                have HR := Lib.hid (lent_row (j := 6) refCells_len (by omega) (by rfl) HX.out hb2 own2 (by rfl))
                go_wp2_with fail
                go_meet
                case rel => exact ⟨_, _, HR.out.1, by simpa using HR.out.2.1, HR.out.2.2⟩
              · go_simp
                refine hK.out _ _ (fun _ => (Below.cell ((((Below.refl v.heap.size v).alloc (Nat.le_refl _) (.cells #[] 82)).alloc (by simp) (.cells #[.string ⟨#[109, 97, 114, 107]⟩, .int .i64 0] 82)).drew) hp).trans x6) ?_
                clear hK K
                try simp only [Act.put, List.setIfInBounds_toArray, List.set_cons_zero, List.set_cons_succ, Nat.zero_add]
                refine wpAnyX_one (i := 3) rfl (by kernel_rfl) (fun K hK => ?_)
                have hcur := HC.out _ ((((Below.refl v.heap.size v).alloc (Nat.le_refl _) (.cells #[] 82)).alloc (by simp) (.cells #[.string ⟨#[109, 97, 114, 107]⟩, .int .i64 0] 82)).drew)
                refine step_append_from _ (by rfl) (.tmp 44) (.tmp 46) _ (by rfl) v.heap.size 82 Try.underlying36 ref_info rfl (by omega) (.slice (some ⟨v.heap.size, 0, none⟩) 0 0) 0 [] (by rfl) (((World.ownsRow_made (base := v.heap.size) (e := 82) (size := 2) v #[] 0 (Nat.le_refl _) (Nat.zero_le _) rfl).alloc _).drew) Sr n.refs.length cr (n.refs.flatMap refCells) (by rfl) (flat_length refCells_len _) HNONE.out hcur (flat_one refCells_one _) (by unfold maxLen; omega) (by omega) (by simp <;> omega) ?_
                intro A1 c1 w1 own1 hg1 hat1
                simp only [Nat.zero_add, List.nil_append] at own1 hat1
                clear hcur
                have hb1 : Below v.heap.size v w1 := ((((Below.refl v.heap.size v).alloc (Nat.le_refl _) (.cells #[] 82)).alloc (by simp) (.cells #[.string ⟨#[109, 97, 114, 107]⟩, .int .i64 0] 82)).drew).grown hg1 (by simp; omega) (fun k hk => by simp [Value.ownBlock] at hk; omega)
                refine hK.out _ _ (fun _ => (Below.cell (hb1) hp).trans x6) ?_
                clear hK K
                try simp only [Act.put, List.setIfInBounds_toArray, Nat.zero_add]
                refine wpAnyX_one (i := 6) rfl (by kernel_rfl) (fun K hK => ?_)
                refine step_append_from _ (by rfl) (.tmp 47) (.tmp 49) _ (by rfl) v.heap.size 82 Try.underlying36 ref_info rfl (by omega) (.slice A1 n.refs.length c1) n.refs.length (n.refs.flatMap refCells) (by rfl) (own1) (some ⟨v.heap.size + 1, 0, none⟩) 1 1 [markStr, .int .i64 0] (by rfl) (by rfl) (by simp) (by intro ad e; cases e; exact news_cells (cs := #[.string ⟨#[109, 97, 114, 107]⟩, .int .i64 0]) ((Blk.drew (Blk.new' (g := v.heap.size + 1) (by simp))).grown hg1 (by simp [Value.ownBlock]))) (by simp [markStr, Value.oneCell']) (by unfold maxLen; omega) (by omega) (hb1.size) ?_
                intro A2 c2 w2 own2 hg2 hat2
                have hb2 : Below v.heap.size v w2 := hb1.grown hg2 hb1.size (fun k hk => (own1.lt k hk).1)
                obtain ⟨g2, rfl, hc2, hc2', _, _⟩ := own_pos own2 (by omega)
                have hc3 : (n.refs.length : Int) ≤ c2 := by omega
                have hc4 : n.refs.length ≤ c2 := by omega
                refine hK.out _ _ (fun _ => (Below.cell hb2 hp).trans x6) ?_
                clear hK K
                try simp only [Act.put]
                refine wpAnyX_one (i := 10) rfl (by kernel_rfl) (fun K hK => ?_)
                go_simp
                refine hK.out _ _ (fun _ => (Below.cell hb2 hp).trans x6) ?_
                clear hK K
                try simp only [Act.put, List.setIfInBounds_toArray, List.set_cons_zero, List.set_cons_succ, Nat.zero_add]
                refine wpAnyX_one (i := 11) rfl (by kernel_rfl) (fun K hK => ?_)
                go_simp
                refine hK.out _ _ (fun _ => (Below.cell hb2 hp).trans x6) ?_
                clear hK K
                try simp only [Act.put, List.setIfInBounds_toArray, List.set_cons_zero, List.set_cons_succ, Nat.zero_add]
                refine wpAnyX_one (i := 12) rfl (by kernel_rfl) (fun K hK => ?_)
                have hx2 := (Below.cell hb2 hp).trans x6
                have hz2 := (Below.frozen (p := ⟨p, 6, none⟩) hb2 hp).trans (Blk.frozen HX.out 6)
                go_simp
                refine hK.out _ _ (fun h => absurd rfl h) ?_
                clear hK K
                try simp only [Act.put, List.setIfInBounds_toArray, List.set_cons_zero, List.set_cons_succ, Nat.zero_add]
                refine wpAnyX_done (by kernel_rfl) ?_ _
                have HR := Lib.hid (lent_row (j := 6) refCells_len (by omega) (by rfl) HX.out hb2 own2 (by rfl))
                go_wp2_with fail
                go_meet
                case rel => exact ⟨_, _, HR.out.1, by simpa using HR.out.2.1, HR.out.2.2⟩
            · go_simp
              refine hK.out _ _ (fun _ => (Below.cell (((Below.refl v.heap.size v).alloc (Nat.le_refl _) (.cells #[.string ⟨#[109, 97, 114, 107]⟩, .int .i64 0] 82)).drew) hp).trans x6) ?_
              clear hK K
              try simp only [Act.put, List.setIfInBounds_toArray, List.set_cons_zero, List.set_cons_succ, Nat.zero_add]
              refine wpAnyX_one (i := 0) rfl (by kernel_rfl) (fun K hK => ?_)
              go_simp
              refine hK.out _ _ (fun _ => (Below.cell ((((Below.refl v.heap.size v).alloc (Nat.le_refl _) (.cells #[.string ⟨#[109, 97, 114, 107]⟩, .int .i64 0] 82)).alloc (by simp) (.cells #[] 82)).drew) hp).trans x6) ?_
              clear hK K
              try simp only [Act.put, List.setIfInBounds_toArray, List.set_cons_zero, List.set_cons_succ, Nat.zero_add]
              refine wpAnyX_one (i := 3) rfl (by kernel_rfl) (fun K hK => ?_)
              have hcur := HC.out _ ((((Below.refl v.heap.size v).alloc (Nat.le_refl _) (.cells #[.string ⟨#[109, 97, 114, 107]⟩, .int .i64 0] 82)).alloc (by simp) (.cells #[] 82)).drew)
              refine step_append_from _ (by rfl) (.tmp 44) (.tmp 46) _ (by rfl) v.heap.size 82 Try.underlying36 ref_info rfl (by omega) (.slice (some ⟨v.heap.size + 1, 0, none⟩) 0 0) 0 [] (by rfl) ((by simpa using (World.ownsRow_made (base := v.heap.size) (e := 82) (size := 2) (v.alloc (.cells #[.string ⟨#[109, 97, 114, 107]⟩, .int .i64 0] 82)) #[] 0 (by simp) (Nat.zero_le _) rfl).drew)) Sr n.refs.length cr (n.refs.flatMap refCells) (by rfl) (flat_length refCells_len _) HNONE.out hcur (flat_one refCells_one _) (by unfold maxLen; omega) (by omega) (by simp <;> omega) ?_
              intro A1 c1 w1 own1 hg1 hat1
              simp only [Nat.zero_add, List.nil_append] at own1 hat1
              clear hcur
              have hb1 : Below v.heap.size v w1 := ((((Below.refl v.heap.size v).alloc (Nat.le_refl _) (.cells #[.string ⟨#[109, 97, 114, 107]⟩, .int .i64 0] 82)).alloc (by simp) (.cells #[] 82)).drew).grown hg1 (by simp; omega) (fun k hk => by simp [Value.ownBlock] at hk; omega)
              refine hK.out _ _ (fun _ => (Below.cell (hb1) hp).trans x6) ?_
              clear hK K
              try simp only [Act.put, List.setIfInBounds_toArray, Nat.zero_add]
              refine wpAnyX_one (i := 6) rfl (by kernel_rfl) (fun K hK => ?_)
              refine step_append_from _ (by rfl) (.tmp 47) (.tmp 49) _ (by rfl) v.heap.size 82 Try.underlying36 ref_info rfl (by omega) (.slice A1 n.refs.length c1) n.refs.length (n.refs.flatMap refCells) (by rfl) (own1) (some ⟨v.heap.size, 0, none⟩) 1 1 [markStr, .int .i64 0] (by rfl) (by rfl) (by simp) (by intro ad e; cases e; exact news_cells (cs := #[.string ⟨#[109, 97, 114, 107]⟩, .int .i64 0]) ((Blk.drew ((Blk.new v 82 #[.string ⟨#[109, 97, 114, 107]⟩, .int .i64 0]).alloc _)).grown hg1 (by simp [Value.ownBlock]))) (by simp [markStr, Value.oneCell']) (by unfold maxLen; omega) (by omega) (hb1.size) ?_
              intro A2 c2 w2 own2 hg2 hat2
              have hb2 : Below v.heap.size v w2 := hb1.grown hg2 hb1.size (fun k hk => (own1.lt k hk).1)
              obtain ⟨g2, rfl, hc2, hc2', _, _⟩ := own_pos own2 (by omega)
              have hc3 : (n.refs.length : Int) ≤ c2 := by omega
              have hc4 : n.refs.length ≤ c2 := by omega
              refine hK.out _ _ (fun _ => (Below.cell hb2 hp).trans x6) ?_
              clear hK K
              try simp only [Act.put]
              refine wpAnyX_one (i := 10) rfl (by kernel_rfl) (fun K hK => ?_)
              go_simp
              refine hK.out _ _ (fun _ => (Below.cell hb2 hp).trans x6) ?_
              clear hK K
              try simp only [Act.put, List.setIfInBounds_toArray, List.set_cons_zero, List.set_cons_succ, Nat.zero_add]
              refine wpAnyX_one (i := 11) rfl (by kernel_rfl) (fun K hK => ?_)
              go_simp
              refine hK.out _ _ (fun _ => (Below.cell hb2 hp).trans x6) ?_
              clear hK K
              try simp only [Act.put, List.setIfInBounds_toArray, List.set_cons_zero, List.set_cons_succ, Nat.zero_add]
              refine wpAnyX_one (i := 12) rfl (by kernel_rfl) (fun K hK => ?_)
              have hx2 := (Below.cell hb2 hp).trans x6
              have hz2 := (Below.frozen (p := ⟨p, 6, none⟩) hb2 hp).trans (Blk.frozen HX.out 6)
              go_simp
              refine hK.out _ _ (fun h => absurd rfl h) ?_
              clear hK K
              try simp only [Act.put, List.setIfInBounds_toArray, List.set_cons_zero, List.set_cons_succ, Nat.zero_add]
              refine wpAnyX_done (by kernel_rfl) ?_ _
              have HR := Lib.hid (lent_row (j := 6) refCells_len (by omega) (by rfl) HX.out hb2 own2 (by rfl))
              go_wp2_with fail
              go_meet
              case rel => exact ⟨_, _, HR.out.1, by simpa using HR.out.2.1, HR.out.2.2⟩
          case rest =>
            obtain ⟨B3, e3, hk3, hx3, hrow3⟩ := hcut
            have hpp := HX.out.lt
            have hpw : w.heap.size + 3 ≤ p := by have := HP.out; omega
            have HBV' := Lib.hid (HBV.out.trans (hk3.below (by omega) HBV.out.size))
            have HV0' := Lib.hid (HV0.out.trans (hk3.below (by have := HP.out; omega) HV0.out.size))
            have HW1' := Lib.hid (lent_keep HW1.out hk3 (by assumption))
            have HW2' := Lib.hid (lent_keep HW2.out hk3 (by assumption))
            have HW3' := Lib.hid hrow3
            have hpl3 : p < v.heap.size := hpp
            have HX' := Lib.hid hx3
            clear hk3 hx3 hrow3 HBV HV0 HX HW1 HW2
            obtain ⟨v2, rfl⟩ : ∃ v2 : World, v2 = v := ⟨_, rfl⟩
            obtain ⟨v, rfl⟩ : ∃ v : World, v = wc := ⟨_, rfl⟩
            have HBV := HBV'; have HV0 := HV0'; have HX := HX'
            have HW1 := HW1'
            have HW2 := HW2'
            have HW3 := HW3'
            clear HBV' HV0' HX' HW1' HW2' HW3'
            have x0 := HX.out.cell 0; have x1 := HX.out.cell 1; have x2 := HX.out.cell 2; have x3 := HX.out.cell 3; have x4 := HX.out.cell 4; have x5 := HX.out.cell 5; have x6 := HX.out.cell 6
            simp at x0 x1 x2 x3 x4 x5 x6
            have HOB2 := Lib.hid (HOB.out.below HV0.out holt)
            have o1 := HOB2.out.cell 1
            have holt2 := HOB2.out.lt
            have hpl := HX.out.lt
            have hz1 := HOB2.out.frozen 1
            simp at o1
            have HGE := Lib.hid (own_ge HOWN.out)
            have HO2 := Lib.hid ((HOWN.out.below ENodeO.stays HV0.out).alloc ENodeO.stays (.cells #[.int .i64 n.id, .string n.concept, .int .i64 n.parent, .string n.role, .slice B1 n.props.length e1, .slice B2 n.kids.length e2, .slice B3 n.refs.length e3] 38))
            have HY : Hid (ENodeO (v.alloc (.cells #[.int .i64 n.id, .string n.concept, .int .i64 n.parent, .string n.role, .slice B1 n.props.length e1, .slice B2 n.kids.length e2, .slice B3 n.refs.length e3] 38)) (Oth (fun b => w.heap.size + 3 ≤ b) (v.alloc (.cells #[.int .i64 n.id, .string n.concept, .int .i64 n.parent, .string n.role, .slice B1 n.props.length e1, .slice B2 n.kids.length e2, .slice B3 n.refs.length e3] 38)) vn) (some n) [.int .i64 n.id, .string n.concept, .int .i64 n.parent, .string n.role, .slice B1 n.props.length e1, .slice B2 n.kids.length e2, .slice B3 n.refs.length e3]) := Lib.hid (by
              have hF0 : ∀ B, p < B → ∀ b, (B ≤ b ∧ b < v.heap.size) → Oth (fun b => w.heap.size + 3 ≤ b) (v.alloc (.cells #[.int .i64 n.id, .string n.concept, .int .i64 n.parent, .string n.role, .slice B1 n.props.length e1, .slice B2 n.kids.length e2, .slice B3 n.refs.length e3] 38)) vn b := fun B hB b hb => ⟨by omega, by simp; omega, fun e => by have := (HGE.out b e).2; have := HP.out; omega⟩
              have hkk : ∀ B, Keep (fun b => B ≤ b ∧ b < v.heap.size) v (v.alloc (.cells #[.int .i64 n.id, .string n.concept, .int .i64 n.parent, .string n.role, .slice B1 n.props.length e1, .slice B2 n.kids.length e2, .slice B3 n.refs.length e3] 38)) := fun B => Keep.alloc _ _ (fun b hb => hb.2)
              exact ⟨_, _, _, rfl, HW1.out.keep EProp.stays (hkk _) (hF0 _ (by assumption)), HW2.out.keep EInt.stays (hkk _) (hF0 _ (by assumption)), HW3.out.keep ERef.stays (hkk _) (hF0 _ (by assumption))⟩)
            go_wp2_with (at_builtin; refine wpList_push _ ENodeO.stays rfl (.tmp 57) (.tmp 59) 22 rfl (w.heap.size + 3) 38 Try.underlying22 node_info ?a1 ?a2 vn (List.map some (List.take i m.nodes)) ?a3 HO2.out (some n) ⟨v.heap.size, 0, none⟩ 1 [.int .i64 n.id, .string n.concept, .int .i64 n.parent, .string n.role, .slice B1 n.props.length e1, .slice B2 n.kids.length e2, .slice B3 n.refs.length e3] ?a4 ?a5 ?a6 ?a7 HY.out ?a8 ?a9 ?a10 ?a11)
            case a1 => rfl
            case a2 => omega
            case a3 => rfl
            case a4 => rfl
            case a5 => rfl
            case a6 => exact news_cells (cs := #[.int .i64 n.id, .string n.concept, .int .i64 n.parent, .string n.role, .slice B1 n.props.length e1, .slice B2 n.kids.length e2, .slice B3 n.refs.length e3]) (Blk.new _ _ _)
            case a7 => simp [Value.oneCell']
            case a8 => simp [maxLen]; omega
            case a9 => simp; omega
            case a10 => simp; omega
            case a11 =>
              intro A' c' w' hown' hg' hat'
              have hvs := HV0.out.size
              have HBW := Lib.hid ((HBV.out.alloc HBV.out.size _).grown hg' (by simp; omega) (fun k hk => by have := (HGE.out k hk).1; omega))
              have far : ∀ g, g < w.heap.size + 3 → some g ≠ vn.ownBlock := fun g hg e => by have := (HGE.out g e.symm).1; omega
              have HMW : Hid (Blk w' w.heap.size 24 #[.int .i64 m.next, .slice (some ⟨b, off, none⟩) m.nodes.length c]) := Lib.hid (((HM.out.below HV0.out hmlt).alloc _).grown hg' (far _ (by omega)))
              have HRW : Hid (Blk w' (w.heap.size + 1) 24 #[.int .i64 0, .slice none 0 0]) := Lib.hid (((HRB.out.below HV0.out hrlt).alloc _).grown hg' (far _ (by omega)))
              have HOW : Hid (Blk w' (w.heap.size + 2) 24 #[.int .i64 m.next, vn]) := Lib.hid ((HOB2.out.alloc _).grown hg' (far _ (by omega)))
              have HNX := Lib.hid hown'
              have HAT := Lib.hid hat'
              have o1 := HOW.out.cell 1; have z1 := HOW.out.frozen 1
              have holw := HOW.out.lt
              simp at o1
              clear hown' hg' hat' far x0 x1 x2 x3 x4 x5 x6 hz1
              go_wp2
              go_roundg (m.nodes.length - (i + 1))
              case measure => omega
              case rel => exact ⟨i + 1, _, by go_num, rfl, by omega, HBW.out.setCell (p := ⟨w.heap.size + 2, 1, none⟩) (by show w.heap.size ≤ w.heap.size + 2; omega) _, HMW.out.far (p := ⟨w.heap.size + 2, 1, none⟩) (by show w.heap.size ≠ w.heap.size + 2; omega) _, HRW.out.far (p := ⟨w.heap.size + 2, 1, none⟩) (by show w.heap.size + 1 ≠ w.heap.size + 2; omega) _, by simpa using HOW.out.set_ 1 _, by
                have e : (m.nodes.take (i + 1)).map some = (m.nodes.map some).take i ++ [some n] := by rw [List.take_succ_eq_append_getElem hlt, List.map_append, List.map_take, HN.out]; rfl
                rw [e]
                exact HNX.out.far ENodeO.stays (fun e => by rcases HAT.out with h' | h' <;> rw [h'] at e <;> first | (have := (HGE.out _ e).1; omega) | (simp at e; omega)) (by show ¬ (w.heap.size + 3 ≤ w.heap.size + 2); omega) _⟩
    · have hlt' : decide ((i : Int) < m.nodes.length) = false := decide_eq_false (by omega)
      rw [List.take_of_length_le (by omega)] at HOWN
      have o1 := HOB.out.cell 1
      simp at o1
      have HGE := Lib.hid (own_ge HOWN.out)
      have hbz := hb.size
      clear hb
      go_wp2_with fail
      refine wp_region_X (S := (fun w' => w'.cell? ⟨w.heap.size + 2, 1, none⟩ = some vn ∧ w'.cell? ⟨w.heap.size, 1, none⟩ = some (.slice A m.nodes.length c))) 10 (by kernel_rfl) (by exact ⟨o1, m1⟩) (fun hHeld => ?_)
      refine wpAnyX_take (i := 0) (v := ?_) rfl (by kernel_rfl) (by kernel_rfl) (by kernel_rfl) (by kernel_rfl) (fun _ _ _ h => h) (Or.inl ⟨by rfl, ?_⟩) (by assumption) ?_
      rotate_left 1
      · (intro w' hSw; obtain ⟨s1, s2⟩ := hSw; go_simp); try with_reducible rfl
      try simp only [Act.put, List.setIfInBounds_toArray]
      refine wpAnyX_take (i := 1) (v := ?_) rfl (by kernel_rfl) (by kernel_rfl) (by kernel_rfl) (by kernel_rfl) (fun _ _ _ h => h) (Or.inl ⟨by rfl, ?_⟩) (by assumption) ?_
      rotate_left 1
      · (intro w' hSw; obtain ⟨s1, s2⟩ := hSw; go_simp); try with_reducible rfl
      try simp only [Act.put]
      refine wpAnyX_take (i := 2) (v := ?_) rfl (by kernel_rfl) (by kernel_rfl) (by kernel_rfl) (by kernel_rfl) (fun _ _ _ h => h) (Or.inl ⟨by rfl, ?_⟩) (by assumption) ?_
      rotate_left 1
      · (intro w' hSw; obtain ⟨s1, s2⟩ := hSw; go_simp); try with_reducible rfl
      try simp only [Act.put]
      refine wpAnyX_take (i := 5) (v := ?_) rfl (by kernel_rfl) (by kernel_rfl) (by kernel_rfl) (by kernel_rfl) (fun _ _ _ h => h) (Or.inl ⟨by rfl, ?_⟩) (by assumption) ?_
      rotate_left 1
      · (intro w' hSw; obtain ⟨s1, s2⟩ := hSw; go_simp); try with_reducible rfl
      try simp only [Act.put]
      refine wpAnyX_take (i := 6) (v := ?_) rfl (by kernel_rfl) (by kernel_rfl) (by kernel_rfl) (by kernel_rfl) (fun _ _ _ h => h) (Or.inl ⟨by rfl, ?_⟩) (by assumption) ?_
      rotate_left 1
      · (intro w' hSw; obtain ⟨s1, s2⟩ := hSw; go_simp); try with_reducible rfl
      try simp only [Act.put]
      refine wpAnyX_take (i := 7) (v := ?_) rfl (by kernel_rfl) (by kernel_rfl) (by kernel_rfl) (by kernel_rfl) (fun _ _ _ h => h) (Or.inl ⟨by rfl, ?_⟩) (by assumption) ?_
      rotate_left 1
      · (intro w' hSw; obtain ⟨s1, s2⟩ := hSw; go_simp); try with_reducible rfl
      try simp only [Act.put]
      refine wpAnyX_one (i := 3) rfl (by kernel_rfl) (fun K hK => ?_)
      go_simp
      refine hK.out _ _ (fun _ => ⟨cell_alloc (w := wr) o1 _, cell_alloc (w := wr) m1 _⟩) ?_
      clear hK K
      try simp only [Act.put, List.setIfInBounds_toArray, List.set_cons_zero, List.set_cons_succ, Nat.zero_add]
      refine wpAnyX_one (i := 4) rfl (by kernel_rfl) (fun K hK => ?_)
      refine step_push _ ENodeO.stays (by rfl) (.tmp 63) (.tmp 65) _ (by rfl) (w.heap.size + 3) 38 Try.underlying22 node_info rfl (by omega) vn (List.map some m.nodes) (by rfl) ((HOWN.out.alloc ENodeO.stays (.cells #[.int .i64 (-7), .string ⟨#[]⟩, .int .i64 0, .string ⟨#[]⟩, .slice none 0 0, .slice none 0 0, .slice none 0 0] 38)).drew ENodeO.stays) none ⟨wr.heap.size, 0, none⟩ 1 markNode (by rfl) (by rfl) (news_cells (cs := #[.int .i64 (-7), .string ⟨#[]⟩, .int .i64 0, .string ⟨#[]⟩, .slice none 0 0, .slice none 0 0, .slice none 0 0]) ((Blk.new _ _ _).drew)) (by simp [markNode, nodeCellsA, Value.oneCell']) (by rfl) (by simp [maxLen]; omega) (by simp; omega) (by simp; omega) ?_
      intro A2 c2 w2 own2 hg2 hat2
      have far : ∀ g, g < w.heap.size + 3 → some g ≠ vn.ownBlock := fun g hg e => by have := (HGE.out g e.symm).1; omega
      have HMW := Lib.hid (((HM.out.alloc (.cells #[.int .i64 (-7), .string ⟨#[]⟩, .int .i64 0, .string ⟨#[]⟩, .slice none 0 0, .slice none 0 0, .slice none 0 0] 38)).drew).grown hg2 (far _ (by omega)))
      have HRW := Lib.hid (((HRB.out.alloc (.cells #[.int .i64 (-7), .string ⟨#[]⟩, .int .i64 0, .string ⟨#[]⟩, .slice none 0 0, .slice none 0 0, .slice none 0 0] 38)).drew).grown hg2 (far _ (by omega)))
      have HOW := Lib.hid (((HOB.out.alloc (.cells #[.int .i64 (-7), .string ⟨#[]⟩, .int .i64 0, .string ⟨#[]⟩, .slice none 0 0, .slice none 0 0, .slice none 0 0] 38)).drew).grown hg2 (far _ (by omega)))
      have HBW := Lib.hid (((HB.out.alloc HB.out.size (.cells #[.int .i64 (-7), .string ⟨#[]⟩, .int .i64 0, .string ⟨#[]⟩, .slice none 0 0, .slice none 0 0, .slice none 0 0] 38)).drew).grown hg2 (by simp; omega) (fun k hk => by have := (HGE.out k hk).1; omega))
      obtain ⟨xs2, hxs2⟩ := own2.owns
      have hlen : (List.map some m.nodes ++ [(none : Option ANode)]).length = m.nodes.length + 1 := by simp
      rw [hlen] at hxs2
      have hl1 : (List.map some m.nodes).length + 1 = m.nodes.length + 1 := by simp
      rw [hl1] at own2 hxs2 ⊢
      obtain ⟨g2, rfl, hc2, hc2', hg2', hg2''⟩ := own_pos hxs2 (by omega)
      have HIS := Lib.hid (own2.isRow ENodeO.stays (F' := fun b => w.heap.size + 3 ≤ b ∧ b < w2.heap.size) (fun b h1 h2 => ⟨h1, h2⟩) (fun b h1 h2 => ⟨h1, h2⟩))
      have q1 := HOW.out.cell 1; have q0 := HOW.out.cell 0; have qm := HMW.out.cell 1; have qz := HOW.out.frozen 1
      have r0 := HRW.out.cell 0; have r1 := HRW.out.cell 1; have rz0 := HRW.out.frozen 0; have rz1 := HRW.out.frozen 1
      have hl2 := HOW.out.lt; have hl3 := HRW.out.lt
      simp at q0 q1 qm r0 r1
      have hc3 : (m.nodes.length : Int) ≤ c2 := by omega
      have hc4 : m.nodes.length ≤ c2 := by omega
      clear own2 hg2 hat2 hxs2 hlen hl1 far
      refine hK.out _ _ (fun _ => ⟨q1, qm⟩) ?_
      clear hK K
      try simp only [Act.put, List.setIfInBounds_toArray]
      refine wpAnyX_one (i := 8) rfl (by kernel_rfl) (fun K hK => ?_)
      go_simp
      refine hK.out _ _ (fun _ => ⟨q1, qm⟩) ?_
      clear hK K
      try simp only [Act.put, List.setIfInBounds_toArray, List.set_cons_zero, List.set_cons_succ, Nat.zero_add]
      refine wpAnyX_one (i := 9) rfl (by kernel_rfl) (fun K hK => ?_)
      go_simp
      refine hK.out _ _ (fun _ => ⟨q1, qm⟩) ?_
      clear hK K
      try simp only [Act.put, List.setIfInBounds_toArray, List.set_cons_zero, List.set_cons_succ, Nat.zero_add]
      refine wpAnyX_one (i := 10) rfl (by kernel_rfl) (fun K hK => ?_)
      go_simp
      refine hK.out _ _ (fun h => absurd rfl h) ?_
      clear hK K
      try simp only [Act.put, List.setIfInBounds_toArray, List.set_cons_zero, List.set_cons_succ, Nat.zero_add]
      refine wpAnyX_done (by kernel_rfl) ?_ _
      clear hHeld o1 m1
      go_wp2
      have hb0 : Blk (w2.setCell ⟨w.heap.size + 1 + 1, 1, none⟩ (.slice (some ⟨g2, 0, none⟩) m.nodes.length c2)) (w.heap.size + 1) 24 #[.int .i64 0, .slice none 0 0] := HRW.out.far (p := ⟨w.heap.size + 1 + 1, 1, none⟩) (by show w.heap.size + 1 ≠ w.heap.size + 1 + 1; omega) _
      have f0 := (hb0.set_ 0 (.int .i64 m.next)).cell 0
      have f1 := ((hb0.set_ 0 (.int .i64 m.next)).set_ 1 (.slice (some ⟨g2, 0, none⟩) m.nodes.length c2)).cell 1
      simp at f0 f1
      have HKP : Keep (fun b => w.heap.size + 3 ≤ b ∧ b < w2.heap.size) w2 (((w2.setCell ⟨w.heap.size + 1 + 1, 1, none⟩ (.slice (some ⟨g2, 0, none⟩) m.nodes.length c2)).setCell ⟨w.heap.size + 1, 0, none⟩ (.int .i64 m.next)).setCell ⟨w.heap.size + 1, 1, none⟩ (.slice (some ⟨g2, 0, none⟩) m.nodes.length c2)) := fun q hq => World.cell?_of_block (((Below.heap_setCell _ _ _ _ (by show q.block ≠ w.heap.size + 1; omega)).trans (Below.heap_setCell _ _ _ _ (by show q.block ≠ w.heap.size + 1; omega))).trans (Below.heap_setCell _ _ _ _ (by show q.block ≠ w.heap.size + 1 + 1; omega)))
      have HFIN := Lib.hid (((IsRowM.of_opt HIS.out).keep ENodeM.stays HKP (F' := fun b => w.heap.size ≤ b ∧ b < (((w2.setCell ⟨w.heap.size + 1 + 1, 1, none⟩ (.slice (some ⟨g2, 0, none⟩) m.nodes.length c2)).setCell ⟨w.heap.size + 1, 0, none⟩ (.int .i64 m.next)).setCell ⟨w.heap.size + 1, 1, none⟩ (.slice (some ⟨g2, 0, none⟩) m.nodes.length c2)).heap.size) (fun b hb => ⟨by omega, by simpa using hb.2⟩)))
      exact bodyPost_ret (v := .agg #[.int .i64 m.next, .slice (some ⟨g2, 0, none⟩) m.nodes.length c2]) (by simp [results, Try.results15, go_sem, f0, f1]) rfl ⟨_, rfl, ⟨_, rfl, HFIN.out⟩, ((HBW.out.setCell (p := ⟨w.heap.size + 1 + 1, 1, none⟩) (by show w.heap.size ≤ w.heap.size + 1 + 1; omega) _).setCell (p := ⟨w.heap.size + 1, 0, none⟩) (by show w.heap.size ≤ w.heap.size + 1; omega) _).setCell (p := ⟨w.heap.size + 1, 1, none⟩) (by show w.heap.size ≤ w.heap.size + 1; omega) _⟩
end Go.Proofs.Ytmafhaadcjgcbaa
