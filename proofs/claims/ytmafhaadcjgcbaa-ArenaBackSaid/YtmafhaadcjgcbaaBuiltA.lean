import Derived.Test.YtmafhaadcjgcbaaATellsA
import Derived.Test.YtmafhaadcjgcbaaAOwn
import Derived.Test.YtmafhaadcjgcbaaDoneP
import Derived.Test.YtmafhaadcjgcbaaDoneA
import Derived.Test.YtmafhaadcjgcbaaASame
import Derived.Test.YtmafhaadcjgcbaaADataA
import Derived.Test.YtmafhaadcjgcbaaRegX
set_option linter.unusedSimpArgs false
set_option linter.unusedVariables false
section
namespace Go.Proofs.Ytmafhaadcjgcbaa
open Go Go.RowKit

/-- what Find answers: the node as a value of its own, or nothing -/
def FoundAs (w' : World) (F : Nat → Prop) (m : AModel) (id : Int) (v : Value) : Prop :=
  (∃ x ∈ m.nodes, HasN m id ∧ x.id = id ∧ ∃ vp vk vr, v = .tuple #[.agg #[.int .i64 x.id, .string x.concept, .int .i64 x.parent, .string x.role, vp, vk, vr], .bool true] ∧ IsRow 2 EProp w' F vp x.props ∧ IsRow 1 EInt w' F vk x.kids ∧ IsRow 2 ERef w' F vr x.refs ∧ FreeV w' vp ∧ FreeV w' vk ∧ FreeV w' vr) ∨
  (¬ HasN m id ∧ v = .tuple #[.agg #[.int .i64 0, .string ⟨#[]⟩, .int .i64 0, .string ⟨#[]⟩, .slice none 0 0, .slice none 0 0, .slice none 0 0], .bool false])

set_option maxRecDepth 100000 in
set_option maxHeartbeats 2000000 in
theorem findA_any (A : Option Addr) (c : Nat) (m : AModel) (w : World) (F : Nat → Prop) (hF : ∀ b, F b → b < w.heap.size) (h : RowOf 7 ENode w F A m.nodes) (hz : ∀ x ∈ m.nodes, NodeOK x) (hz' : ∀ x ∈ m.nodes, LensOK x) (hl : m.nodes.length ≤ 9223372036854775807) (id : Int) (hid : InR id) :
    Calls Try.prog 22 #[.agg #[.int .i64 m.next, .slice A m.nodes.length c], .int .i64 id] w fun e w' => (∃ v, e = .returned v ∧ FoundAs w' (fun b => w.heap.size ≤ b ∧ b < w'.heap.size) m id v) ∧ Below w.heap.size w w' := by
  have HBA := Lib.hid (((Below.refl w.heap.size w).alloc (Nat.le_refl _) (.cells #[.int .i64 m.next, .slice A m.nodes.length c] 24)).alloc (by simp) (.cells #[.int .i64 0, .string ⟨#[]⟩, .int .i64 0, .string ⟨#[]⟩, .slice none 0 0, .slice none 0 0, .slice none 0 0] 38))
  have HC := Lib.hid (check_any A c m _ F (fun b hb => Nat.lt_of_lt_of_le (hF b hb) HBA.out.size) (h.keep ENode.stays (Keep.below HBA.out hF) (fun _ h => h)) hz hl)
  have HH := Lib.hid h
  have HZ := Lib.hid hz
  have HZ' := Lib.hid hz'
  clear h hz hz'
  by_cases hc : CheckM m
  · have HC2 := Lib.hid (int_is (checkI_yes hc) HC.out)
    have HCM := Lib.hid hc
    have HS := Lib.hid hc.1.srtB
    have hl4 : m.nodes.length ≤ 4096 := hc.1.1.2.2
    clear hc HC
    go_enter Try.func22, Try.ntmps22
    go_wp2_with fail
    refine HC2.out.mono ?_
    rintro _ w2 ⟨rfl, hb2⟩
    have HB2 := Lib.hid (HBA.out.trans (hb2.mono HBA.out.size))
    have HM2 := Lib.hid (((Blk.new w 24 #[.int .i64 m.next, .slice A m.nodes.length c]).alloc (.cells #[.int .i64 0, .string ⟨#[]⟩, .int .i64 0, .string ⟨#[]⟩, .slice none 0 0, .slice none 0 0, .slice none 0 0] 38)).below hb2 (by simp; omega))
    have m1 := HM2.out.cell 1; have m0 := HM2.out.cell 0
    have hmlt := HM2.out.lt
    simp at m0 m1
    have HR2 := Lib.hid ((Blk.new' (w := w.alloc (.cells #[.int .i64 m.next, .slice A m.nodes.length c] 24)) (g := w.heap.size + 1) (t := 38) (cs := #[.int .i64 0, .string ⟨#[]⟩, .int .i64 0, .string ⟨#[]⟩, .slice none 0 0, .slice none 0 0, .slice none 0 0]) (by simp)).below hb2 (by simp))
    have hrlt := HR2.out.lt
    clear hb2 HC2 HBA
    rcases atI_cases m.nodes id with ⟨j, hj, hj1, hj2⟩ | ⟨hj1, hj2⟩
    · have HAT := Lib.hid hj2
      obtain ⟨x, hx⟩ : ∃ x, m.nodes[j] = x := ⟨_, rfl⟩
      have hxm : x ∈ m.nodes := by rw [← hx]; exact List.getElem_mem hj
      have hxi : x.id = id := by rw [← hx]; exact hj1
      subst hxi
      have HX := Lib.hid hxm
      clear hj1 hj2 hxm
      have g0 : decide ((0 : Int) ≤ (j : Int)) = true := decide_eq_true (by omega)
      go_wp2_with fail
      refine (place_any A c m.next x.id m.nodes w2 F (fun b hb => Nat.lt_of_lt_of_le (hF b hb) HB2.out.size) (HH.out.keep ENode.stays (Keep.below HB2.out hF) (fun _ h => h)) HS.out hid (by omega)).mono ?_
      rintro _ w3 ⟨rfl, hb3⟩
      rw [HAT.out]
      have HB3 := Lib.hid (HB2.out.trans (hb3.mono HB2.out.size))
      have HM3 := Lib.hid (HM2.out.below hb3 hmlt)
      have HR3 := Lib.hid (HR2.out.below hb3 hrlt)
      have m1 := HM3.out.cell 1; have m0 := HM3.out.cell 0
      have hmlt3 := HM3.out.lt
      have hrlt3 := HR3.out.lt
      simp at m0 m1
      clear hb3
      obtain ⟨b, off, Sp, cp, Sk, ck, Sr, cr, hA, hb, n0, n1, n2, n3, n4, n5, n6, hp, hk, hr⟩ := node_at (HH.out.keep ENode.stays (Keep.below HB3.out hF) (fun _ h => h)) hj
      rw [hx] at n0 n1 n2 n3 n4 n5 n6 hp hk hr
      subst hA
      have HP := Lib.hid hp; have HK := Lib.hid hk; have HRR := Lib.hid hr; have HBF := Lib.hid hb
      clear hp hk hr hx hb
      go_wp2_with fail
      refine (own_any x Sp Sk Sr cp ck cr w3 F (fun b hb => Nat.lt_of_lt_of_le (hF b hb) HB3.out.size) (HZ'.out x HX.out) HP.out.2.2 HK.out.2.2 HRR.out.2.2).mono ?_
      rintro _ w4 ⟨_, _, _, rfl, ⟨P1, c1, rfl, p1, p2, p3⟩, ⟨K1, e1, rfl, q1, q2, q3⟩, ⟨R1, d1, rfl, s1, s2, s3⟩, hb4, hf1, hf2, hf3, _, _⟩
      have HP4 := Lib.hid p3; have HK4 := Lib.hid q3; have HR4 := Lib.hid s3; have HF1 := Lib.hid hf1; have HF2 := Lib.hid hf2; have HF3 := Lib.hid hf3
      have HB4 := Lib.hid (HB3.out.trans (hb4.mono HB3.out.size))
      have HY4 := Lib.hid (HR3.out.below hb4 hrlt3)
      have HE := Lib.hid (show HasN m x.id from ⟨HCM.out, x, HX.out, rfl⟩)
      clear p3 q3 s3 hb4 hf1 hf2 hf3
      have t0 := HY4.out.frozen 0; have t1 := HY4.out.frozen 1; have t2 := HY4.out.frozen 2; have t3 := HY4.out.frozen 3; have t4 := HY4.out.frozen 4; have t5 := HY4.out.frozen 5; have t6 := HY4.out.frozen 6
      have r0 := HY4.out.cell 0; have r1 := HY4.out.cell 1; have r2 := HY4.out.cell 2; have r3 := HY4.out.cell 3; have r4 := HY4.out.cell 4; have r5 := HY4.out.cell 5; have r6 := HY4.out.cell 6
      simp at r0 r1 r2 r3 r4 r5 r6
      go_wp2_with fail
      have hyS := (((((((HY4.out.set_ 0 (.int .i64 x.id)).set_ 1 (.string x.concept)).set_ 2 (.int .i64 x.parent)).set_ 3 (.string x.role)).set_ 4 (.slice P1 x.props.length c1)).set_ 5 (.slice K1 x.kids.length e1)).set_ 6 (.slice R1 x.refs.length d1))
      have f0 := hyS.cell 0; have f1 := hyS.cell 1; have f2 := hyS.cell 2; have f3 := hyS.cell 3; have f4 := hyS.cell 4; have f5 := hyS.cell 5; have f6 := hyS.cell 6
      simp at f0 f1 f2 f3 f4 f5 f6
      have HBW := Lib.hid (((((((HB4.out.setCell (p := ⟨w.heap.size + 1, 0, none⟩) (Nat.le_succ _) (.int .i64 x.id)).setCell (p := ⟨w.heap.size + 1, 1, none⟩) (Nat.le_succ _) (.string x.concept)).setCell (p := ⟨w.heap.size + 1, 2, none⟩) (Nat.le_succ _) (.int .i64 x.parent)).setCell (p := ⟨w.heap.size + 1, 3, none⟩) (Nat.le_succ _) (.string x.role)).setCell (p := ⟨w.heap.size + 1, 4, none⟩) (Nat.le_succ _) (.slice P1 x.props.length c1)).setCell (p := ⟨w.heap.size + 1, 5, none⟩) (Nat.le_succ _) (.slice K1 x.kids.length e1)).setCell (p := ⟨w.heap.size + 1, 6, none⟩) (Nat.le_succ _) (.slice R1 x.refs.length d1))
      have hz3 := HB3.out.size
      refine bodyPost_ret (v := .tuple #[.agg #[.int .i64 x.id, .string x.concept, .int .i64 x.parent, .string x.role, .slice P1 x.props.length c1, .slice K1 x.kids.length e1, .slice R1 x.refs.length d1], .bool true]) (by simp [results, Try.results22, go_sem, f0, f1, f2, f3, f4, f5, f6]) rfl ⟨⟨_, rfl, Or.inl ⟨x, HX.out, HE.out, rfl, _, _, _, rfl, ⟨_, _, rfl, p1, p2, HP4.out.keep EProp.stays (fun q hq => ?_) (fun b hb => ?_)⟩, ⟨_, _, rfl, q1, q2, HK4.out.keep EInt.stays (fun q hq => ?_) (fun b hb => ?_)⟩, ⟨_, _, rfl, s1, s2, HR4.out.keep ERef.stays (fun q hq => ?_) (fun b hb => ?_)⟩, (((((((HF1.out.set_ _ _).set_ _ _).set_ _ _).set_ _ _).set_ _ _).set_ _ _).set_ _ _), (((((((HF2.out.set_ _ _).set_ _ _).set_ _ _).set_ _ _).set_ _ _).set_ _ _).set_ _ _), (((((((HF3.out.set_ _ _).set_ _ _).set_ _ _).set_ _ _).set_ _ _).set_ _ _).set_ _ _)⟩⟩, HBW.out⟩
      all_goals first
        | exact World.cell?_of_block ((Below.heap_setCell _ _ _ _ (by show q.block ≠ w.heap.size + 1; omega)).trans ((Below.heap_setCell _ _ _ _ (by show q.block ≠ w.heap.size + 1; omega)).trans ((Below.heap_setCell _ _ _ _ (by show q.block ≠ w.heap.size + 1; omega)).trans ((Below.heap_setCell _ _ _ _ (by show q.block ≠ w.heap.size + 1; omega)).trans ((Below.heap_setCell _ _ _ _ (by show q.block ≠ w.heap.size + 1; omega)).trans ((Below.heap_setCell _ _ _ _ (by show q.block ≠ w.heap.size + 1; omega)).trans (Below.heap_setCell _ _ _ _ (by show q.block ≠ w.heap.size + 1; omega))))))))
        | exact ⟨by omega, by simpa using hb.2⟩
    · have E := Lib.hid (none_has hj1)
      have HAT := Lib.hid hj2
      clear hj1 hj2
      go_wp2_with fail
      refine (place_any A c m.next id m.nodes w2 F (fun b hb => Nat.lt_of_lt_of_le (hF b hb) HB2.out.size) (HH.out.keep ENode.stays (Keep.below HB2.out hF) (fun _ h => h)) HS.out hid (by omega)).mono ?_
      rintro _ w3 ⟨rfl, hb3⟩
      rw [HAT.out]
      have HB3 := Lib.hid (HB2.out.trans (hb3.mono HB2.out.size))
      have HR3 := Lib.hid (HR2.out.below hb3 hrlt)
      have t0 := HR3.out.frozen 0; have t1 := HR3.out.frozen 1; have t2 := HR3.out.frozen 2; have t3 := HR3.out.frozen 3; have t4 := HR3.out.frozen 4; have t5 := HR3.out.frozen 5; have t6 := HR3.out.frozen 6
      have r0 := HR3.out.cell 0; have r1 := HR3.out.cell 1; have r2 := HR3.out.cell 2; have r3 := HR3.out.cell 3; have r4 := HR3.out.cell 4; have r5 := HR3.out.cell 5; have r6 := HR3.out.cell 6
      simp at r0 r1 r2 r3 r4 r5 r6
      clear hb3
      go_wp2_with fail
      have hyS := (((((((HR3.out.set_ 0 (.int .i64 0)).set_ 1 (.string ⟨#[]⟩)).set_ 2 (.int .i64 0)).set_ 3 (.string ⟨#[]⟩)).set_ 4 (.slice none 0 0)).set_ 5 (.slice none 0 0)).set_ 6 (.slice none 0 0))
      have f0 := hyS.cell 0; have f1 := hyS.cell 1; have f2 := hyS.cell 2; have f3 := hyS.cell 3; have f4 := hyS.cell 4; have f5 := hyS.cell 5; have f6 := hyS.cell 6
      simp at f0 f1 f2 f3 f4 f5 f6
      have HBW := Lib.hid (((((((HB3.out.setCell (p := ⟨w.heap.size + 1, 0, none⟩) (Nat.le_succ _) (.int .i64 0)).setCell (p := ⟨w.heap.size + 1, 1, none⟩) (Nat.le_succ _) (.string ⟨#[]⟩)).setCell (p := ⟨w.heap.size + 1, 2, none⟩) (Nat.le_succ _) (.int .i64 0)).setCell (p := ⟨w.heap.size + 1, 3, none⟩) (Nat.le_succ _) (.string ⟨#[]⟩)).setCell (p := ⟨w.heap.size + 1, 4, none⟩) (Nat.le_succ _) (.slice none 0 0)).setCell (p := ⟨w.heap.size + 1, 5, none⟩) (Nat.le_succ _) (.slice none 0 0)).setCell (p := ⟨w.heap.size + 1, 6, none⟩) (Nat.le_succ _) (.slice none 0 0))
      exact bodyPost_ret (v := .tuple #[.agg #[.int .i64 0, .string ⟨#[]⟩, .int .i64 0, .string ⟨#[]⟩, .slice none 0 0, .slice none 0 0, .slice none 0 0], .bool false]) (by simp [results, Try.results22, go_sem, f0, f1, f2, f3, f4, f5, f6]) rfl ⟨⟨_, rfl, Or.inr ⟨E.out, rfl⟩⟩, HBW.out⟩
  · have HC2 := Lib.hid (int_is (checkI_no hc) HC.out)
    have E := Lib.hid (show ¬ HasN m id from fun h => hc h.1)
    clear hc HC
    go_enter Try.func22, Try.ntmps22
    go_wp2_with fail
    refine HC2.out.mono ?_
    rintro _ w2 ⟨rfl, hb2⟩
    have HB2 := Lib.hid (HBA.out.trans (hb2.mono HBA.out.size))
    have HR2 := Lib.hid ((Blk.new' (w := w.alloc (.cells #[.int .i64 m.next, .slice A m.nodes.length c] 24)) (g := w.heap.size + 1) (t := 38) (cs := #[.int .i64 0, .string ⟨#[]⟩, .int .i64 0, .string ⟨#[]⟩, .slice none 0 0, .slice none 0 0, .slice none 0 0]) (by simp)).below hb2 (by simp))
    have t0 := HR2.out.frozen 0; have t1 := HR2.out.frozen 1; have t2 := HR2.out.frozen 2; have t3 := HR2.out.frozen 3; have t4 := HR2.out.frozen 4; have t5 := HR2.out.frozen 5; have t6 := HR2.out.frozen 6
    have r0 := HR2.out.cell 0; have r1 := HR2.out.cell 1; have r2 := HR2.out.cell 2; have r3 := HR2.out.cell 3; have r4 := HR2.out.cell 4; have r5 := HR2.out.cell 5; have r6 := HR2.out.cell 6
    simp at r0 r1 r2 r3 r4 r5 r6
    clear hb2
    go_wp2_with fail
    have hyS := (((((((HR2.out.set_ 0 (.int .i64 0)).set_ 1 (.string ⟨#[]⟩)).set_ 2 (.int .i64 0)).set_ 3 (.string ⟨#[]⟩)).set_ 4 (.slice none 0 0)).set_ 5 (.slice none 0 0)).set_ 6 (.slice none 0 0))
    have f0 := hyS.cell 0; have f1 := hyS.cell 1; have f2 := hyS.cell 2; have f3 := hyS.cell 3; have f4 := hyS.cell 4; have f5 := hyS.cell 5; have f6 := hyS.cell 6
    simp at f0 f1 f2 f3 f4 f5 f6
    have HBW := Lib.hid (((((((HB2.out.setCell (p := ⟨w.heap.size + 1, 0, none⟩) (Nat.le_succ _) (.int .i64 0)).setCell (p := ⟨w.heap.size + 1, 1, none⟩) (Nat.le_succ _) (.string ⟨#[]⟩)).setCell (p := ⟨w.heap.size + 1, 2, none⟩) (Nat.le_succ _) (.int .i64 0)).setCell (p := ⟨w.heap.size + 1, 3, none⟩) (Nat.le_succ _) (.string ⟨#[]⟩)).setCell (p := ⟨w.heap.size + 1, 4, none⟩) (Nat.le_succ _) (.slice none 0 0)).setCell (p := ⟨w.heap.size + 1, 5, none⟩) (Nat.le_succ _) (.slice none 0 0)).setCell (p := ⟨w.heap.size + 1, 6, none⟩) (Nat.le_succ _) (.slice none 0 0))
    exact bodyPost_ret (v := .tuple #[.agg #[.int .i64 0, .string ⟨#[]⟩, .int .i64 0, .string ⟨#[]⟩, .slice none 0 0, .slice none 0 0, .slice none 0 0], .bool false]) (by simp [results, Try.results22, go_sem, f0, f1, f2, f3, f4, f5, f6]) rfl ⟨⟨_, rfl, Or.inr ⟨E.out, rfl⟩⟩, HBW.out⟩
end Go.Proofs.Ytmafhaadcjgcbaa
end
section
/- the chapter's first rows: the models that are made, in plain Lean -/
namespace Go.Proofs.Ytmafhaadcjgcbaa
open Go Go.RowKit

def sL : ByteArray := ⟨#[76, 105, 115, 116]⟩
def sItem : ByteArray := ⟨#[105, 116, 101, 109]⟩
def cK : Nat → ByteArray
  | 0 => ⟨#[78, 117, 109]⟩
  | 1 => ⟨#[84, 101, 120, 116]⟩
  | 2 => ⟨#[83, 117, 109]⟩
  | _ => ⟨#[78, 117, 109]⟩
def rK : Nat → ByteArray
  | 1 => ⟨#[110, 111, 116, 101]⟩
  | _ => sItem
def pK : Nat → Int
  | 2 => 1
  | _ => 0
def wkids : Nat → List Int
  | 0 => []
  | 1 => [2]
  | 2 => [2, 3]
  | 3 => [2, 4, 3]
  | _ => [5, 2, 4, 3]
def wroot (k : Nat) : ANode := ⟨1, sL, 0, ⟨#[]⟩, [], wkids k, []⟩
def wm (k : Nat) : AModel := ⟨2 + k, wroot k :: (List.range k).map fun (i : Nat) => ⟨2 + (i : Int), cK i, 1, rK i, [], [], []⟩⟩
def m00 : AModel := ⟨1, []⟩
theorem new_check : CheckM m00 := ⟨⟨⟨by show (1 : Int) ≤ 1; omega, by show (1 : Int) ≤ 1048577; omega, Nat.zero_le _⟩, fun i hi => absurd hi (Nat.not_lt_zero _)⟩, fun _ h => (by cases h), fun _ h => (by cases h), fun _ h => (by cases h), fun _ h => (by cases h)⟩
theorem new_few : Few 0 m00 := fun _ h => by cases h
theorem root_add : addE m00 0 ⟨#[]⟩ 0 sL = 0 := by
  rw [addE_root new_check (by decide +kernel), if_neg (by decide +kernel), if_neg (by decide +kernel)]
theorem root_made : addM m00 0 ⟨#[]⟩ 0 sL = wm 0 := if_pos rfl
theorem wm_add {k : Nat} (hk : k < 4) (h : CheckM (wm k)) : addE (wm k) 1 (rK k) (pK k) (cK k) = 0 := by
  have hy : wroot k ∈ (wm k).nodes := List.mem_cons_self ..
  have hd : Dep (wm k) 1 (wroot k).id := .root _ hy rfl
  have hc : wordA (cK k) = true := by rcases (show k = 0 ∨ k = 1 ∨ k = 2 ∨ k = 3 by omega) with rfl | rfl | rfl | rfl <;> decide +kernel
  have hw : wordA (rK k) = true := by rcases (show k = 0 ∨ k = 1 ∨ k = 2 ∨ k = 3 by omega) with rfl | rfl | rfl | rfl <;> decide +kernel
  have e := addE_kid (a := pK k) h hc hy hw hd
  have h1 : kidE (spotI (wroot k).kids (inL (wm k) (wroot k) (rK k)) (pK k)) ((1 : Nat) : Int) 1 = 0 := by rcases (show k = 0 ∨ k = 1 ∨ k = 2 ∨ k = 3 by omega) with rfl | rfl | rfl | rfl <;> decide +kernel
  have h2 : ¬ ((wm k).nodes.length = 4096 ∨ 1048576 < (wm k).next) := by rcases (show k = 0 ∨ k = 1 ∨ k = 2 ∨ k = 3 by omega) with rfl | rfl | rfl | rfl <;> decide +kernel
  rw [if_neg (fun e => e h1), if_neg h2] at e
  exact e
theorem wm_made {k : Nat} (hk : k < 4) : addM (wm k) 1 (rK k) (pK k) (cK k) = wm (k + 1) := by
  rcases (show k = 0 ∨ k = 1 ∨ k = 2 ∨ k = 3 by omega) with rfl | rfl | rfl | rfl <;> kernel_rfl
theorem wm_check : ∀ k, k ≤ 4 → CheckM (wm k)
  | 0, _ => by rw [← root_made]; exact (add_step root_add new_few).1
  | k + 1, h => by
    have hk := wm_check k (by omega)
    rw [← wm_made (by omega)]
    exact (add_step (k := 0) (wm_add (by omega) hk) (fun x hx => by
      rcases List.mem_cons.1 hx with e | e
      · subst e; exact ⟨Nat.zero_le _, Nat.zero_le _⟩
      · obtain ⟨i, _, rfl⟩ := List.mem_map.1 e
        exact ⟨Nat.zero_le _, Nat.zero_le _⟩)).1
theorem wm_few (k : Nat) : Few 0 (wm k) := fun x hx => by
  rcases List.mem_cons.1 hx with e | e
  · subst e; exact ⟨Nat.zero_le _, Nat.zero_le _⟩
  · obtain ⟨i, _, rfl⟩ := List.mem_map.1 e
    exact ⟨Nat.zero_le _, Nat.zero_le _⟩
theorem wm_root (k : Nat) : wroot k ∈ (wm k).nodes := List.mem_cons_self ..
theorem w4_kids : kidR (wm 4) sItem 1 = [5, 2, 4] := by
  have h := kidR_yes (role := sItem) (wm_check 4 (by omega)) (wm_root 4)
  have e : inL (wm 4) (wroot 4) sItem = [5, 2, 4] := by decide +kernel
  exact h.trans e
theorem w4_loop : moveE (wm 4) 1 2 sItem 0 = 21 := by
  have hc := wm_check 4 (by omega)
  refine moveE_loop hc (fun _ => by decide +kernel) (by decide +kernel) (.inr ?_)
  have h := hc.tree.below_eq (wm_root 4)
  show (2 : Int) ∈ belowL (wm 4) (wroot 4).id
  rw [h]
  exact List.mem_flatMap.2 ⟨2, by decide, List.mem_cons_self ..⟩
theorem w4_depth : depR (wm 4) 4 = 2 := by
  have hr : Dep (wm 4) 1 1 := .root (wroot 4) (wm_root 4) rfl
  have hd : Dep (wm 4) 2 4 := .kid 1 ⟨4, cK 2, 1, rK 2, [], [], []⟩ (List.mem_cons_of_mem _ (List.mem_map.2 ⟨2, by decide, rfl⟩)) (by decide) hr
  exact depR_yes (wm_check 4 (by omega)) hd
end Go.Proofs.Ytmafhaadcjgcbaa
end
section
/- the chapter's first rows: topiarylaw02.awake -/
namespace Go.Proofs.Ytmafhaadcjgcbaa
open Go Go.RowKit

theorem newA_any (w : World) : Calls Try.prog 21 #[] w fun e w' => e = .returned (.agg #[.int .i64 1, .slice none 0 0]) ∧ Below w.heap.size w w' := by
  go_enter Try.func21, Try.ntmps21
  go_wp2
  exact bodyPost_ret (v := .agg #[.int .i64 1, .slice none 0 0]) (by simp [results, Try.results21, go_sem]) rfl ⟨rfl, (Below.refl _ _).alloc (Nat.le_refl _) _⟩
theorem keep_set {F : Nat → Prop} (w : World) (a : Addr) (u : Value) (hF : ∀ b, F b → b ≠ a.block) : Keep F w (w.setCell a u) := fun p hp => World.cell?_of_block (Below.heap_setCell _ _ _ _ (hF _ hp))
theorem lit_row {w : World} {g : Nat} {l : List Int} {cs : Array Value} (h : Blk w g 3 cs) (hcs : ∀ i (hi : i < l.length), cs[i]? = some (.int .i64 l[i])) : RowOf 1 EInt w (fun b => b < w.heap.size) (some ⟨g, 0, none⟩) l :=
  ⟨fun _ => ⟨g, 0, rfl, h.lt⟩, fun i hi => ⟨[.int .i64 l[i]], rfl, rfl, fun b off e j hj => by
    cases e
    have : j = 0 := by omega
    subst this
    rw [h.cell]
    simpa using hcs i hi⟩⟩
theorem add_done {w' : World} {base : Nat} {m : AModel} {v : Value} (hc : CheckM m) {p a : Int} {role concept : ByteArray} (hE : addE m p role a concept = 0) (h : AddAs w' base m p role a concept v) : ∃ A1 c1, v = .tuple #[.agg #[.int .i64 (m.next + 1), .slice A1 (addM m p role a concept).nodes.length c1], .int .i64 m.next, .int .i64 0] ∧ RowOf 7 ENode w' (fun b => base ≤ b ∧ b < w'.heap.size) A1 (addM m p role a concept).nodes := by
  obtain ⟨k, z, A1, n1, c1, rfl, hm⟩ := add_made hc h
  rcases h with ⟨E, h1, e, _⟩ | ⟨_, vl, l, e, ho, h2⟩
  · exact absurd (hE.symm.trans e).symm h1
  · rw [hE] at hm
    rcases hm with hm | ⟨_, hz, l2, ho2, hl2⟩
    · exact absurd rfl hm
    · obtain ⟨A', c', e1, _, _, h3⟩ := ho2.isRow (F := fun b => base ≤ b ∧ b < w'.heap.size) (fun b h1 h => ⟨h1, h⟩)
      injection e1 with e1 e2 e3
      subst e1
      rw [hl2] at h3 e2
      injection e with e
      have e := congrArg Array.toList e
      simp only [List.cons.injEq, Value.agg.injEq, Value.int.injEq, and_true, true_and] at e
      obtain ⟨e4, e5, _⟩ := e
      have e4 := congrArg Array.toList e4
      simp only [List.cons.injEq, Value.int.injEq, and_true, true_and] at e4
      exact ⟨A1, c1, by rw [e4.1, e5, e2, hE], h3⟩
theorem wm_len (k : Nat) : (wm k).nodes.length = k + 1 := by simp [wm]
theorem wm_next (k : Nat) : (wm k).next = (k : Int) + 2 := by show (2 : Int) + k = _; omega
theorem wake_root (w : World) : Calls Try.prog 37 #[.agg #[.int .i64 1, .slice none 0 0], .int .i64 0, .string ⟨#[]⟩, .int .i64 0, .string sL] w fun e w' => ∃ A1 c1, e = .returned (.tuple #[.agg #[.int .i64 2, .slice A1 1 c1], .int .i64 1, .int .i64 0]) ∧ RowOf 7 ENode w' (fun b => b < w'.heap.size) A1 (wm 0).nodes ∧ Below w.heap.size w w' := by
  refine (addA_any none 0 m00 w (fun _ => False) (fun b h => h.elim) (RowOf.nil _) (node_ok new_check) (fun x h => by cases h) (by show 0 ≤ _; omega) 0 (by unfold InR; omega) ⟨#[]⟩ (by decide) 0 (by unfold InR; omega) sL (by decide)).mono ?_
  rintro _ w' ⟨⟨v, rfl, h⟩, hb⟩
  obtain ⟨A1, c1, rfl, hr⟩ := add_done new_check root_add h
  rw [root_made] at hr ⊢
  rw [wm_len]
  exact ⟨A1, c1, rfl, hr.keep ENode.stays (Keep.refl _ _) (fun b h => h.2), hb⟩
theorem wake_add {k : Nat} (hk : k < 4) (A : Option Addr) (c : Nat) (w : World) (h : RowOf 7 ENode w (fun b => b < w.heap.size) A (wm k).nodes) : Calls Try.prog 37 #[.agg #[.int .i64 ((k : Int) + 2), .slice A (k + 1) c], .int .i64 1, .string (rK k), .int .i64 (pK k), .string (cK k)] w fun e w' => ∃ A1 c1, e = .returned (.tuple #[.agg #[.int .i64 (((k + 1 : Nat) : Int) + 2), .slice A1 (k + 1 + 1) c1], .int .i64 ((k : Int) + 2), .int .i64 0]) ∧ RowOf 7 ENode w' (fun b => w.heap.size ≤ b ∧ b < w'.heap.size) A1 (wm (k + 1)).nodes ∧ Below w.heap.size w w' := by
  have hc := wm_check k (by omega)
  have hw : (rK k).size ≤ 33 ∧ (cK k).size ≤ 33 ∧ InR (pK k) := by rcases (show k = 0 ∨ k = 1 ∨ k = 2 ∨ k = 3 by omega) with rfl | rfl | rfl | rfl <;> exact ⟨by decide, by decide, by unfold InR; decide⟩
  have := addA_any A c (wm k) w (fun b => b < w.heap.size) (fun _ h => h) h (node_ok hc) (lens_few hc (wm_few k) (by omega)) (by rw [wm_len]; omega) 1 (by unfold InR; omega) (rK k) (by omega) (pK k) hw.2.2 (cK k) (by omega)
  rw [wm_len, wm_next] at this
  refine this.mono ?_
  rintro _ w' ⟨⟨v, rfl, h⟩, hb⟩
  obtain ⟨A1, c1, rfl, hr⟩ := add_done hc (wm_add hk hc) h
  rw [wm_made hk] at hr ⊢
  rw [wm_len]
  exact ⟨A1, c1, by rw [wm_next, show (k : Int) + 2 + 1 = ((k + 1 : Nat) : Int) + 2 by omega], hr, hb⟩
section
variable (A : Option Addr) (c : Nat) (w : World) (h : RowOf 7 ENode w (fun b => b < w.heap.size) A (wm 4).nodes)
include h
theorem wake_find : Calls Try.prog 22 #[.agg #[.int .i64 6, .slice A 5 c], .int .i64 1] w fun e w' => ∃ P cp K ck R cr, e = .returned (.tuple #[.agg #[.int .i64 1, .string sL, .int .i64 0, .string ⟨#[]⟩, .slice P 0 cp, .slice K 4 ck, .slice R 0 cr], .bool true]) ∧ RowOf 1 EInt w' (fun b => b < w'.heap.size) K [5, 2, 4, 3] ∧ Below w.heap.size w w' := by
  have hc := wm_check 4 (by omega)
  refine (findA_any A c (wm 4) w (fun b => b < w.heap.size) (fun _ h => h) h (node_ok hc) (lens_few hc (wm_few 4) (by omega)) (by rw [wm_len]; omega) 1 (by unfold InR; omega)).mono ?_
  rintro _ w' ⟨⟨v, rfl, hf⟩, hb⟩
  rcases hf with ⟨x, hx, _, hi, vp, vk, vr, rfl, hp, hk, hr, _⟩ | ⟨hn, _⟩
  · have e : x = wroot 4 := node_inj hc.1.2 hx (wm_root 4) hi
    subst e
    obtain ⟨P, cp, rfl, _⟩ := hp
    obtain ⟨K, ck, rfl, _, _, h3⟩ := hk
    obtain ⟨R, cr, rfl, _⟩ := hr
    exact ⟨P, cp, K, ck, R, cr, rfl, RowOf.keep EInt.stays (Keep.refl _ _) (fun b hb => hb.2) h3, hb⟩
  · exact absurd ⟨hc, _, wm_root 4, rfl⟩ hn
theorem wake_move : Calls Try.prog 47 #[.agg #[.int .i64 6, .slice A 5 c], .int .i64 1, .int .i64 2, .string sItem, .int .i64 0] w fun e w' => e = .returned (.tuple #[.agg #[.int .i64 0, .slice none 0 0], .int .i64 21]) ∧ Below w.heap.size w w' := by
  have hc := wm_check 4 (by omega)
  refine (moveA_any A c (wm 4) w (fun b => b < w.heap.size) (fun _ h => h) h (node_ok hc) (lens_few hc (wm_few 4) (by omega)) (by rw [wm_len]; omega) 1 (by unfold InR; omega) 2 (by unfold InR; omega) sItem (by decide) 0 (by unfold InR; omega)).mono ?_
  rintro _ w' ⟨⟨v, rfl, hf⟩, hb⟩
  rw [w4_loop] at hf
  rcases hf with ⟨_, rfl⟩ | ⟨h0, _⟩
  · exact ⟨rfl, hb⟩
  · cases h0
theorem wake_kids : Calls Try.prog 29 #[.agg #[.int .i64 6, .slice A 5 c], .int .i64 1, .string sItem] w fun e w' => ∃ K ck, e = .returned (.slice K 3 ck) ∧ RowOf 1 EInt w' (fun b => b < w'.heap.size) K [5, 2, 4] ∧ Below w.heap.size w w' := by
  have hc := wm_check 4 (by omega)
  refine (kidsA_any A c (wm 4) w (fun b => b < w.heap.size) (fun _ h => h) h (node_ok hc) (by rw [wm_len]; omega) 1 (by unfold InR; omega) sItem).mono ?_
  rintro _ w' ⟨v, rfl, ho, hb⟩
  rw [w4_kids] at ho
  obtain ⟨K, ck, rfl⟩ := ho.shape
  exact ⟨K, ck, rfl, ho.row.1, hb⟩
theorem wake_check : Calls Try.prog 13 #[.agg #[.int .i64 6, .slice A 5 c]] w fun e w' => e = .returned (.int .i64 0) ∧ Below w.heap.size w w' := by
  have hc := wm_check 4 (by omega)
  exact int_is (checkI_yes hc) (check_any A c (wm 4) w (fun b => b < w.heap.size) (fun _ h => h) h (node_ok hc) (by rw [wm_len]; omega))
theorem wake_depth : Calls Try.prog 25 #[.agg #[.int .i64 6, .slice A 5 c], .int .i64 4] w fun e w' => e = .returned (.int .i64 2) ∧ Below w.heap.size w w' := by
  have hc := wm_check 4 (by omega)
  exact int_is w4_depth (depthA_any A c (wm 4) w (fun b => b < w.heap.size) (fun _ h => h) h (node_ok hc) (by rw [wm_len]; omega) 4 (by unfold InR; omega))
end
set_option maxRecDepth 100000 in
set_option maxHeartbeats 8000000 in
theorem wake_any (w : World) : Calls Try.prog 53 #[] w fun e w' => e = .returned (.bool true) ∧ Below w.heap.size w w' := by
  go_enter Try.func53, Try.ntmps53
  go_wp2_with fail
  refine (newA_any w).mono ?_
  rintro _ w1 ⟨rfl, hb⟩
  have MM : Hid (Mem w w1 ([])) := Lib.hid ((Mem.start w).call hb)
  clear hb
  go_wp2_with fail
  refine (wake_root w1).mono ?_
  rintro _ w2 ⟨Ak, ck, rfl, hrow, hb⟩
  have MM2 : Hid (Mem w w2 ([])) := Lib.hid (MM.out.call hb)
  clear MM
  have MM := MM2
  clear MM2
  have HR : Hid (∀ V, Below w2.heap.size w2 V → RowOf 7 ENode V (fun b => b < V.heap.size) Ak (wm 0).nodes) := Lib.hid (fun V hb => hrow.keep ENode.stays (Keep.below hb (fun _ h => h)) (fun b h => Nat.lt_of_lt_of_le h hb.size))
  clear hb hrow
  obtain ⟨g, hg⟩ : ∃ g, w2.heap.size = g := ⟨_, rfl⟩
  obtain ⟨w3, hu⟩ : ∃ z9 : World, w2.alloc (.cells #[.int .i64 2, .slice Ak 1 ck] 24) = z9 := ⟨_, rfl⟩
  have MM2 : Hid (Mem w w3 ([.blk g 24 #[.int .i64 2, .slice Ak 1 ck]])) := Lib.hid (by rw [← hu]; exact MM.out.allocG hg #[.int .i64 2, .slice Ak 1 ck] 24)
  clear MM
  have MM := MM2
  clear MM2
  have HR3 : Hid (RowOf 7 ENode w3 (fun b => b < w3.heap.size) Ak (wm 0).nodes) := Lib.hid (HR.out _ (by rw [← hu]; exact (Below.refl _ _).alloc (Nat.le_refl _) _))
  go_upto_region 2 with fail
  (try rw [hu])
  (try rw [hg])
  clear hu hg HR
  have gc0 := (MM.out.blk 0 rfl).cell 0
  have gc1 := (MM.out.blk 0 rfl).cell 1
  have glt := (MM.out.blk 0 rfl).lt
  simp at gc0 gc1
  go_upto_region 4 with fail
  clear gc0 gc1 glt
  obtain ⟨q, hq⟩ : ∃ q, w3.heap.size = q := ⟨_, rfl⟩
  obtain ⟨w4, hu⟩ : ∃ z9 : World, ((w3.alloc (.cells #[.string ⟨#[78, 117, 109]⟩, .string ⟨#[84, 101, 120, 116]⟩, .string ⟨#[83, 117, 109]⟩, .string ⟨#[78, 117, 109]⟩] 9)).alloc (.cells #[.string ⟨#[105, 116, 101, 109]⟩, .string ⟨#[110, 111, 116, 101]⟩, .string ⟨#[105, 116, 101, 109]⟩, .string ⟨#[105, 116, 101, 109]⟩] 9)).alloc (.cells #[.int .i64 0, .int .i64 0, .int .i64 1, .int .i64 0] 3) = z9 := ⟨_, rfl⟩
  have MM2 : Hid (Mem w w4 ([.blk g 24 #[.int .i64 2, .slice Ak 1 ck], .blk q 9 #[.string ⟨#[78, 117, 109]⟩, .string ⟨#[84, 101, 120, 116]⟩, .string ⟨#[83, 117, 109]⟩, .string ⟨#[78, 117, 109]⟩], .blk (q + 1) 9 #[.string ⟨#[105, 116, 101, 109]⟩, .string ⟨#[110, 111, 116, 101]⟩, .string ⟨#[105, 116, 101, 109]⟩, .string ⟨#[105, 116, 101, 109]⟩], .blk (q + 2) 3 #[.int .i64 0, .int .i64 0, .int .i64 1, .int .i64 0]])) := Lib.hid (by rw [← hu]; exact (by have h := ((MM.out.allocG hq #[.string ⟨#[78, 117, 109]⟩, .string ⟨#[84, 101, 120, 116]⟩, .string ⟨#[83, 117, 109]⟩, .string ⟨#[78, 117, 109]⟩] 9).allocG (g := q + 1) (by simp [hq]) #[.string ⟨#[105, 116, 101, 109]⟩, .string ⟨#[110, 111, 116, 101]⟩, .string ⟨#[105, 116, 101, 109]⟩, .string ⟨#[105, 116, 101, 109]⟩] 9).allocG (g := q + 2) (by simp [hq]) #[.int .i64 0, .int .i64 0, .int .i64 1, .int .i64 0] 3; exact h.pick0 [3, 2, 1, 0] _ (by decide) rfl))
  clear MM
  have MM := MM2
  clear MM2
  have HR4 : Hid (RowOf 7 ENode w4 (fun b => b < w4.heap.size) Ak (wm 0).nodes) := Lib.hid (HR3.out.keep ENode.stays (Keep.below (w := w3) (w' := w4) (B := w3.heap.size) (by rw [← hu]; exact (((Below.refl _ _).alloc (Nat.le_refl _) _).alloc (by simp) _).alloc (by simp; omega) _) (fun _ h => h)) (fun b h => by rw [← hu]; simp; omega))
  go_upto_region 6 with fail
  (try rw [hu])
  (try rw [hq])
  (try rw [hu])
  clear hu hq HR3
  go_loopg [2, 3, 7] 4 (fun n s2 s3 s7 wx => ∃ (k : Nat) (i2 i3 : Int) (Ak : Option Addr) (ck : Nat), s2 = .int .i64 i2 ∧ s3 = .int .i64 i3 ∧ s7 = .int .i64 k ∧ n = 4 - k ∧ k ≤ 4 ∧ Mem w wx [.blk g 24 #[.int .i64 ((k : Int) + 2), .slice Ak (k + 1) ck], .blk q 9 #[.string ⟨#[78, 117, 109]⟩, .string ⟨#[84, 101, 120, 116]⟩, .string ⟨#[83, 117, 109]⟩, .string ⟨#[78, 117, 109]⟩], .blk (q + 1) 9 #[.string ⟨#[105, 116, 101, 109]⟩, .string ⟨#[110, 111, 116, 101]⟩, .string ⟨#[105, 116, 101, 109]⟩, .string ⟨#[105, 116, 101, 109]⟩], .blk (q + 2) 3 #[.int .i64 0, .int .i64 0, .int .i64 1, .int .i64 0]] ∧ RowOf 7 ENode wx (fun b => b < wx.heap.size) Ak (wm k).nodes)
  case atStart => exact ⟨0, 1, 0, Ak, ck, rfl, rfl, rfl, rfl, by omega, MM.out, HR4.out⟩
  case round =>
    clear MM HR4
    obtain ⟨k, i2, i3, Ak, ck, rfl, rfl, rfl, rfl, hk4, hm, hr⟩ := hrel
    have MM := Lib.hid hm; have HR := Lib.hid hr
    clear hm hr
    by_cases hlt : k < 4
    · have hlt' : (k : Int) < 4 := by omega
      have hk0 : (0 : Int) ≤ k := by omega
      have HSM : Hid (∀ w', Blk w' q 9 #[.string ⟨#[78, 117, 109]⟩, .string ⟨#[84, 101, 120, 116]⟩, .string ⟨#[83, 117, 109]⟩, .string ⟨#[78, 117, 109]⟩] → Blk w' (q + 1) 9 #[.string ⟨#[105, 116, 101, 109]⟩, .string ⟨#[110, 111, 116, 101]⟩, .string ⟨#[105, 116, 101, 109]⟩, .string ⟨#[105, 116, 101, 109]⟩] → Blk w' (q + 2) 3 #[.int .i64 0, .int .i64 0, .int .i64 1, .int .i64 0] → w'.cell? ⟨q, k, none⟩ = some (.string (cK k)) ∧ w'.cell? ⟨q + 1, k, none⟩ = some (.string (rK k)) ∧ w'.cell? ⟨q + 2, k, none⟩ = some (.int .i64 (pK k))) := Lib.hid (fun w' h1 h2 h3 => by
        refine ⟨?_, ?_, ?_⟩
        · rw [h1.cell]; rcases (show k = 0 ∨ k = 1 ∨ k = 2 ∨ k = 3 by omega) with rfl | rfl | rfl | rfl <;> rfl
        · rw [h2.cell]; rcases (show k = 0 ∨ k = 1 ∨ k = 2 ∨ k = 3 by omega) with rfl | rfl | rfl | rfl <;> rfl
        · rw [h3.cell]; rcases (show k = 0 ∨ k = 1 ∨ k = 2 ∨ k = 3 by omega) with rfl | rfl | rfl | rfl <;> rfl)
      have HAD := Lib.hid (fun (w' : World) (h : RowOf 7 ENode w' (fun b => b < w'.heap.size) Ak (wm k).nodes) => wake_add hlt Ak ck w' h)
      obtain ⟨rk, hrk⟩ : ∃ z, rK k = z := ⟨_, rfl⟩
      obtain ⟨ckk, hck⟩ : ∃ z, cK k = z := ⟨_, rfl⟩
      obtain ⟨pk, hpk⟩ : ∃ z, pK k = z := ⟨_, rfl⟩
      rw [hrk, hck, hpk] at HAD HSM
      clear hrk hck hpk
      go_upto_region 8 with fail
      obtain ⟨u, hu⟩ : ∃ z9 : World, wr.drew = z9 := ⟨_, rfl⟩
      have MM2 : Hid (Mem w u ([.blk g 24 #[.int .i64 ((k : Int) + 2), .slice Ak (k + 1) ck], .blk q 9 #[.string ⟨#[78, 117, 109]⟩, .string ⟨#[84, 101, 120, 116]⟩, .string ⟨#[83, 117, 109]⟩, .string ⟨#[78, 117, 109]⟩], .blk (q + 1) 9 #[.string ⟨#[105, 116, 101, 109]⟩, .string ⟨#[110, 111, 116, 101]⟩, .string ⟨#[105, 116, 101, 109]⟩, .string ⟨#[105, 116, 101, 109]⟩], .blk (q + 2) 3 #[.int .i64 0, .int .i64 0, .int .i64 1, .int .i64 0]])) := Lib.hid (by rw [← hu]; exact MM.out.drew)
      clear MM
      have MM := MM2
      clear MM2
      have HDU : Hid (Below wr.heap.size wr u) := Lib.hid (by rw [← hu]; exact (Below.refl _ _).drew)
      refine wp_region_Y (S := (fun w' : World => w'.cell? ⟨q, k, none⟩ = some (.string ckk) ∧ w'.cell? ⟨q + 1, k, none⟩ = some (.string rk) ∧ w'.cell? ⟨q + 2, k, none⟩ = some (.int .i64 pk))) 20 (by kernel_rfl) (by rw [hu]; exact HSM.out _ (MM.out.blk 1 rfl) (MM.out.blk 2 rfl) (MM.out.blk 3 rfl)) (fun hHeld => ?_)
      rw [hu] at hHeld ⊢
      clear hu
      refine wpAnyY_take (i := 1) (v := ?_) rfl (by kernel_rfl) (by kernel_rfl) (by kernel_rfl) (by kernel_rfl) (fun _ _ _ h => h) (Or.inl ⟨by rfl, ?_⟩) (by assumption) ?_
      rotate_left 1
      · (intro w' hSw; obtain ⟨s0, s1, s2⟩ := hSw; go_simp); try with_reducible rfl
      try simp only [Act.put, List.setIfInBounds_toArray, List.set_cons_zero, List.set_cons_succ, Nat.zero_add]
      refine wpAnyY_take (i := 2) (v := ?_) rfl (by kernel_rfl) (by kernel_rfl) (by kernel_rfl) (by kernel_rfl) (fun _ _ _ h => h) (Or.inl ⟨by rfl, ?_⟩) (by assumption) ?_
      rotate_left 1
      · (intro w' hSw; obtain ⟨s0, s1, s2⟩ := hSw; go_simp); try with_reducible rfl
      try simp only [Act.put, List.setIfInBounds_toArray, List.set_cons_zero, List.set_cons_succ, Nat.zero_add]
      refine wpAnyY_take (i := 3) (v := ?_) rfl (by kernel_rfl) (by kernel_rfl) (by kernel_rfl) (by kernel_rfl) (fun _ _ _ h => h) (Or.inl ⟨by rfl, ?_⟩) (by assumption) ?_
      rotate_left 1
      · (intro w' hSw; obtain ⟨s0, s1, s2⟩ := hSw; go_simp); try with_reducible rfl
      try simp only [Act.put, List.setIfInBounds_toArray, List.set_cons_zero, List.set_cons_succ, Nat.zero_add]
      refine wpAnyY_take (i := 4) (v := ?_) rfl (by kernel_rfl) (by kernel_rfl) (by kernel_rfl) (by kernel_rfl) (fun _ _ _ h => h) (Or.inl ⟨by rfl, ?_⟩) (by assumption) ?_
      rotate_left 1
      · (intro w' hSw; obtain ⟨s0, s1, s2⟩ := hSw; go_simp); try with_reducible rfl
      try simp only [Act.put, List.setIfInBounds_toArray, List.set_cons_zero, List.set_cons_succ, Nat.zero_add]
      refine wpAnyY_take (i := 5) (v := ?_) rfl (by kernel_rfl) (by kernel_rfl) (by kernel_rfl) (by kernel_rfl) (fun _ _ _ h => h) (Or.inl ⟨by rfl, ?_⟩) (by assumption) ?_
      rotate_left 1
      · (intro w' hSw; obtain ⟨s0, s1, s2⟩ := hSw; go_simp); try with_reducible rfl
      try simp only [Act.put, List.setIfInBounds_toArray, List.set_cons_zero, List.set_cons_succ, Nat.zero_add]
      refine wpAnyY_take (i := 6) (v := ?_) rfl (by kernel_rfl) (by kernel_rfl) (by kernel_rfl) (by kernel_rfl) (fun _ _ _ h => h) (Or.inl ⟨by rfl, ?_⟩) (by assumption) ?_
      rotate_left 1
      · (intro w' hSw; obtain ⟨s0, s1, s2⟩ := hSw; go_simp); try with_reducible rfl
      try simp only [Act.put, List.setIfInBounds_toArray, List.set_cons_zero, List.set_cons_succ, Nat.zero_add]
      refine wpAnyY_take (i := 7) (v := ?_) rfl (by kernel_rfl) (by kernel_rfl) (by kernel_rfl) (by kernel_rfl) (fun _ _ _ h => h) (Or.inl ⟨by rfl, ?_⟩) (by assumption) ?_
      rotate_left 1
      · (intro w' hSw; obtain ⟨s0, s1, s2⟩ := hSw; go_simp); try with_reducible rfl
      try simp only [Act.put, List.setIfInBounds_toArray, List.set_cons_zero, List.set_cons_succ, Nat.zero_add]
      refine wpAnyY_take (i := 8) (v := ?_) rfl (by kernel_rfl) (by kernel_rfl) (by kernel_rfl) (by kernel_rfl) (fun _ _ _ h => h) (Or.inl ⟨by rfl, ?_⟩) (by assumption) ?_
      rotate_left 1
      · (intro w' hSw; obtain ⟨s0, s1, s2⟩ := hSw; go_simp); try with_reducible rfl
      try simp only [Act.put, List.setIfInBounds_toArray, List.set_cons_zero, List.set_cons_succ, Nat.zero_add]
      refine wpAnyY_take (i := 9) (v := ?_) rfl (by kernel_rfl) (by kernel_rfl) (by kernel_rfl) (by kernel_rfl) (fun _ _ _ h => h) (Or.inl ⟨by rfl, ?_⟩) (by assumption) ?_
      rotate_left 1
      · (intro w' hSw; obtain ⟨s0, s1, s2⟩ := hSw; go_simp); try with_reducible rfl
      try simp only [Act.put, List.setIfInBounds_toArray, List.set_cons_zero, List.set_cons_succ, Nat.zero_add]
      refine wpAnyY_take (i := 10) (v := ?_) rfl (by kernel_rfl) (by kernel_rfl) (by kernel_rfl) (by kernel_rfl) (fun _ _ _ h => h) (Or.inl ⟨by rfl, ?_⟩) (by assumption) ?_
      rotate_left 1
      · (intro w' hSw; obtain ⟨s0, s1, s2⟩ := hSw; go_simp); try with_reducible rfl
      try simp only [Act.put, List.setIfInBounds_toArray, List.set_cons_zero, List.set_cons_succ, Nat.zero_add]
      refine wpAnyY_take (i := 11) (v := ?_) rfl (by kernel_rfl) (by kernel_rfl) (by kernel_rfl) (by kernel_rfl) (fun _ _ _ h => h) (Or.inl ⟨by rfl, ?_⟩) (by assumption) ?_
      rotate_left 1
      · (intro w' hSw; obtain ⟨s0, s1, s2⟩ := hSw; go_simp); try with_reducible rfl
      try simp only [Act.put, List.setIfInBounds_toArray, List.set_cons_zero, List.set_cons_succ, Nat.zero_add]
      refine wpAnyY_take (i := 12) (v := ?_) rfl (by kernel_rfl) (by kernel_rfl) (by kernel_rfl) (by kernel_rfl) (fun _ _ _ h => h) (Or.inl ⟨by rfl, ?_⟩) (by assumption) ?_
      rotate_left 1
      · (intro w' hSw; obtain ⟨s0, s1, s2⟩ := hSw; go_simp); try with_reducible rfl
      try simp only [Act.put, List.setIfInBounds_toArray, List.set_cons_zero, List.set_cons_succ, Nat.zero_add]
      refine wpAnyY_one (i := 0) rfl (by kernel_rfl) (fun K hK => ?_)
      have r0 := (MM.out.blk 0 rfl).cell 0; have r1 := (MM.out.blk 0 rfl).cell 1
      have rlt := (MM.out.blk 0 rfl).lt
      simp at r0 r1
      go_simp
      refine hK.out _ _ (fun _ => hHeld) ?_
      clear r0 r1 rlt
      clear hK K
      try simp only [Act.put, List.setIfInBounds_toArray, List.set_cons_zero, List.set_cons_succ, Nat.zero_add]
      refine wpAnyY_one (i := 13) rfl (by kernel_rfl) (fun K hK => ?_)
      go_simp
      refine (HAD.out _ (HR.out.keep ENode.stays (Keep.below (B := wr.heap.size) HDU.out (fun _ h => h)) (fun b h => Nat.lt_of_lt_of_le h HDU.out.size))).mono ?_
      rintro _ v1 ⟨A1, c1, rfl, hrow, hb⟩
      have MM2 : Hid (Mem w v1 ([.blk g 24 #[.int .i64 ((k : Int) + 2), .slice Ak (k + 1) ck], .blk q 9 #[.string ⟨#[78, 117, 109]⟩, .string ⟨#[84, 101, 120, 116]⟩, .string ⟨#[83, 117, 109]⟩, .string ⟨#[78, 117, 109]⟩], .blk (q + 1) 9 #[.string ⟨#[105, 116, 101, 109]⟩, .string ⟨#[110, 111, 116, 101]⟩, .string ⟨#[105, 116, 101, 109]⟩, .string ⟨#[105, 116, 101, 109]⟩], .blk (q + 2) 3 #[.int .i64 0, .int .i64 0, .int .i64 1, .int .i64 0]])) := Lib.hid (MM.out.call hb)
      have HR2 := Lib.hid hrow
      have HGU : Hid (g < u.heap.size ∧ g < v1.heap.size) := Lib.hid (by have := (MM.out.blk 0 rfl).lt; have := hb.size; omega)
      clear MM HR hb hrow
      have MM := MM2
      clear MM2
      go_simp
      have hHeldv1 := HSM.out _ (MM.out.blk 1 rfl) (MM.out.blk 2 rfl) (MM.out.blk 3 rfl)
      refine hK.out _ _ (fun _ => HSM.out _ (MM.out.blk 1 rfl) (MM.out.blk 2 rfl) (MM.out.blk 3 rfl)) ?_
      clear hK K
      try simp only [Act.put, List.setIfInBounds_toArray, List.set_cons_zero, List.set_cons_succ, Nat.zero_add]
      refine wpAnyY_take (i := 14) (v := ?_) rfl (by kernel_rfl) (by kernel_rfl) (by kernel_rfl) (by kernel_rfl) (fun _ _ _ h => h) (Or.inl ⟨by rfl, ?_⟩) (by assumption) ?_
      rotate_left 1
      · (intro w' hSw; obtain ⟨s0, s1, s2⟩ := hSw; go_simp); try with_reducible rfl
      try simp only [Act.put, List.setIfInBounds_toArray, List.set_cons_zero, List.set_cons_succ, Nat.zero_add]
      refine wpAnyY_take (i := 15) (v := ?_) rfl (by kernel_rfl) (by kernel_rfl) (by kernel_rfl) (by kernel_rfl) (fun _ _ _ h => h) (Or.inl ⟨by rfl, ?_⟩) (by assumption) ?_
      rotate_left 1
      · (intro w' hSw; obtain ⟨s0, s1, s2⟩ := hSw; go_simp); try with_reducible rfl
      try simp only [Act.put, List.setIfInBounds_toArray, List.set_cons_zero, List.set_cons_succ, Nat.zero_add]
      refine wpAnyY_take (i := 16) (v := ?_) rfl (by kernel_rfl) (by kernel_rfl) (by kernel_rfl) (by kernel_rfl) (fun _ _ _ h => h) (Or.inl ⟨by rfl, ?_⟩) (by assumption) ?_
      rotate_left 1
      · (intro w' hSw; obtain ⟨s0, s1, s2⟩ := hSw; go_simp); try with_reducible rfl
      try simp only [Act.put, List.setIfInBounds_toArray, List.set_cons_zero, List.set_cons_succ, Nat.zero_add]
      refine wpAnyY_take (i := 17) (v := ?_) rfl (by kernel_rfl) (by kernel_rfl) (by kernel_rfl) (by kernel_rfl) (fun _ _ _ h => h) (Or.inl ⟨by rfl, ?_⟩) (by assumption) ?_
      rotate_left 1
      · (intro w' hSw; obtain ⟨s0, s1, s2⟩ := hSw; go_simp); try with_reducible rfl
      try simp only [Act.put, List.setIfInBounds_toArray, List.set_cons_zero, List.set_cons_succ, Nat.zero_add]
      refine wpAnyY_one (i := 18) rfl (by kernel_rfl) (fun K hK => ?_)
      have t0 := (MM.out.blk 0 rfl).frozen 0; have t1 := (MM.out.blk 0 rfl).frozen 1
      have r0 := (MM.out.blk 0 rfl).cell 0; have r1 := (MM.out.blk 0 rfl).cell 1
      have rlt := (MM.out.blk 0 rfl).lt
      simp at r0 r1
      have HR3 : Hid (RowOf 7 ENode ((v1.setCell ⟨g, 0, none⟩ (.int .i64 (((k + 1 : Nat) : Int) + 2))).setCell ⟨g, 1, none⟩ (.slice A1 (k + 1 + 1) c1)) (fun b => b < ((v1.setCell ⟨g, 0, none⟩ (.int .i64 (((k + 1 : Nat) : Int) + 2))).setCell ⟨g, 1, none⟩ (.slice A1 (k + 1 + 1) c1)).heap.size) A1 (wm (k + 1)).nodes) := Lib.hid (HR2.out.keep ENode.stays ((keep_set _ ⟨g, 0, none⟩ _ (fun b hb => by have := HGU.out; show b ≠ g; have := hb.1; omega)).trans (keep_set _ ⟨g, 1, none⟩ _ (fun b hb => by have := HGU.out; show b ≠ g; have := hb.1; omega))) (fun b hb => by have h2 := hb.2; simpa using h2))
      have MM2 : Hid (Mem w ((v1.setCell ⟨g, 0, none⟩ (.int .i64 (((k + 1 : Nat) : Int) + 2))).setCell ⟨g, 1, none⟩ (.slice A1 (k + 1 + 1) c1)) ([.blk g 24 #[.int .i64 (((k + 1 : Nat) : Int) + 2), .slice A1 (k + 1 + 1) c1], .blk q 9 #[.string ⟨#[78, 117, 109]⟩, .string ⟨#[84, 101, 120, 116]⟩, .string ⟨#[83, 117, 109]⟩, .string ⟨#[78, 117, 109]⟩], .blk (q + 1) 9 #[.string ⟨#[105, 116, 101, 109]⟩, .string ⟨#[110, 111, 116, 101]⟩, .string ⟨#[105, 116, 101, 109]⟩, .string ⟨#[105, 116, 101, 109]⟩], .blk (q + 2) 3 #[.int .i64 0, .int .i64 0, .int .i64 1, .int .i64 0]])) := Lib.hid ((MM.out.set_ 0 rfl 0 (.int .i64 (((k + 1 : Nat) : Int) + 2))).set_ 0 rfl 1 (.slice A1 (k + 1 + 1) c1))
      clear MM HR2
      have MM := MM2
      clear MM2
      have HSF := Lib.hid (HSM.out _ (MM.out.blk 1 rfl) (MM.out.blk 2 rfl) (MM.out.blk 3 rfl))
      go_simp
      refine hK.out _ _ (fun _ => HSF.out) ?_
      clear t0 t1 r0 r1 rlt
      clear hK K
      try simp only [Act.put, List.setIfInBounds_toArray, List.set_cons_zero, List.set_cons_succ, Nat.zero_add]
      refine wpAnyY_one (i := 19) rfl (by kernel_rfl) (fun K hK => ?_)
      go_simp
      refine hK.out _ _ (fun _ => HSF.out) ?_
      clear hK K
      try simp only [Act.put, List.setIfInBounds_toArray, List.set_cons_zero, List.set_cons_succ, Nat.zero_add]
      refine wpAnyY_one0 (i := 20) rfl (by kernel_rfl) (by kernel_rfl) (fun K hK => ?_)
      go_simp
      refine hK.out _ _ ?_
      clear hK K
      try simp only [Act.put, List.setIfInBounds_toArray, List.set_cons_zero, List.set_cons_succ, Nat.zero_add]
      refine wpAnyY_done (by kernel_rfl) ?_ _
      clear hHeld hHeldv1 HSF HGU HSM HAD HDU
      have hw2 : IntKind.i64.wrap ((k : Int) + 2) = (k : Int) + 2 := IntWalk.i64_in _ ⟨by omega, by omega⟩
      go_wp2_with fail
      go_roundg (4 - (k + 1))
      case measure => omega
      case rel => exact ⟨k + 1, (k : Int) + 2, 0, A1, c1, rfl, rfl, by go_num, rfl, by omega, MM.out, HR3.out⟩
    · obtain rfl : k = 4 := by omega
      have hlt' : ¬ ((4 : Nat) : Int) < 4 := by omega
      have MM2 : Hid (Mem w wr ([.blk g 24 #[.int .i64 6, .slice Ak 5 ck], .blk q 9 #[.string ⟨#[78, 117, 109]⟩, .string ⟨#[84, 101, 120, 116]⟩, .string ⟨#[83, 117, 109]⟩, .string ⟨#[78, 117, 109]⟩], .blk (q + 1) 9 #[.string ⟨#[105, 116, 101, 109]⟩, .string ⟨#[110, 111, 116, 101]⟩, .string ⟨#[105, 116, 101, 109]⟩, .string ⟨#[105, 116, 101, 109]⟩], .blk (q + 2) 3 #[.int .i64 0, .int .i64 0, .int .i64 1, .int .i64 0]])) := MM
      clear MM
      have MM := MM2
      clear MM2 hlt hk4
      have MM2 : Hid (Mem w wr ([.blk g 24 #[.int .i64 6, .slice Ak 5 ck]])) := Lib.hid (Mem.pick0 MM.out [0] [.blk g 24 #[.int .i64 6, .slice Ak 5 ck]] (by decide) rfl)
      clear MM
      have MM := MM2
      clear MM2
      have gc0 := (MM.out.blk 0 rfl).cell 0
      have gc1 := (MM.out.blk 0 rfl).cell 1
      have glt := (MM.out.blk 0 rfl).lt
      simp at gc0 gc1
      go_wp2_with fail
      refine (wake_find Ak ck wr HR.out).mono ?_
      rintro _ f1 ⟨P, cp, K, kk, R, cr, rfl, hkr, hb⟩
      clear gc0 gc1 glt
      have MM2 : Hid (Mem w f1 ([.blk g 24 #[.int .i64 6, .slice Ak 5 ck]])) := Lib.hid (MM.out.call hb)
      clear MM
      have MM := MM2
      clear MM2
      have HK := Lib.hid hkr
      have HR2 := Lib.hid (HR.out.keep ENode.stays (Keep.below (B := wr.heap.size) hb (fun _ h => h)) (F' := fun b => b < f1.heap.size) (fun b h => Nat.lt_of_lt_of_le h hb.size))
      clear HR
      have HR := HR2
      clear HR2
      clear hb hkr hlt'
      obtain ⟨hn, hhn⟩ : ∃ x, f1.heap.size = x := ⟨_, rfl⟩
      obtain ⟨f2, hu⟩ : ∃ z9 : World, f1.alloc (.cells #[.int .i64 1, .string sL, .int .i64 0, .string ⟨#[]⟩, .slice P 0 cp, .slice K 4 kk, .slice R 0 cr] 38) = z9 := ⟨_, rfl⟩
      have hb : Below f1.heap.size f1 f2 := by rw [← hu]; exact (Below.refl _ _).alloc (Nat.le_refl _) _
      have MM2 : Hid (Mem w f2 ([.blk hn 38 #[.int .i64 1, .string sL, .int .i64 0, .string ⟨#[]⟩, .slice P 0 cp, .slice K 4 kk, .slice R 0 cr], .blk g 24 #[.int .i64 6, .slice Ak 5 ck]])) := Lib.hid (by rw [← hu]; exact MM.out.allocG hhn #[.int .i64 1, .string sL, .int .i64 0, .string ⟨#[]⟩, .slice P 0 cp, .slice K 4 kk, .slice R 0 cr] 38)
      clear MM
      have MM := MM2
      clear MM2
      have HR2 := Lib.hid (HR.out.keep ENode.stays (Keep.below (B := f1.heap.size) hb (fun _ h => h)) (F' := fun b => b < f2.heap.size) (fun b h => Nat.lt_of_lt_of_le h hb.size))
      clear HR
      have HR := HR2
      clear HR2
      have HK2 := Lib.hid (HK.out.keep EInt.stays (Keep.below (B := f1.heap.size) hb (fun _ h => h)) (F' := fun b => b < f2.heap.size) (fun b h => Nat.lt_of_lt_of_le h hb.size))
      clear HK
      have HK := HK2
      clear HK2
      have HU9 := Lib.hid hu; have HH9 := Lib.hid hhn
      clear hb hu hhn
      go_upto_region 12 with fail
      (try rw [HU9.out])
      (try rw [HH9.out])
      (try rw [HU9.out])
      clear HU9 HH9
      have gc0 := (MM.out.blk 1 rfl).cell 0
      have gc1 := (MM.out.blk 1 rfl).cell 1
      have glt := (MM.out.blk 1 rfl).lt
      simp at gc0 gc1
      go_wp2_with fail
      refine (wake_move Ak ck f2 HR.out).mono ?_
      rintro _ f3 ⟨rfl, hb⟩
      clear gc0 gc1 glt
      have MM2 : Hid (Mem w f3 ([.blk hn 38 #[.int .i64 1, .string sL, .int .i64 0, .string ⟨#[]⟩, .slice P 0 cp, .slice K 4 kk, .slice R 0 cr], .blk g 24 #[.int .i64 6, .slice Ak 5 ck]])) := Lib.hid (MM.out.call hb)
      clear MM
      have MM := MM2
      clear MM2
      have HR2 := Lib.hid (HR.out.keep ENode.stays (Keep.below (B := f2.heap.size) hb (fun _ h => h)) (F' := fun b => b < f3.heap.size) (fun b h => Nat.lt_of_lt_of_le h hb.size))
      clear HR
      have HR := HR2
      clear HR2
      have HK2 := Lib.hid (HK.out.keep EInt.stays (Keep.below (B := f2.heap.size) hb (fun _ h => h)) (F' := fun b => b < f3.heap.size) (fun b h => Nat.lt_of_lt_of_le h hb.size))
      clear HK
      have HK := HK2
      clear HK2
      clear hb
      obtain ⟨hz, hhz⟩ : ∃ x, f3.heap.size = x := ⟨_, rfl⟩
      obtain ⟨f4, hu⟩ : ∃ z9 : World, f3.alloc (.cells #[.int .i64 0, .slice none 0 0] 24) = z9 := ⟨_, rfl⟩
      have hb : Below f3.heap.size f3 f4 := by rw [← hu]; exact (Below.refl _ _).alloc (Nat.le_refl _) _
      have MM2 : Hid (Mem w f4 ([.blk hz 24 #[.int .i64 0, .slice none 0 0], .blk hn 38 #[.int .i64 1, .string sL, .int .i64 0, .string ⟨#[]⟩, .slice P 0 cp, .slice K 4 kk, .slice R 0 cr], .blk g 24 #[.int .i64 6, .slice Ak 5 ck]])) := Lib.hid (by rw [← hu]; exact MM.out.allocG hhz #[.int .i64 0, .slice none 0 0] 24)
      clear MM
      have MM := MM2
      clear MM2
      have HR2 := Lib.hid (HR.out.keep ENode.stays (Keep.below (B := f3.heap.size) hb (fun _ h => h)) (F' := fun b => b < f4.heap.size) (fun b h => Nat.lt_of_lt_of_le h hb.size))
      clear HR
      have HR := HR2
      clear HR2
      have HK2 := Lib.hid (HK.out.keep EInt.stays (Keep.below (B := f3.heap.size) hb (fun _ h => h)) (F' := fun b => b < f4.heap.size) (fun b h => Nat.lt_of_lt_of_le h hb.size))
      clear HK
      have HK := HK2
      clear HK2
      have HU9 := Lib.hid hu; have HH9 := Lib.hid hhz
      clear hb hu hhz
      go_upto_region 13 with fail
      (try rw [HU9.out])
      (try rw [HH9.out])
      (try rw [HU9.out])
      clear HU9 HH9
      have nc5 := (MM.out.blk 1 rfl).cell 5
      have nlt := (MM.out.blk 1 rfl).lt
      simp at nc5
      obtain ⟨ha, hha⟩ : ∃ x, f4.heap.size = x := ⟨_, rfl⟩
      obtain ⟨f4a, hu⟩ : ∃ z9 : World, f4.alloc (.cells #[.int .i64 5, .int .i64 2, .int .i64 4, .int .i64 3] 3) = z9 := ⟨_, rfl⟩
      have hb : Below f4.heap.size f4 f4a := by rw [← hu]; exact (Below.refl _ _).alloc (Nat.le_refl _) _
      have MM2 : Hid (Mem w f4a ([.blk ha 3 #[.int .i64 5, .int .i64 2, .int .i64 4, .int .i64 3], .blk hz 24 #[.int .i64 0, .slice none 0 0], .blk hn 38 #[.int .i64 1, .string sL, .int .i64 0, .string ⟨#[]⟩, .slice P 0 cp, .slice K 4 kk, .slice R 0 cr], .blk g 24 #[.int .i64 6, .slice Ak 5 ck]])) := Lib.hid (by rw [← hu]; exact MM.out.allocG hha #[.int .i64 5, .int .i64 2, .int .i64 4, .int .i64 3] 3)
      clear MM
      have MM := MM2
      clear MM2
      have HR2 := Lib.hid (HR.out.keep ENode.stays (Keep.below (B := f4.heap.size) hb (fun _ h => h)) (F' := fun b => b < f4a.heap.size) (fun b h => Nat.lt_of_lt_of_le h hb.size))
      clear HR
      have HR := HR2
      clear HR2
      have HK2 := Lib.hid (HK.out.keep EInt.stays (Keep.below (B := f4.heap.size) hb (fun _ h => h)) (F' := fun b => b < f4a.heap.size) (fun b h => Nat.lt_of_lt_of_le h hb.size))
      clear HK
      have HK := HK2
      clear HK2
      have HU9 := Lib.hid hu; have HH9 := Lib.hid hha
      clear hb hu hha
      go_wp2_with fail
      (try rw [HU9.out])
      (try rw [HH9.out])
      (try rw [HU9.out])
      clear HU9 HH9
      clear nc5 nlt
      have HLI : Hid (RowOf 1 EInt f4a (fun b => b < f4a.heap.size) (some ⟨ha, 0, none⟩) [5, 2, 4, 3]) := Lib.hid (lit_row (MM.out.blk 0 rfl) (fun i hi => by
        have hi : i < 4 := hi
        rcases (show i = 0 ∨ i = 1 ∨ i = 2 ∨ i = 3 by omega) with rfl | rfl | rfl | rfl <;> rfl))
      refine (res_is (eqB_yes (rfl : ([5, 2, 4, 3] : List Int) = [5, 2, 4, 3])) (ints_any K (some ⟨ha, 0, none⟩) kk 4 [5, 2, 4, 3] [5, 2, 4, 3] f4a _ _ HK.out HLI.out (by simp))).mono ?_
      rintro _ _ ⟨rfl, nq, rfl⟩
      obtain ⟨f5, hu⟩ : ∃ z9 : World, f4a.drewN nq = z9 := ⟨_, rfl⟩
      have hb : Below f4a.heap.size f4a f5 := by rw [← hu]; exact below_drewN (Below.refl _ _) nq
      rw [hu]
      clear hu HLI
      have MM2 : Hid (Mem w f5 ([.blk ha 3 #[.int .i64 5, .int .i64 2, .int .i64 4, .int .i64 3], .blk hz 24 #[.int .i64 0, .slice none 0 0], .blk hn 38 #[.int .i64 1, .string sL, .int .i64 0, .string ⟨#[]⟩, .slice P 0 cp, .slice K 4 kk, .slice R 0 cr], .blk g 24 #[.int .i64 6, .slice Ak 5 ck]])) := Lib.hid (MM.out.call hb)
      clear MM
      have MM := MM2
      clear MM2
      have HR2 := Lib.hid (HR.out.keep ENode.stays (Keep.below (B := f4a.heap.size) hb (fun _ h => h)) (F' := fun b => b < f5.heap.size) (fun b h => Nat.lt_of_lt_of_le h hb.size))
      clear HR
      have HR := HR2
      clear HR2
      have HK2 := Lib.hid (HK.out.keep EInt.stays (Keep.below (B := f4a.heap.size) hb (fun _ h => h)) (F' := fun b => b < f5.heap.size) (fun b h => Nat.lt_of_lt_of_le h hb.size))
      clear HK
      have HK := HK2
      clear HK2
      clear hb
      have gc0 := (MM.out.blk 3 rfl).cell 0
      have gc1 := (MM.out.blk 3 rfl).cell 1
      have glt := (MM.out.blk 3 rfl).lt
      simp at gc0 gc1
      go_wp2_with fail
      refine (wake_kids Ak ck f5 HR.out).mono ?_
      rintro _ f6 ⟨K2, k2, rfl, hkr, hb⟩
      clear gc0 gc1 glt
      have MM2 : Hid (Mem w f6 ([.blk ha 3 #[.int .i64 5, .int .i64 2, .int .i64 4, .int .i64 3], .blk hz 24 #[.int .i64 0, .slice none 0 0], .blk hn 38 #[.int .i64 1, .string sL, .int .i64 0, .string ⟨#[]⟩, .slice P 0 cp, .slice K 4 kk, .slice R 0 cr], .blk g 24 #[.int .i64 6, .slice Ak 5 ck]])) := Lib.hid (MM.out.call hb)
      clear MM
      have MM := MM2
      clear MM2
      have HR2 := Lib.hid (HR.out.keep ENode.stays (Keep.below (B := f5.heap.size) hb (fun _ h => h)) (F' := fun b => b < f6.heap.size) (fun b h => Nat.lt_of_lt_of_le h hb.size))
      clear HR
      have HR := HR2
      clear HR2
      clear HK
      have HK := Lib.hid hkr
      clear hkr hb
      obtain ⟨hc, hhc⟩ : ∃ x, f6.heap.size = x := ⟨_, rfl⟩
      obtain ⟨f6a, hu⟩ : ∃ z9 : World, f6.alloc (.cells #[.int .i64 5, .int .i64 2, .int .i64 4] 3) = z9 := ⟨_, rfl⟩
      have hb : Below f6.heap.size f6 f6a := by rw [← hu]; exact (Below.refl _ _).alloc (Nat.le_refl _) _
      have MM2 : Hid (Mem w f6a ([.blk hc 3 #[.int .i64 5, .int .i64 2, .int .i64 4], .blk ha 3 #[.int .i64 5, .int .i64 2, .int .i64 4, .int .i64 3], .blk hz 24 #[.int .i64 0, .slice none 0 0], .blk hn 38 #[.int .i64 1, .string sL, .int .i64 0, .string ⟨#[]⟩, .slice P 0 cp, .slice K 4 kk, .slice R 0 cr], .blk g 24 #[.int .i64 6, .slice Ak 5 ck]])) := Lib.hid (by rw [← hu]; exact MM.out.allocG hhc #[.int .i64 5, .int .i64 2, .int .i64 4] 3)
      clear MM
      have MM := MM2
      clear MM2
      have HR2 := Lib.hid (HR.out.keep ENode.stays (Keep.below (B := f6.heap.size) hb (fun _ h => h)) (F' := fun b => b < f6a.heap.size) (fun b h => Nat.lt_of_lt_of_le h hb.size))
      clear HR
      have HR := HR2
      clear HR2
      have HK2 := Lib.hid (HK.out.keep EInt.stays (Keep.below (B := f6.heap.size) hb (fun _ h => h)) (F' := fun b => b < f6a.heap.size) (fun b h => Nat.lt_of_lt_of_le h hb.size))
      clear HK
      have HK := HK2
      clear HK2
      have HU9 := Lib.hid hu; have HH9 := Lib.hid hhc
      clear hb hu hhc
      go_wp2_with fail
      (try rw [HU9.out])
      (try rw [HH9.out])
      (try rw [HU9.out])
      clear HU9 HH9
      have HLI : Hid (RowOf 1 EInt f6a (fun b => b < f6a.heap.size) (some ⟨hc, 0, none⟩) [5, 2, 4]) := Lib.hid (lit_row (MM.out.blk 0 rfl) (fun i hi => by
        have hi : i < 3 := hi
        rcases (show i = 0 ∨ i = 1 ∨ i = 2 by omega) with rfl | rfl | rfl <;> rfl))
      refine (res_is (eqB_yes (rfl : ([5, 2, 4] : List Int) = [5, 2, 4])) (ints_any K2 (some ⟨hc, 0, none⟩) k2 3 [5, 2, 4] [5, 2, 4] f6a _ _ HK.out HLI.out (by simp))).mono ?_
      rintro _ _ ⟨rfl, nq, rfl⟩
      obtain ⟨f7, hu⟩ : ∃ z9 : World, f6a.drewN nq = z9 := ⟨_, rfl⟩
      have hb : Below f6a.heap.size f6a f7 := by rw [← hu]; exact below_drewN (Below.refl _ _) nq
      rw [hu]
      clear hu HLI
      have MM2 : Hid (Mem w f7 ([.blk hc 3 #[.int .i64 5, .int .i64 2, .int .i64 4], .blk ha 3 #[.int .i64 5, .int .i64 2, .int .i64 4, .int .i64 3], .blk hz 24 #[.int .i64 0, .slice none 0 0], .blk hn 38 #[.int .i64 1, .string sL, .int .i64 0, .string ⟨#[]⟩, .slice P 0 cp, .slice K 4 kk, .slice R 0 cr], .blk g 24 #[.int .i64 6, .slice Ak 5 ck]])) := Lib.hid (MM.out.call hb)
      clear MM
      have MM := MM2
      clear MM2
      have HR2 := Lib.hid (HR.out.keep ENode.stays (Keep.below (B := f6a.heap.size) hb (fun _ h => h)) (F' := fun b => b < f7.heap.size) (fun b h => Nat.lt_of_lt_of_le h hb.size))
      clear HR
      have HR := HR2
      clear HR2
      have HK2 := Lib.hid (HK.out.keep EInt.stays (Keep.below (B := f6a.heap.size) hb (fun _ h => h)) (F' := fun b => b < f7.heap.size) (fun b h => Nat.lt_of_lt_of_le h hb.size))
      clear HK
      have HK := HK2
      clear HK2
      clear hb
      have gc0 := (MM.out.blk 4 rfl).cell 0
      have gc1 := (MM.out.blk 4 rfl).cell 1
      have glt := (MM.out.blk 4 rfl).lt
      simp at gc0 gc1
      go_wp2_with fail
      refine (wake_check Ak ck f7 HR.out).mono ?_
      rintro _ f8 ⟨rfl, hb⟩
      clear gc0 gc1 glt
      have MM2 : Hid (Mem w f8 ([.blk hc 3 #[.int .i64 5, .int .i64 2, .int .i64 4], .blk ha 3 #[.int .i64 5, .int .i64 2, .int .i64 4, .int .i64 3], .blk hz 24 #[.int .i64 0, .slice none 0 0], .blk hn 38 #[.int .i64 1, .string sL, .int .i64 0, .string ⟨#[]⟩, .slice P 0 cp, .slice K 4 kk, .slice R 0 cr], .blk g 24 #[.int .i64 6, .slice Ak 5 ck]])) := Lib.hid (MM.out.call hb)
      clear MM
      have MM := MM2
      clear MM2
      have HR2 := Lib.hid (HR.out.keep ENode.stays (Keep.below (B := f7.heap.size) hb (fun _ h => h)) (F' := fun b => b < f8.heap.size) (fun b h => Nat.lt_of_lt_of_le h hb.size))
      clear HR
      have HR := HR2
      clear HR2
      clear hb
      have gc0 := (MM.out.blk 4 rfl).cell 0
      have gc1 := (MM.out.blk 4 rfl).cell 1
      have glt := (MM.out.blk 4 rfl).lt
      simp at gc0 gc1
      go_wp2_with fail
      refine (wake_depth Ak ck f8 HR.out).mono ?_
      rintro _ f9 ⟨rfl, hb⟩
      clear gc0 gc1 glt
      have MM2 : Hid (Mem w f9 ([.blk hc 3 #[.int .i64 5, .int .i64 2, .int .i64 4], .blk ha 3 #[.int .i64 5, .int .i64 2, .int .i64 4, .int .i64 3], .blk hz 24 #[.int .i64 0, .slice none 0 0], .blk hn 38 #[.int .i64 1, .string sL, .int .i64 0, .string ⟨#[]⟩, .slice P 0 cp, .slice K 4 kk, .slice R 0 cr], .blk g 24 #[.int .i64 6, .slice Ak 5 ck]])) := Lib.hid (MM.out.call hb)
      clear MM
      have MM := MM2
      clear MM2
      clear hb
      go_wp2
      go_ret
      exact ⟨rfl, MM.out.below⟩
end Go.Proofs.Ytmafhaadcjgcbaa
end
section
/- a row of acts, an act, that are arguments -/
namespace Go.Proofs.Ytmafhaadcjgcbaa
open Go Go.ChangeShapes Go.WideShapes Go.ChangeAt Go.RowKit Go.Deep

def qactCells (a : QAct) : List Value := [.int .i64 a.kind, .int .i64 a.a, .int .i64 a.b, .int .i64 a.at', .string a.word, .string a.text]
def EQAct : World → (Nat → Prop) → QAct → List Value → Prop := EFlat qactCells
theorem EQAct.stays : Stays EQAct := EFlat.stays _
instance : Inhabited QAct := ⟨⟨0, 0, 0, 0, ⟨#[]⟩, ⟨#[]⟩⟩⟩
section
variable {w : World} {F : Nat → Prop} {A : Option Addr}
theorem qact_at {l : List QAct} (h : RowOf 6 EQAct w F A l) {i : Nat} (hi : i < l.length) : ∃ b off, A = some ⟨b, off, none⟩ ∧ F b ∧ w.cell? ⟨b, off + i * 6, none⟩ = some (.int .i64 l[i].kind) ∧ w.cell? ⟨b, off + i * 6 + 1, none⟩ = some (.int .i64 l[i].a) ∧ w.cell? ⟨b, off + i * 6 + 2, none⟩ = some (.int .i64 l[i].b) ∧ w.cell? ⟨b, off + i * 6 + 3, none⟩ = some (.int .i64 l[i].at') ∧ w.cell? ⟨b, off + i * 6 + 4, none⟩ = some (.string l[i].word) ∧ w.cell? ⟨b, off + i * 6 + 5, none⟩ = some (.string l[i].text) := by
  obtain ⟨b, off, rfl, hb⟩ := h.1 (by intro hn; subst hn; simp at hi)
  obtain ⟨cs, _, hx, hc⟩ := h.2 i hi
  have hc := hc b off rfl
  unfold EQAct EFlat at hx
  subst hx
  exact ⟨b, off, rfl, hb, hc 0 (by omega), hc 1 (by omega), hc 2 (by omega), hc 3 (by omega), hc 4 (by omega), hc 5 (by omega)⟩
end
section
variable {H : Type} {enc : TypeId × Value → H} {w : World} {base : Nat} {spare : Nat → Bool} {held : Bool}
theorem qact_trod (fuel : Nat) (cs : List Value) (x : DataW H × List MemPlace) (hl : cs.length = 6) (h : DataW.trod enc Try.prog w base spare held fuel 74 cs = some x) (hw : WtOK Try.prog 74 x.1) :
    ∃ a : QAct, EQAct w (· < w.heap.size) a cs ∧ ActOK a := by
  match cs, hl with
  | [c0, c1, c2, c3, c4, c5], _ =>
    obtain ⟨_, _, k0, _⟩ := field_of_trodW Try.underlying74 h hw 0 _ rfl (by kernel_rfl) (by simp)
    obtain ⟨_, _, k1, _⟩ := field_of_trodW Try.underlying74 h hw 1 _ rfl (by kernel_rfl) (by simp)
    obtain ⟨_, _, k2, _⟩ := field_of_trodW Try.underlying74 h hw 2 _ rfl (by kernel_rfl) (by simp)
    obtain ⟨_, _, k3, _⟩ := field_of_trodW Try.underlying74 h hw 3 _ rfl (by kernel_rfl) (by simp)
    obtain ⟨_, _, k4, _⟩ := field_of_trodW Try.underlying74 h hw 4 _ rfl (by kernel_rfl) (by simp)
    obtain ⟨_, _, k5, _⟩ := field_of_trodW Try.underlying74 h hw 5 _ rfl (by kernel_rfl) (by simp)
    obtain ⟨n0, e0, _, h0⟩ := DataW.trod_int Try.underlying3 k0
    obtain ⟨n1, e1, _, h1⟩ := DataW.trod_int Try.underlying3 k1
    obtain ⟨n2, e2, _, h2⟩ := DataW.trod_int Try.underlying3 k2
    obtain ⟨n3, e3, _, h3⟩ := DataW.trod_int Try.underlying3 k3
    obtain ⟨s4, e4, _, h4⟩ := DataW.trod_string Try.underlying9 k4
    obtain ⟨s5, e5, _, h5⟩ := DataW.trod_string Try.underlying9 k5
    simp at e0 e1 e2 e3 e4 e5
    subst e0 e1 e2 e3 e4 e5
    exact ⟨⟨n0, n1, n2, n3, s4, s5⟩, rfl, wf_in h0, wf_in h1, wf_in h2, wf_in h3, by unfold maxLen at h4; exact h4, by unfold maxLen at h5; exact h5⟩
set_option maxRecDepth 100000 in
theorem qacts_arg {r : Reach} {b0 : Nat} {v : Value} {d : DataW H} {ps : List MemPlace} (hval : Value.okWide Try.prog w r b0 70 v) (h : DataW.Trod enc Try.prog w base spare held 70 v d ps) (hw : WtOK Try.prog 70 d) :
    ∃ l : List QAct, IsRow 6 EQAct w (· < w.heap.size) v l ∧ ∀ y ∈ l, ActOK y := by
  obtain ⟨a, len, cap, rfl⟩ := okWide_slice Try.underlying70 hval
  obtain ⟨fuel, hf⟩ := h
  obtain ⟨l, h1, h2, _⟩ := rowOf_trodW Try.underlying70 (by kernel_rfl : Try.prog.cellsOf 74 = 6) (by omega) qact_trod (by simpa [Value.cells] using hf) hw
  exact ⟨l, h1, h2⟩
set_option maxRecDepth 100000 in
/-- an act that is an argument -/
theorem qact_arg {r : Reach} {b0 : Nat} {v : Value} {d : DataW H} {ps : List MemPlace} (hval : Value.okWide Try.prog w r b0 74 v) (h : DataW.Trod enc Try.prog w base spare held 74 v d ps) (hw : WtOK Try.prog 74 d) :
    ∃ a : QAct, v = .agg (qactCells a).toArray ∧ ActOK a := by
  obtain ⟨cs, rfl, hsz⟩ := okWide_struct Try.underlying74 hval
  have hsz2 := hsz.trans (by kernel_rfl : Try.prog.cellsOf 74 = 6)
  obtain ⟨fuel, hf⟩ := h
  obtain ⟨a, e, ha⟩ := qact_trod fuel cs.toList (d, ps) (by rw [Array.length_toList]; exact hsz2) (by simpa [Value.cells] using hf) hw
  have e : cs.toList = qactCells a := e
  exact ⟨a, by rw [← e], ha⟩
end
end Go.Proofs.Ytmafhaadcjgcbaa
end
section
/- a model that acts make -/
namespace Go.Proofs.Ytmafhaadcjgcbaa
open Go Go.RowKit

theorem done_got2 {w w' : World} {g base : Nat} {A : Option Addr} {c : Nat} {m M : AModel} {E : Int} {v : Value} (hb : Below w.heap.size w w') (hg : g < base) (hr : RowOf 7 ENode w (fun b => g < b ∧ b < w.heap.size) A m.nodes) (h : DoneAs w' base A c m E M v) :
    ∃ A1 c1, v = .tuple #[.agg #[.int .i64 M.next, .slice A1 M.nodes.length c1], .int .i64 E] ∧ RowOf 7 ENode w' (fun b => g < b ∧ b < w'.heap.size) A1 M.nodes := by
  rcases h with ⟨_, rfl, rfl⟩ | ⟨hE, vl, l, rfl, ho, hl⟩
  · exact ⟨A, c, rfl, hr.keep ENode.stays (Keep.below hb (fun _ h => h.2)) (fun b h => ⟨h.1, Nat.lt_of_lt_of_le h.2 hb.size⟩)⟩
  · obtain ⟨A', c', e1, _, _, h3⟩ := ho.isRow (F := fun b => g < b ∧ b < w'.heap.size) (fun b h1 h => ⟨by omega, h⟩)
    rw [hl] at h3 e1
    exact ⟨A', c', by rw [e1, hE], h3⟩
/-- a right model, as it is answered -/
def BuiltAs (w' : World) (v : Value) : Prop := ∃ m A c, v = .agg #[.int .i64 m.next, .slice A m.nodes.length c] ∧ RowOf 7 ENode w' (fun b => b < w'.heap.size) A m.nodes ∧ CheckM m ∧ Few 150 m
set_option maxRecDepth 100000 in
set_option maxHeartbeats 8000000 in
theorem built_any (va : Value) (acts : List QAct) (w : World) (h : IsRow 6 EQAct w (fun b => b < w.heap.size) va acts) (hz : ∀ a ∈ acts, ActOK a) :
    Calls Try.prog 56 #[va] w fun e w' => (∃ v, e = .returned v ∧ BuiltAs w' v) ∧ Below w.heap.size w w' := by
  obtain ⟨Sa, ca, rfl, hc1, hc2, hr⟩ := h
  have HRA := Lib.hid (fun (w' : World) (hb : Below w.heap.size w w') => RowOf.keep EQAct.stays (Keep.below hb fun _ h => h) (F' := fun b => b < w.heap.size) (fun _ h => h) hr)
  have HZ := Lib.hid hz
  unfold maxLen at hc2
  clear hr hz
  obtain ⟨u0, hu0⟩ : ∃ u : World, w.alloc (.cells #[.int .i64 0, .slice none 0 0] 24) = u := ⟨_, rfl⟩
  have MM : Hid (Mem w u0 ([.blk w.heap.size 24 #[.int .i64 0, .slice none 0 0]])) := Lib.hid (by rw [← hu0]; exact (Mem.start w).allocG rfl #[.int .i64 0, .slice none 0 0] 24)
  have HU0 := Lib.hid hu0
  clear hu0
  go_enter Try.func56, Try.ntmps56
  go_wp2_with fail
  (try rw [HU0.out])
  clear HU0
  refine (newA_any u0).mono ?_
  rintro _ w2 ⟨rfl, hb⟩
  have MM2 : Hid (Mem w w2 ([.blk w.heap.size 24 #[.int .i64 0, .slice none 0 0]])) := Lib.hid (MM.out.call hb)
  clear MM
  have MM := MM2
  clear MM2
  clear hb
  obtain ⟨g, hg⟩ : ∃ g, w2.heap.size = g := ⟨_, rfl⟩
  have HWG : Hid (w.heap.size < g) := Lib.hid (by rw [← hg]; exact (MM.out.blk 0 rfl).lt)
  obtain ⟨w3, hu⟩ : ∃ z9 : World, w2.alloc (.cells #[.int .i64 1, .slice none 0 0] 24) = z9 := ⟨_, rfl⟩
  have MM2 : Hid (Mem w w3 ([.blk w.heap.size 24 #[.int .i64 0, .slice none 0 0], .blk g 24 #[.int .i64 1, .slice none 0 0]])) := Lib.hid (by rw [← hu]; exact (MM.out.allocG hg #[.int .i64 1, .slice none 0 0] 24).pick0 [1, 0] _ (by decide) rfl)
  clear MM
  have MM := MM2
  clear MM2
  have HU9 := Lib.hid hu; have HG9 := Lib.hid hg
  clear hu hg
  go_upto_region 3 with fail
  (try rw [HU9.out])
  (try rw [HG9.out])
  clear HU9 HG9
  go_loopg [4] acts.length (fun n s4 wx => ∃ (i : Nat) (m : AModel) (A : Option Addr) (c : Nat), s4 = .int .i64 i ∧ n = acts.length - i ∧ i ≤ acts.length ∧ i ≤ 150 ∧ Mem w wx [.blk w.heap.size 24 #[.int .i64 0, .slice none 0 0], .blk g 24 #[.int .i64 m.next, .slice A m.nodes.length c]] ∧ RowOf 7 ENode wx (fun b => g < b ∧ b < wx.heap.size) A m.nodes ∧ CheckM m ∧ Few i m)
  case atStart => exact ⟨0, m00, none, 0, rfl, rfl, Nat.zero_le _, Nat.zero_le _, MM.out, RowOf.nil _, new_check, new_few⟩
  case round =>
    clear MM
    obtain ⟨i, m, A, c, rfl, rfl, hil, hi150, hm, hr, hcm, hfw⟩ := hrel
    have HR := Lib.hid hr; have HCM := Lib.hid hcm; have HFW := Lib.hid hfw
    have hl4 : m.nodes.length ≤ 4096 := hcm.1.1.2.2
    obtain ⟨n, hn⟩ : ∃ n, m.nodes.length = n := ⟨_, rfl⟩
    rw [hn] at hm hl4
    have HN := Lib.hid hn; have MM := Lib.hid hm
    clear hm hr hcm hfw hn
    have hi0 : (0 : Int) ≤ i := by omega
    by_cases h1 : i < acts.length
    rotate_left 1
    · have xc0 := (MM.out.blk 1 rfl).cell 0
      have xc1 := (MM.out.blk 1 rfl).cell 1
      have xlt := (MM.out.blk 1 rfl).lt
      simp at xc0 xc1
      have rc0 := (MM.out.blk 0 rfl).cell 0
      have rc1 := (MM.out.blk 0 rfl).cell 1
      have rf0 := (MM.out.blk 0 rfl).frozen 0
      have rf1 := (MM.out.blk 0 rfl).frozen 1
      have rlt := (MM.out.blk 0 rfl).lt
      simp at rc0 rc1
      have h1' : ¬ (i : Int) < acts.length := by omega
      have HRR := Lib.hid (MM.out.blk 0 rfl)
      have HSZ : Hid (wr.heap.size = ((wr.setCell ⟨w.heap.size, 0, none⟩ (.int .i64 m.next)).setCell ⟨w.heap.size, 1, none⟩ (.slice A n c)).heap.size) := Lib.hid (by simp)
      go_wp2_with fail
      have hyS := (HRR.out.set_ 0 (.int .i64 m.next)).set_ 1 (.slice A n c)
      have f0 := hyS.cell 0; have f1 := hyS.cell 1
      simp at f0 f1
      have HBW := Lib.hid ((MM.out.below.setCell (p := ⟨w.heap.size, 0, none⟩) (Nat.le_refl _) (.int .i64 m.next)).setCell (p := ⟨w.heap.size, 1, none⟩) (Nat.le_refl _) (.slice A n c))
      refine bodyPost_ret (v := .agg #[.int .i64 m.next, .slice A n c]) (by simp [results, Try.results56, go_sem, f0, f1]) rfl ⟨⟨_, rfl, m, A, c, by rw [HN.out], HR.out.keep ENode.stays ((keep_set _ ⟨w.heap.size, 0, none⟩ _ (fun b hb => ?_)).trans (keep_set _ ⟨w.heap.size, 1, none⟩ _ (fun b hb => ?_))) (fun b hb => by rw [← HSZ.out]; exact hb.2), HCM.out, HFW.out.mono hi150⟩, HBW.out⟩
      · have := HWG.out; have := hb.1; show b ≠ w.heap.size; omega
      · have := HWG.out; have := hb.1; show b ≠ w.heap.size; omega
    have h1' : (i : Int) < acts.length := by omega
    by_cases h2 : i < 150
    rotate_left 1
    · have xc0 := (MM.out.blk 1 rfl).cell 0
      have xc1 := (MM.out.blk 1 rfl).cell 1
      have xlt := (MM.out.blk 1 rfl).lt
      simp at xc0 xc1
      have rc0 := (MM.out.blk 0 rfl).cell 0
      have rc1 := (MM.out.blk 0 rfl).cell 1
      have rf0 := (MM.out.blk 0 rfl).frozen 0
      have rf1 := (MM.out.blk 0 rfl).frozen 1
      have rlt := (MM.out.blk 0 rfl).lt
      simp at rc0 rc1
      have h2' : ¬ (i : Int) < 150 := by omega
      have HRR := Lib.hid (MM.out.blk 0 rfl)
      have HSZ : Hid (wr.heap.size = ((wr.setCell ⟨w.heap.size, 0, none⟩ (.int .i64 m.next)).setCell ⟨w.heap.size, 1, none⟩ (.slice A n c)).heap.size) := Lib.hid (by simp)
      go_wp2_with fail
      have hyS := (HRR.out.set_ 0 (.int .i64 m.next)).set_ 1 (.slice A n c)
      have f0 := hyS.cell 0; have f1 := hyS.cell 1
      simp at f0 f1
      have HBW := Lib.hid ((MM.out.below.setCell (p := ⟨w.heap.size, 0, none⟩) (Nat.le_refl _) (.int .i64 m.next)).setCell (p := ⟨w.heap.size, 1, none⟩) (Nat.le_refl _) (.slice A n c))
      refine bodyPost_ret (v := .agg #[.int .i64 m.next, .slice A n c]) (by simp [results, Try.results56, go_sem, f0, f1]) rfl ⟨⟨_, rfl, m, A, c, by rw [HN.out], HR.out.keep ENode.stays ((keep_set _ ⟨w.heap.size, 0, none⟩ _ (fun b hb => ?_)).trans (keep_set _ ⟨w.heap.size, 1, none⟩ _ (fun b hb => ?_))) (fun b hb => by rw [← HSZ.out]; exact hb.2), HCM.out, HFW.out.mono hi150⟩, HBW.out⟩
      · have := HWG.out; have := hb.1; show b ≠ w.heap.size; omega
      · have := HWG.out; have := hb.1; show b ≠ w.heap.size; omega
    have h2' : (i : Int) < 150 := by omega
    by_cases h3 : n ≤ 300
    rotate_left 1
    · have xc0 := (MM.out.blk 1 rfl).cell 0
      have xc1 := (MM.out.blk 1 rfl).cell 1
      have xlt := (MM.out.blk 1 rfl).lt
      simp at xc0 xc1
      have rc0 := (MM.out.blk 0 rfl).cell 0
      have rc1 := (MM.out.blk 0 rfl).cell 1
      have rf0 := (MM.out.blk 0 rfl).frozen 0
      have rf1 := (MM.out.blk 0 rfl).frozen 1
      have rlt := (MM.out.blk 0 rfl).lt
      simp at rc0 rc1
      have h3' : ¬ (n : Int) ≤ 300 := by omega
      have HRR := Lib.hid (MM.out.blk 0 rfl)
      have HSZ : Hid (wr.heap.size = ((wr.setCell ⟨w.heap.size, 0, none⟩ (.int .i64 m.next)).setCell ⟨w.heap.size, 1, none⟩ (.slice A n c)).heap.size) := Lib.hid (by simp)
      go_wp2_with fail
      have hyS := (HRR.out.set_ 0 (.int .i64 m.next)).set_ 1 (.slice A n c)
      have f0 := hyS.cell 0; have f1 := hyS.cell 1
      simp at f0 f1
      have HBW := Lib.hid ((MM.out.below.setCell (p := ⟨w.heap.size, 0, none⟩) (Nat.le_refl _) (.int .i64 m.next)).setCell (p := ⟨w.heap.size, 1, none⟩) (Nat.le_refl _) (.slice A n c))
      refine bodyPost_ret (v := .agg #[.int .i64 m.next, .slice A n c]) (by simp [results, Try.results56, go_sem, f0, f1]) rfl ⟨⟨_, rfl, m, A, c, by rw [HN.out], HR.out.keep ENode.stays ((keep_set _ ⟨w.heap.size, 0, none⟩ _ (fun b hb => ?_)).trans (keep_set _ ⟨w.heap.size, 1, none⟩ _ (fun b hb => ?_))) (fun b hb => by rw [← HSZ.out]; exact hb.2), HCM.out, HFW.out.mono hi150⟩, HBW.out⟩
      · have := HWG.out; have := hb.1; show b ≠ w.heap.size; omega
      · have := HWG.out; have := hb.1; show b ≠ w.heap.size; omega
    have h3' : (n : Int) ≤ 300 := by omega
    obtain ⟨a, ha⟩ : ∃ a, acts[i] = a := ⟨_, rfl⟩
    have HAO : Hid (ActOK a) := Lib.hid (by rw [← ha]; exact HZ.out _ (List.getElem_mem h1))
    obtain ⟨hS1, hS2, hS3⟩ := done_step a HCM.out HFW.out
    obtain ⟨M, hM⟩ : ∃ M, doneM m a = M := ⟨_, rfl⟩
    obtain ⟨E, hE⟩ : ∃ E, doneE m a = E := ⟨_, rfl⟩
    have HDN : Hid (∀ w', RowOf 7 ENode w' (fun b => g < b ∧ b < w'.heap.size) A m.nodes → Calls Try.prog 54 #[.agg #[.int .i64 m.next, .slice A n c], .agg #[.int .i64 a.kind, .int .i64 a.a, .int .i64 a.b, .int .i64 a.at', .string a.word, .string a.text]] w' fun e w2 => (∃ v, e = .returned v ∧ DoneAs w2 w'.heap.size A c m E M v) ∧ Below w'.heap.size w' w2) := Lib.hid (fun w' h => by
      have := done_any A c m w' (fun b => g < b ∧ b < w'.heap.size) (fun _ h => h.2) h HCM.out i (by omega) HFW.out a HAO.out
      rw [hM, hE, HN.out] at this
      exact this)
    rw [hM] at hS1 hS2
    have HCS := Lib.hid hS1; have HFS := Lib.hid hS2
    obtain ⟨ba, oa, rfl, hba, d0, d1, d2, d3, d4, d5⟩ := qact_at (HRA.out w (Below.refl _ _)) h1
    rw [ha] at d0 d1 d2 d3 d4 d5
    have HSM : Hid (∀ w', Below w.heap.size w w' → w'.cell? ⟨ba, oa + i * 6, none⟩ = some (.int .i64 a.kind) ∧ w'.cell? ⟨ba, oa + i * 6 + 1, none⟩ = some (.int .i64 a.a) ∧ w'.cell? ⟨ba, oa + i * 6 + 2, none⟩ = some (.int .i64 a.b) ∧ w'.cell? ⟨ba, oa + i * 6 + 3, none⟩ = some (.int .i64 a.at') ∧ w'.cell? ⟨ba, oa + i * 6 + 4, none⟩ = some (.string a.word) ∧ w'.cell? ⟨ba, oa + i * 6 + 5, none⟩ = some (.string a.text)) := Lib.hid (fun w' hb => by
      have hk := fun p (hp : p.block < w.heap.size) => hb.cell (p := p) hp
      exact ⟨(hk ⟨ba, _, none⟩ hba).trans d0, (hk ⟨ba, _, none⟩ hba).trans d1, (hk ⟨ba, _, none⟩ hba).trans d2, (hk ⟨ba, _, none⟩ hba).trans d3, (hk ⟨ba, _, none⟩ hba).trans d4, (hk ⟨ba, _, none⟩ hba).trans d5⟩)
    clear hM hE hS1 hS2 hS3 ha d0 d1 d2 d3 d4 d5
    have xc0 := (MM.out.blk 1 rfl).cell 0
    have xc1 := (MM.out.blk 1 rfl).cell 1
    have xlt := (MM.out.blk 1 rfl).lt
    simp at xc0 xc1
    go_upto_region 5 with fail
    clear xc0 xc1 xlt
    obtain ⟨u, hu⟩ : ∃ z9 : World, wr.drew = z9 := ⟨_, rfl⟩
    have MM2 : Hid (Mem w u ([.blk w.heap.size 24 #[.int .i64 0, .slice none 0 0], .blk g 24 #[.int .i64 m.next, .slice A n c]])) := Lib.hid (by rw [← hu]; exact MM.out.drew)
    clear MM
    have MM := MM2
    clear MM2
    have HDU : Hid (Below wr.heap.size wr u) := Lib.hid (by rw [← hu]; exact (Below.refl _ _).drew)
    have HRU : Hid (RowOf 7 ENode u (fun b => g < b ∧ b < u.heap.size) A m.nodes) := Lib.hid (HR.out.keep ENode.stays (Keep.below HDU.out (fun _ h => h.2)) (fun b h => ⟨h.1, Nat.lt_of_lt_of_le h.2 HDU.out.size⟩))
    refine wp_region_X (S := (fun w' : World => w'.cell? ⟨ba, oa + i * 6, none⟩ = some (.int .i64 a.kind) ∧ w'.cell? ⟨ba, oa + i * 6 + 1, none⟩ = some (.int .i64 a.a) ∧ w'.cell? ⟨ba, oa + i * 6 + 2, none⟩ = some (.int .i64 a.b) ∧ w'.cell? ⟨ba, oa + i * 6 + 3, none⟩ = some (.int .i64 a.at') ∧ w'.cell? ⟨ba, oa + i * 6 + 4, none⟩ = some (.string a.word) ∧ w'.cell? ⟨ba, oa + i * 6 + 5, none⟩ = some (.string a.text))) 9 (by kernel_rfl) (by rw [hu]; exact HSM.out _ MM.out.below) (fun hHeld => ?_)
    rw [hu] at hHeld ⊢
    clear hu
    refine wpAnyX_take (i := 1) (v := ?_) rfl (by kernel_rfl) (by kernel_rfl) (by kernel_rfl) (by kernel_rfl) (fun _ _ _ h => h) (Or.inl ⟨by rfl, ?_⟩) (by assumption) ?_
    rotate_left 1
    · (intro w' hSw; obtain ⟨s0, s1, s2, s3, s4, s5⟩ := hSw; go_simp); try with_reducible rfl
    try simp only [Act.put, List.setIfInBounds_toArray, List.set_cons_zero, List.set_cons_succ, Nat.zero_add]
    refine wpAnyX_take (i := 2) (v := ?_) rfl (by kernel_rfl) (by kernel_rfl) (by kernel_rfl) (by kernel_rfl) (fun _ _ _ h => h) (Or.inl ⟨by rfl, ?_⟩) (by assumption) ?_
    rotate_left 1
    · (intro w' hSw; obtain ⟨s0, s1, s2, s3, s4, s5⟩ := hSw; go_simp); try with_reducible rfl
    try simp only [Act.put, List.setIfInBounds_toArray, List.set_cons_zero, List.set_cons_succ, Nat.zero_add]
    refine wpAnyX_take (i := 3) (v := ?_) rfl (by kernel_rfl) (by kernel_rfl) (by kernel_rfl) (by kernel_rfl) (fun _ _ _ h => h) (Or.inl ⟨by rfl, ?_⟩) (by assumption) ?_
    rotate_left 1
    · (intro w' hSw; obtain ⟨s0, s1, s2, s3, s4, s5⟩ := hSw; go_simp); try with_reducible rfl
    try simp only [Act.put, List.setIfInBounds_toArray, List.set_cons_zero, List.set_cons_succ, Nat.zero_add]
    refine wpAnyX_take (i := 4) (v := ?_) rfl (by kernel_rfl) (by kernel_rfl) (by kernel_rfl) (by kernel_rfl) (fun _ _ _ h => h) (Or.inl ⟨by rfl, ?_⟩) (by assumption) ?_
    rotate_left 1
    · (intro w' hSw; obtain ⟨s0, s1, s2, s3, s4, s5⟩ := hSw; go_simp); try with_reducible rfl
    try simp only [Act.put, List.setIfInBounds_toArray, List.set_cons_zero, List.set_cons_succ, Nat.zero_add]
    refine wpAnyX_one (i := 0) rfl (by kernel_rfl) (fun K hK => ?_)
    have xc0 := (MM.out.blk 1 rfl).cell 0
    have xc1 := (MM.out.blk 1 rfl).cell 1
    have xlt := (MM.out.blk 1 rfl).lt
    simp at xc0 xc1
    go_simp
    refine hK.out _ _ (fun _ => hHeld) ?_
    clear xc0 xc1 xlt
    clear hK K
    try simp only [Act.put, List.setIfInBounds_toArray, List.set_cons_zero, List.set_cons_succ, Nat.zero_add]
    refine wpAnyX_one (i := 5) rfl (by kernel_rfl) (fun K hK => ?_)
    go_simp
    refine (HDN.out _ HRU.out).mono ?_
    rintro _ x2 ⟨⟨v, rfl, hd⟩, hb⟩
    obtain ⟨A1, c1, rfl, hrow⟩ := done_got2 hb (MM.out.blk 1 rfl).lt HRU.out hd
    have HR1 := Lib.hid hrow
    clear hd hrow
    have MM2 : Hid (Mem w x2 ([.blk w.heap.size 24 #[.int .i64 0, .slice none 0 0], .blk g 24 #[.int .i64 m.next, .slice A n c]])) := Lib.hid (MM.out.call hb)
    clear MM
    have MM := MM2
    clear MM2
    clear hb
    go_simp
    have hHeldx2 := HSM.out _ MM.out.below
    refine hK.out _ _ (fun _ => hHeldx2) ?_
    clear hK K
    try simp only [Act.put, List.setIfInBounds_toArray, List.set_cons_zero, List.set_cons_succ, Nat.zero_add]
    refine wpAnyX_take (i := 6) (v := ?_) rfl (by kernel_rfl) (by kernel_rfl) (by kernel_rfl) (by kernel_rfl) (fun _ _ _ h => h) (Or.inl ⟨by rfl, ?_⟩) (by assumption) ?_
    rotate_left 1
    · (intro w' hSw; obtain ⟨s0, s1, s2, s3, s4, s5⟩ := hSw; go_simp); try with_reducible rfl
    try simp only [Act.put, List.setIfInBounds_toArray, List.set_cons_zero, List.set_cons_succ, Nat.zero_add]
    refine wpAnyX_take (i := 7) (v := ?_) rfl (by kernel_rfl) (by kernel_rfl) (by kernel_rfl) (by kernel_rfl) (fun _ _ _ h => h) (Or.inl ⟨by rfl, ?_⟩) (by assumption) ?_
    rotate_left 1
    · (intro w' hSw; obtain ⟨s0, s1, s2, s3, s4, s5⟩ := hSw; go_simp); try with_reducible rfl
    try simp only [Act.put, List.setIfInBounds_toArray, List.set_cons_zero, List.set_cons_succ, Nat.zero_add]
    refine wpAnyX_two (i := 8) (j := 9) rfl rfl (by kernel_rfl) (fun K hK => ?_) (fun K hK => ?_)
    · go_simp
      refine hK.out _ _ (fun _ => hHeldx2) ?_
      clear hK K
      try simp only [Act.put, List.setIfInBounds_toArray, List.set_cons_zero, List.set_cons_succ, Nat.zero_add]
      refine wpAnyX_one (i := 9) rfl (by kernel_rfl) (fun K hK => ?_)
      have xc0 := (MM.out.blk 1 rfl).cell 0
      have xc1 := (MM.out.blk 1 rfl).cell 1
      have xf0 := (MM.out.blk 1 rfl).frozen 0
      have xf1 := (MM.out.blk 1 rfl).frozen 1
      have xlt := (MM.out.blk 1 rfl).lt
      simp at xc0 xc1
      have HR2 : Hid (RowOf 7 ENode ((x2.setCell ⟨g, 0, none⟩ (.int .i64 M.next)).setCell ⟨g, 1, none⟩ (.slice A1 M.nodes.length c1)) (fun b => g < b ∧ b < ((x2.setCell ⟨g, 0, none⟩ (.int .i64 M.next)).setCell ⟨g, 1, none⟩ (.slice A1 M.nodes.length c1)).heap.size) A1 M.nodes) := Lib.hid (HR1.out.keep ENode.stays ((keep_set _ ⟨g, 0, none⟩ _ (fun b hb => Nat.ne_of_gt hb.1)).trans (keep_set _ ⟨g, 1, none⟩ _ (fun b hb => Nat.ne_of_gt hb.1))) (fun b hb => by have h2 := hb; simpa using h2))
      have MM2 : Hid (Mem w ((x2.setCell ⟨g, 0, none⟩ (.int .i64 M.next)).setCell ⟨g, 1, none⟩ (.slice A1 M.nodes.length c1)) ([.blk w.heap.size 24 #[.int .i64 0, .slice none 0 0], .blk g 24 #[.int .i64 M.next, .slice A1 M.nodes.length c1]])) := Lib.hid ((MM.out.set_ 1 rfl 0 (.int .i64 M.next)).set_ 1 rfl 1 (.slice A1 M.nodes.length c1))
      go_simp
      refine hK.out _ _ (fun h9 => ?_) ?_
      · first | exact absurd rfl h9 | exact HSM.out _ MM2.out.below
      clear xf0 xf1 xc0 xc1 xlt
      clear MM HR1
      have MM := MM2
      clear MM2
      clear hK K
      try simp only [Act.put, List.setIfInBounds_toArray, List.set_cons_zero, List.set_cons_succ, Nat.zero_add]
      refine wpAnyX_done (by kernel_rfl) ?_ _
      go_wp2_with fail
      go_roundg (acts.length - (i + 1))
      case measure => omega
      case rel => exact ⟨i + 1, M, A1, c1, by go_num, rfl, by omega, by omega, MM.out, HR2.out, HCS.out, HFS.out⟩
    · have xc0 := (MM.out.blk 1 rfl).cell 0
      have xc1 := (MM.out.blk 1 rfl).cell 1
      have xf0 := (MM.out.blk 1 rfl).frozen 0
      have xf1 := (MM.out.blk 1 rfl).frozen 1
      have xlt := (MM.out.blk 1 rfl).lt
      simp at xc0 xc1
      have HR2 : Hid (RowOf 7 ENode ((x2.setCell ⟨g, 0, none⟩ (.int .i64 M.next)).setCell ⟨g, 1, none⟩ (.slice A1 M.nodes.length c1)) (fun b => g < b ∧ b < ((x2.setCell ⟨g, 0, none⟩ (.int .i64 M.next)).setCell ⟨g, 1, none⟩ (.slice A1 M.nodes.length c1)).heap.size) A1 M.nodes) := Lib.hid (HR1.out.keep ENode.stays ((keep_set _ ⟨g, 0, none⟩ _ (fun b hb => Nat.ne_of_gt hb.1)).trans (keep_set _ ⟨g, 1, none⟩ _ (fun b hb => Nat.ne_of_gt hb.1))) (fun b hb => by have h2 := hb; simpa using h2))
      have MM2 : Hid (Mem w ((x2.setCell ⟨g, 0, none⟩ (.int .i64 M.next)).setCell ⟨g, 1, none⟩ (.slice A1 M.nodes.length c1)) ([.blk w.heap.size 24 #[.int .i64 0, .slice none 0 0], .blk g 24 #[.int .i64 M.next, .slice A1 M.nodes.length c1]])) := Lib.hid ((MM.out.set_ 1 rfl 0 (.int .i64 M.next)).set_ 1 rfl 1 (.slice A1 M.nodes.length c1))
      go_simp
      refine hK.out _ _ (fun h9 => ?_) ?_
      · first | exact absurd rfl h9 | exact HSM.out _ MM2.out.below
      clear xf0 xf1 xc0 xc1 xlt
      clear MM HR1
      have MM := MM2
      clear MM2
      clear hK K
      try simp only [Act.put, List.setIfInBounds_toArray, List.set_cons_zero, List.set_cons_succ, Nat.zero_add]
      refine wpAnyX_one (i := 8) rfl (by kernel_rfl) (fun K hK => ?_)
      go_simp
      refine hK.out _ _ (fun _ => (HSM.out _ MM.out.below)) ?_
      clear hK K
      try simp only [Act.put, List.setIfInBounds_toArray, List.set_cons_zero, List.set_cons_succ, Nat.zero_add]
      refine wpAnyX_done (by kernel_rfl) ?_ _
      go_wp2_with fail
      go_roundg (acts.length - (i + 1))
      case measure => omega
      case rel => exact ⟨i + 1, M, A1, c1, by go_num, rfl, by omega, by omega, MM.out, HR2.out, HCS.out, HFS.out⟩
end Go.Proofs.Ytmafhaadcjgcbaa
end
