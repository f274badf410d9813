import Derived.Test.YtpjkifbicfcajaaASame
set_option linter.unusedSimpArgs false
set_option linter.unusedVariables false
namespace Go.Proofs.Ytpjkifbicfcajaa
open Go Go.RowKit

theorem eq_is {f : FuncId} {args : Array Value} {w : World} {p b : Bool} (h : p = b) (hc : Calls Try.prog f args w fun e w' => e = .returned (.bool p) ∧ ∃ n, w' = w.drewN n) : Calls Try.prog f args w fun e w' => e = .returned (.bool b) ∧ ∃ n, w' = w.drewN n := by
  rw [h] at hc; exact hc
open Classical in
theorem eqB_is {α : Type} {x y : α} {b : Bool} (h : eqB x y = b) : x = y ↔ b = true := by rw [← h]; exact (decide_eq_true_iff).symm
theorem node_ext {a b : ANode} (h1 : a.id = b.id) (h2 : a.concept = b.concept) (h3 : a.parent = b.parent) (h4 : a.role = b.role) (h5 : a.props = b.props) (h6 : a.kids = b.kids) (h7 : a.refs = b.refs) : a = b := by
  cases a; cases b; simp at h1 h2 h3 h4 h5 h6 h7; subst h1 h2 h3 h4 h5 h6 h7; rfl
theorem ba_beq {a b : ByteArray} {x : Bool} (h : (a.toList == b.toList) = x) : a = b ↔ x = true := by
  rw [← h, beq_iff_eq, ba_toList]

set_option maxRecDepth 100000 in
set_option maxHeartbeats 2000000 in
theorem same1_any (a b : ANode) (Sp Sk Sr Sp' Sk' Sr' : Option Addr) (cp ck cr cp' ck' cr' : Nat) (w : World) (F F' : Nat → Prop) (hF : ∀ b, F b → b < w.heap.size) (hF' : ∀ b, F' b → b < w.heap.size)
    (hp : RowOf 2 EProp w F Sp a.props) (hk : RowOf 1 EInt w F Sk a.kids) (hr : RowOf 2 ERef w F Sr a.refs) (hp' : RowOf 2 EProp w F' Sp' b.props) (hk' : RowOf 1 EInt w F' Sk' b.kids) (hr' : RowOf 2 ERef w F' Sr' b.refs)
    (lp : a.props.length ≤ 9223372036854775807) (lk : a.kids.length ≤ 9223372036854775807) (lr : a.refs.length ≤ 9223372036854775807) :
    Calls Try.prog 50 #[.agg #[.int .i64 a.id, .string a.concept, .int .i64 a.parent, .string a.role, .slice Sp a.props.length cp, .slice Sk a.kids.length ck, .slice Sr a.refs.length cr], .agg #[.int .i64 b.id, .string b.concept, .int .i64 b.parent, .string b.role, .slice Sp' b.props.length cp', .slice Sk' b.kids.length ck', .slice Sr' b.refs.length cr']] w fun e w' => e = .returned (.bool (eqB a b)) ∧ Below w.heap.size w w' := by
  have hb0 : Below w.heap.size w ((w.alloc (.cells #[.int .i64 a.id, .string a.concept, .int .i64 a.parent, .string a.role, .slice Sp a.props.length cp, .slice Sk a.kids.length ck, .slice Sr a.refs.length cr] 79)).alloc (.cells #[.int .i64 b.id, .string b.concept, .int .i64 b.parent, .string b.role, .slice Sp' b.props.length cp', .slice Sk' b.kids.length ck', .slice Sr' b.refs.length cr'] 79)) := ((Below.refl _ _).alloc (Nat.le_refl _) _).alloc (by simp) _
  have HB0 := Lib.hid hb0
  have HP := Lib.hid (fun (w0 : World) (hb : Below w.heap.size w w0) => eqProps_any Sp Sp' cp cp' a.props b.props w0 F F' (hp.keep EProp.stays (Keep.below hb hF) (fun _ h => h)) (hp'.keep EProp.stays (Keep.below hb hF') (fun _ h => h)) lp)
  have HK := Lib.hid (fun (w0 : World) (hb : Below w.heap.size w w0) => eqInts_any Sk Sk' ck ck' a.kids b.kids w0 F F' (hk.keep EInt.stays (Keep.below hb hF) (fun _ h => h)) (hk'.keep EInt.stays (Keep.below hb hF') (fun _ h => h)) lk)
  have HR := Lib.hid (fun (w0 : World) (hb : Below w.heap.size w w0) => eqRefs_any Sr Sr' cr cr' a.refs b.refs w0 F F' (hr.keep ERef.stays (Keep.below hb hF) (fun _ h => h)) (hr'.keep ERef.stays (Keep.below hb hF') (fun _ h => h)) lr)
  clear hb0 hp hk hr hp' hk' hr' lp lk lr
  go_enter Try.func50, Try.ntmps50
  cases h1 : (a.id == b.id)
  · have E := Lib.hid (eqB_no (x := a) (y := b) (fun e => by subst e; simp at h1))
    go_wp2
    go_ret
    exact ⟨by rw [E.out]; rfl, HB0.out⟩
  · cases h2 : (a.concept.toList == b.concept.toList)
    · have E := Lib.hid (eqB_no (x := a) (y := b) (fun e => by subst e; simp at h2))
      go_wp2
      go_ret
      exact ⟨by rw [E.out]; rfl, HB0.out⟩
    · cases h3 : (a.parent == b.parent)
      · have E := Lib.hid (eqB_no (x := a) (y := b) (fun e => by subst e; simp at h3))
        go_wp2
        go_ret
        exact ⟨by rw [E.out]; rfl, HB0.out⟩
      · cases h4 : (a.role.toList == b.role.toList)
        · have E := Lib.hid (eqB_no (x := a) (y := b) (fun e => by subst e; simp at h4))
          go_wp2
          go_ret
          exact ⟨by rw [E.out]; rfl, HB0.out⟩
        · cases h5 : eqB a.props b.props
          · have HC := Lib.hid (fun w0 hb => eq_is h5 (HP.out w0 hb))
            have E := Lib.hid (eqB_no (x := a) (y := b) (fun e => by have := (eqB_is h5).1 (by rw [e]); cases this))
            clear h5
            go_wp2_with fail
            refine (HC.out _ (by exact HB0.out)).mono ?_
            rintro _ _ ⟨rfl, n, rfl⟩
            go_wp2
            go_ret
            exact ⟨by rw [E.out]; rfl, below_drewN HB0.out _⟩
          · have HC := Lib.hid (fun w0 hb => eq_is h5 (HP.out w0 hb))
            have HE5 := Lib.hid ((eqB_is h5).2 rfl)
            clear h5
            go_wp2_with fail
            refine (HC.out _ (by exact HB0.out)).mono ?_
            rintro _ _ ⟨rfl, n, rfl⟩
            cases h6 : eqB a.kids b.kids
            · have HC := Lib.hid (fun w0 hb => eq_is h6 (HK.out w0 hb))
              have E := Lib.hid (eqB_no (x := a) (y := b) (fun e => by have := (eqB_is h6).1 (by rw [e]); cases this))
              clear h6
              go_wp2_with fail
              refine (HC.out _ (by exact (below_drewN HB0.out _))).mono ?_
              rintro _ _ ⟨rfl, n, rfl⟩
              go_wp2
              go_ret
              exact ⟨by rw [E.out]; rfl, below_drewN HB0.out _⟩
            · have HC := Lib.hid (fun w0 hb => eq_is h6 (HK.out w0 hb))
              have HE6 := Lib.hid ((eqB_is h6).2 rfl)
              clear h6
              go_wp2_with fail
              refine (HC.out _ (by exact (below_drewN HB0.out _))).mono ?_
              rintro _ _ ⟨rfl, n, rfl⟩
              cases h7 : eqB a.refs b.refs
              · have HC := Lib.hid (fun w0 hb => eq_is h7 (HR.out w0 hb))
                have E := Lib.hid (eqB_no (x := a) (y := b) (fun e => by have := (eqB_is h7).1 (by rw [e]); cases this))
                clear h7
                go_wp2_with fail
                refine (HC.out _ (by exact (below_drewN HB0.out _))).mono ?_
                rintro _ _ ⟨rfl, n, rfl⟩
                go_wp2
                go_ret
                exact ⟨by rw [E.out]; rfl, below_drewN HB0.out _⟩
              · have HC := Lib.hid (fun w0 hb => eq_is h7 (HR.out w0 hb))
                have HE7 := Lib.hid ((eqB_is h7).2 rfl)
                clear h7
                go_wp2_with fail
                refine (HC.out _ (by exact (below_drewN HB0.out _))).mono ?_
                rintro _ _ ⟨rfl, n, rfl⟩
                have E := Lib.hid (eqB_yes (x := a) (y := b) (node_ext (beq_iff_eq.1 h1) ((ba_beq h2).2 rfl) (beq_iff_eq.1 h3) ((ba_beq h4).2 rfl) HE5.out HE6.out HE7.out))
                go_wp2
                go_ret
                exact ⟨by rw [E.out]; rfl, below_drewN HB0.out _⟩

theorem model_ext {a b : AModel} (h1 : a.next = b.next) (h2 : a.nodes = b.nodes) : a = b := by
  cases a; cases b; simp at h1 h2; subst h1 h2; rfl
def RowLens (l : List ANode) : Prop := ∀ x ∈ l, x.props.length ≤ 9223372036854775807 ∧ x.kids.length ≤ 9223372036854775807 ∧ x.refs.length ≤ 9223372036854775807
set_option maxRecDepth 100000 in
set_option maxHeartbeats 2000000 in
theorem eqFunc_any (A A' : Option Addr) (c c' : Nat) (l l' : List ANode) (w : World) (F F' : Nat → Prop) (hF : ∀ b, F b → b < w.heap.size) (hF' : ∀ b, F' b → b < w.heap.size) (h : RowOf 7 ENode w F A l) (h' : RowOf 7 ENode w F' A' l') (hl : l.length ≤ 9223372036854775807) :
    Calls Try.prog 49 #[.slice A l.length c, .slice A' l'.length c', .func (.func 50) #[] #[]] w fun e w' => e = .returned (.bool (eqB l l')) ∧ Below w.heap.size w w' := by
  by_cases hll : l.length = l'.length
  · have hll' : (((l.length : Nat) : Int) != l'.length) = false := by rw [hll]; simp
    have HLL := Lib.hid hll
    go_enter Try.func49, Try.ntmps49
    rw [← hll]
    clear hll hll'
    go_wp2
    go_loopg [17] l.length (fun g s17 wx => ∃ k : Nat, s17 = .int .i64 k ∧ g = l.length - k ∧ k ≤ l.length ∧ Below w.heap.size w wx ∧ SameTo l l' k)
    case atStart => exact ⟨0, rfl, rfl, Nat.zero_le _, Below.refl _ _, fun j _ _ hj => absurd hj (Nat.not_lt_zero _)⟩
    case round =>
      obtain ⟨k, rfl, rfl, hkk, hb, hS⟩ := hrel
      have HS := Lib.hid hS; have HB := Lib.hid hb
      have hsz := hb.size
      clear hS
      by_cases hlt : k < l.length
      · have hlt' : (k : Int) < l.length := by omega
        have k0 : (0 : Int) ≤ k := by omega
        have hk' : k < l'.length := by have := HLL.out; omega
        obtain ⟨b, off, Sp, cp, Sk, ck, Sr, cr, rfl, _, d0, d1, d2, d3, d4, d5, d6, ⟨q1, q2, hp⟩, ⟨q3, q4, hk⟩, ⟨q5, q6, hr⟩⟩ := node_at (RowOf.keep ENode.stays (Keep.below hb hF) (F' := F) (fun _ h => h) h) hlt
        obtain ⟨b', off', Sp', cp', Sk', ck', Sr', cr', rfl, hbF', d0', d1', d2', d3', d4', d5', d6', ⟨_, _, hp'⟩, ⟨_, _, hk''⟩, ⟨_, _, hr'⟩⟩ := node_at (RowOf.keep ENode.stays (Keep.below hb hF') (F' := F') (fun _ h => h) h') hk'
        have hblt' : b' < wr.heap.size := Nat.lt_of_lt_of_le (hF' _ hbF') hsz
        have q7 : l[k].props.length ≤ 9223372036854775807 := by unfold maxLen at q2; omega
        have q8 : l[k].kids.length ≤ 9223372036854775807 := by unfold maxLen at q4; omega
        have q9 : l[k].refs.length ≤ 9223372036854775807 := by unfold maxLen at q6; omega
        have HC := Lib.hid (fun (w0 : World) (hb0 : Below wr.heap.size wr w0) => same1_any l[k] l'[k] Sp Sk Sr Sp' Sk' Sr' cp ck cr cp' ck' cr' w0 F F' (fun b hb' => by have := hF b hb'; have := hb0.size; omega) (fun b hb' => by have := hF' b hb'; have := hb0.size; omega)
          (hp.keep EProp.stays (Keep.below hb0 (fun b hb' => by have := hF b hb'; omega)) (fun _ h => h)) (hk.keep EInt.stays (Keep.below hb0 (fun b hb' => by have := hF b hb'; omega)) (fun _ h => h)) (hr.keep ERef.stays (Keep.below hb0 (fun b hb' => by have := hF b hb'; omega)) (fun _ h => h))
          (hp'.keep EProp.stays (Keep.below hb0 (fun b hb' => by have := hF' b hb'; omega)) (fun _ h => h)) (hk''.keep EInt.stays (Keep.below hb0 (fun b hb' => by have := hF' b hb'; omega)) (fun _ h => h)) (hr'.keep ERef.stays (Keep.below hb0 (fun b hb' => by have := hF' b hb'; omega)) (fun _ h => h)) q7 q8 q9)
        have HW0 := Lib.hid (((Below.refl wr.heap.size wr).alloc (Nat.le_refl _) (.cells #[.int .i64 l[k].id, .string l[k].concept, .int .i64 l[k].parent, .string l[k].role, .slice Sp l[k].props.length cp, .slice Sk l[k].kids.length ck, .slice Sr l[k].refs.length cr] 79)).alloc (by simp) (.cells #[.int .i64 l'[k].id, .string l'[k].concept, .int .i64 l'[k].parent, .string l'[k].role, .slice Sp' l'[k].props.length cp', .slice Sk' l'[k].kids.length ck', .slice Sr' l'[k].refs.length cr'] 79))
        clear hb hp hk hr hp' hk'' hr' q1 q2 q3 q4 q5 q6 q7 q8 q9
        cases he : eqB l[k] l'[k]
        · have E := Lib.hid (eqB_no (ne_at hlt hk' (fun e => by have := (eqB_is he).1 e; cases this)))
          have HC2 := Lib.hid (fun w0 hb0 => res_is he (HC.out w0 hb0))
          clear he HC
          go_wp2_with fail
          refine (HC2.out _ HW0.out).mono ?_
          rintro _ w2 ⟨rfl, hb2⟩
          have HB2 := Lib.hid (HB.out.trans ((below_of_alloc (below_of_alloc hb2)).mono hsz))
          clear hb2
          go_wp2
          go_ret
          exact ⟨by rw [E.out]; rfl, HB2.out⟩
        · have HE := Lib.hid ((eqB_is he).2 rfl)
          have HC2 := Lib.hid (fun w0 hb0 => res_is he (HC.out w0 hb0))
          clear he HC
          go_wp2_with fail
          refine (HC2.out _ HW0.out).mono ?_
          rintro _ w2 ⟨rfl, hb2⟩
          have HB2 := Lib.hid (HB.out.trans ((below_of_alloc (below_of_alloc hb2)).mono hsz))
          clear hb2
          go_wp2
          go_roundg (l.length - (k + 1))
          case measure => omega
          case rel => exact ⟨k + 1, by go_num, rfl, by omega, HB2.out, HS.out.next (fun _ _ => HE.out)⟩
      · have hlt' : decide ((k : Int) < l.length) = false := decide_eq_false (by omega)
        have E := Lib.hid (eqB_yes (HS.out.all HLL.out hlt))
        clear hb
        go_wp2
        go_ret
        exact ⟨by rw [E.out]; rfl, HB.out⟩
  · have hll' : (((l.length : Nat) : Int) != l'.length) = true := by simp; omega
    have E := Lib.hid (eqB_no (ne_len hll))
    clear hll
    go_enter Try.func49, Try.ntmps49
    go_wp2
    go_ret
    exact ⟨by rw [E.out]; rfl, Below.refl _ _⟩

set_option maxRecDepth 100000 in
set_option maxHeartbeats 1000000 in
theorem asame_any (A A' : Option Addr) (c c' : Nat) (m m' : AModel) (w : World) (F F' : Nat → Prop) (hF : ∀ b, F b → b < w.heap.size) (hF' : ∀ b, F' b → b < w.heap.size) (h : RowOf 7 ENode w F A m.nodes) (h' : RowOf 7 ENode w F' A' m'.nodes) (hl : m.nodes.length ≤ 9223372036854775807) :
    Calls Try.prog 31 #[.agg #[.int .i64 m.next, .slice A m.nodes.length c], .agg #[.int .i64 m'.next, .slice A' m'.nodes.length c']] w fun e w' => e = .returned (.bool (eqB m m')) ∧ Below w.heap.size w w' := by
  have HB0 := Lib.hid (((Below.refl w.heap.size w).alloc (Nat.le_refl _) (.cells #[.int .i64 m.next, .slice A m.nodes.length c] 27)).alloc (by simp) (.cells #[.int .i64 m'.next, .slice A' m'.nodes.length c'] 27))
  have HC := Lib.hid (fun (w0 : World) (hb0 : Below w.heap.size w w0) => eqFunc_any A A' c c' m.nodes m'.nodes w0 F F' (fun b hb' => by have := hF b hb'; have := hb0.size; omega) (fun b hb' => by have := hF' b hb'; have := hb0.size; omega) (h.keep ENode.stays (Keep.below hb0 hF) (fun _ h => h)) (h'.keep ENode.stays (Keep.below hb0 hF') (fun _ h => h)) hl)
  clear h h' hl
  go_enter Try.func31, Try.ntmps31
  cases h1 : (m.next == m'.next)
  · have E := Lib.hid (eqB_no (x := m) (y := m') (fun e => by subst e; simp at h1))
    go_wp2
    go_ret
    exact ⟨by rw [E.out]; rfl, HB0.out⟩
  · have HN := Lib.hid (beq_iff_eq.1 h1)
    go_wp2_with fail
    refine (HC.out _ (by exact HB0.out)).mono ?_
    rintro _ w2 ⟨rfl, hb2⟩
    have HB2 := Lib.hid (HB0.out.trans (hb2.mono HB0.out.size))
    clear hb2
    have E := Lib.hid (show eqB m.nodes m'.nodes = eqB m m' from by
      cases he : eqB m.nodes m'.nodes
      · rw [eqB_no (fun e => by have := (eqB_is he).1 (by rw [e]); cases this)]
      · rw [eqB_yes (model_ext HN.out ((eqB_is he).2 rfl))])
    go_wp2
    go_ret
    exact ⟨by rw [E.out]; rfl, HB2.out⟩
end Go.Proofs.Ytpjkifbicfcajaa
