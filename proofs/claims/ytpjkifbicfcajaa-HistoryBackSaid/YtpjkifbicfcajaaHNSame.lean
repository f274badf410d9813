/- two nodes are the same, but for their numbers -/
import Derived.Test.YtpjkifbicfcajaaASameOwn
set_option linter.unusedSimpArgs false
set_option linter.unusedVariables false
namespace Go.Proofs.Ytpjkifbicfcajaa
open Go Go.RowKit

set_option maxRecDepth 100000 in
set_option maxHeartbeats 2000000 in
theorem hnsame_any (a b : ANode) (Sp Sk Sr Sp' Sk' Sr' : Option Addr) (cp ck cr cp' ck' cr' : Nat) (w : World) (F F' : Nat → Prop) (hF : ∀ b, F b → b < w.heap.size) (hF' : ∀ b, F' b → b < w.heap.size)
    (hp : RowOf 2 EProp w F Sp a.props) (hk : RowOf 1 EInt w F Sk a.kids) (hr : RowOf 2 ERef w F Sr a.refs) (hp' : RowOf 2 EProp w F' Sp' b.props) (hk' : RowOf 1 EInt w F' Sk' b.kids) (hr' : RowOf 2 ERef w F' Sr' b.refs)
    (lp : a.props.length ≤ 9223372036854775807) (lk : a.kids.length ≤ 9223372036854775807) (lr : a.refs.length ≤ 9223372036854775807) (hid : a.id = b.id) :
    Calls Try.prog 44 #[.agg #[.int .i64 a.id, .string a.concept, .int .i64 a.parent, .string a.role, .slice Sp a.props.length cp, .slice Sk a.kids.length ck, .slice Sr a.refs.length cr], .agg #[.int .i64 b.id, .string b.concept, .int .i64 b.parent, .string b.role, .slice Sp' b.props.length cp', .slice Sk' b.kids.length ck', .slice Sr' b.refs.length cr']] w fun e w' => e = .returned (.bool (eqB a b)) ∧ Below w.heap.size w w' := by
  have hb0 : Below w.heap.size w ((w.alloc (.cells #[.int .i64 a.id, .string a.concept, .int .i64 a.parent, .string a.role, .slice Sp a.props.length cp, .slice Sk a.kids.length ck, .slice Sr a.refs.length cr] 79)).alloc (.cells #[.int .i64 b.id, .string b.concept, .int .i64 b.parent, .string b.role, .slice Sp' b.props.length cp', .slice Sk' b.kids.length ck', .slice Sr' b.refs.length cr'] 79)) := ((Below.refl _ _).alloc (Nat.le_refl _) _).alloc (by simp) _
  have HB0 := Lib.hid hb0
  have HP := Lib.hid (fun (w0 : World) (hb : Below w.heap.size w w0) => eqProps_any Sp Sp' cp cp' a.props b.props w0 F F' (hp.keep EProp.stays (Keep.below hb hF) (fun _ h => h)) (hp'.keep EProp.stays (Keep.below hb hF') (fun _ h => h)) lp)
  have HK := Lib.hid (fun (w0 : World) (hb : Below w.heap.size w w0) => eqInts_any Sk Sk' ck ck' a.kids b.kids w0 F F' (hk.keep EInt.stays (Keep.below hb hF) (fun _ h => h)) (hk'.keep EInt.stays (Keep.below hb hF') (fun _ h => h)) lk)
  have HR := Lib.hid (fun (w0 : World) (hb : Below w.heap.size w w0) => eqRefs_any Sr Sr' cr cr' a.refs b.refs w0 F F' (hr.keep ERef.stays (Keep.below hb hF) (fun _ h => h)) (hr'.keep ERef.stays (Keep.below hb hF') (fun _ h => h)) lr)
  clear hb0 hp hk hr hp' hk' hr' lp lk lr
  go_enter Try.func44, Try.ntmps44
  have H1 := Lib.hid hid
  clear hid
  · cases h2 : (a.concept.toList == b.concept.toList)
    · have E := Lib.hid (eqB_no (x := a) (y := b) (fun e => by subst e; simp at h2))
      go_wp2
      go_ret
      exact ⟨by rw [E.out]; rfl, HB0.out⟩
    · cases h3 : (a.parent == b.parent)
      · have E := Lib.hid (eqB_no (x := a) (y := b) (fun e => by subst e; simp at h3))
        go_wp2
        go_ret
        exact ⟨by rw [E.out]; rfl, HB0.out⟩
      · cases h4 : (a.role.toList == b.role.toList)
        · have E := Lib.hid (eqB_no (x := a) (y := b) (fun e => by subst e; simp at h4))
          go_wp2
          go_ret
          exact ⟨by rw [E.out]; rfl, HB0.out⟩
        · cases h5 : eqB a.props b.props
          · have HC := Lib.hid (fun w0 hb => eq_is h5 (HP.out w0 hb))
            have E := Lib.hid (eqB_no (x := a) (y := b) (fun e => by have := (eqB_is h5).1 (by rw [e]); cases this))
            clear h5
            go_wp2_with fail
            refine (HC.out _ (by exact HB0.out)).mono ?_
            rintro _ _ ⟨rfl, n, rfl⟩
            go_wp2
            go_ret
            exact ⟨by rw [E.out]; rfl, below_drewN HB0.out _⟩
          · have HC := Lib.hid (fun w0 hb => eq_is h5 (HP.out w0 hb))
            have HE5 := Lib.hid ((eqB_is h5).2 rfl)
            clear h5
            go_wp2_with fail
            refine (HC.out _ (by exact HB0.out)).mono ?_
            rintro _ _ ⟨rfl, n, rfl⟩
            cases h6 : eqB a.kids b.kids
            · have HC := Lib.hid (fun w0 hb => eq_is h6 (HK.out w0 hb))
              have E := Lib.hid (eqB_no (x := a) (y := b) (fun e => by have := (eqB_is h6).1 (by rw [e]); cases this))
              clear h6
              go_wp2_with fail
              refine (HC.out _ (by exact (below_drewN HB0.out _))).mono ?_
              rintro _ _ ⟨rfl, n, rfl⟩
              go_wp2
              go_ret
              exact ⟨by rw [E.out]; rfl, below_drewN HB0.out _⟩
            · have HC := Lib.hid (fun w0 hb => eq_is h6 (HK.out w0 hb))
              have HE6 := Lib.hid ((eqB_is h6).2 rfl)
              clear h6
              go_wp2_with fail
              refine (HC.out _ (by exact (below_drewN HB0.out _))).mono ?_
              rintro _ _ ⟨rfl, n, rfl⟩
              cases h7 : eqB a.refs b.refs
              · have HC := Lib.hid (fun w0 hb => eq_is h7 (HR.out w0 hb))
                have E := Lib.hid (eqB_no (x := a) (y := b) (fun e => by have := (eqB_is h7).1 (by rw [e]); cases this))
                clear h7
                go_wp2_with fail
                refine (HC.out _ (by exact (below_drewN HB0.out _))).mono ?_
                rintro _ _ ⟨rfl, n, rfl⟩
                go_wp2
                go_ret
                exact ⟨by rw [E.out]; rfl, below_drewN HB0.out _⟩
              · have HC := Lib.hid (fun w0 hb => eq_is h7 (HR.out w0 hb))
                have HE7 := Lib.hid ((eqB_is h7).2 rfl)
                clear h7
                go_wp2_with fail
                refine (HC.out _ (by exact (below_drewN HB0.out _))).mono ?_
                rintro _ _ ⟨rfl, n, rfl⟩
                have E := Lib.hid (eqB_yes (x := a) (y := b) (node_ext H1.out ((ba_beq h2).2 rfl) (beq_iff_eq.1 h3) ((ba_beq h4).2 rfl) HE5.out HE6.out HE7.out))
                go_wp2
                go_ret
                exact ⟨by rw [E.out]; rfl, below_drewN HB0.out _⟩

end Go.Proofs.Ytpjkifbicfcajaa
