/-
  'Rows.LawS930001BReadBackSaid': the guide's shell at this function, its walk filled.
-/
import Derived.Test.YmbrciRows
import Derived.WalkKit
import Derived.ProofKit
import Derived.OpenShut
import Derived.ShutString
import Derived.Test.YmbrciRead
import Derived.Test.YmbrciApp
namespace Go.Proofs.Ymbrci.lawS930001BReadBack
open Go.ChangeShapes Go.WideShapes Go.ChangeAt Go.RowKit
open Go.ChangeMaps (open_string shut_string)
set_option linter.unusedVariables false      -- a walk need not use every 'w<i>' (that an integer argument fits its kind)

theorem own : ownKnob Ycim.prog.godebug = none := by kernel_rfl



set_option maxHeartbeats 2000000 in
theorem walk (a0 : Int) (a1 : Int) (a2 : Int) (a3 : Int) (a4 : Int) (a5 : Int) (w0 : (Lit.int .u64 a0).wf = true) (w1 : (Lit.int .u64 a1).wf = true) (w2 : (Lit.int .u8 a2).wf = true) (w3 : (Lit.int .u64 a3).wf = true) (w4 : (Lit.int .u64 a4).wf = true) (w5 : (Lit.int .u8 a5).wf = true) (w : World) :
    Calls Ycim.prog 7 #[.int .u64 a0, .int .u64 a1, .int .u8 a2, .int .u64 a3, .int .u64 a4, .int .u8 a5] w fun e w' => e = .returned (.bool true) ∧ Below w.heap.size w w' := by
  have h0 := u64_bd w0
  have h1 := u64_bd w1
  have h2 := u8_bd w2
  have h3 := u64_bd w3
  have h4 := u64_bd w4
  have h5 := u8_bd w5
  clear w0 w1 w2 w3 w4 w5
  go_enter Ycim.func7, Ycim.ntmps7
  go_wp2_with fail
  refine (bmix_any a0 a1 a2 w h1.1 h1.2 h2.1 h2.2).mono ?_
  rintro e w1 ⟨⟨x, rfl, hx0, hx1⟩, rfl⟩
  go_wp2_with fail
  refine (bmix_any a3 a4 a5 _ h4.1 h4.2 h5.1 h5.2).mono ?_
  rintro e w1 ⟨⟨y, rfl, hy0, hy1⟩, rfl⟩
  go_wp2_with fail
  refine (append_any (.slice none 0 0) [] x _ _ hx0 hx1 (Owns.nil _ _ _ _) (Nat.le_refl _) (by simp)).mono ?_
  rintro e w2 ⟨v2, rfl, hap⟩
  have O2 : Hid (Owns .u8 5 w1.heap.size w2 v2 (E x)) := hap.ownsNew
  have B2 : Hid (Below w1.heap.size w1 w2) := hap.belowNil
  have z2 : w1.heap.size ≤ w2.heap.size := hap.size
  have lx := E_len x
  have ly := E_len y
  clear hap
  go_wp2_with fail
  refine (append_any v2 (E x) y w2 w1.heap.size hy0 hy1 O2.out z2 (by omega)).mono ?_
  rintro e w3 ⟨v3, rfl, hap⟩
  have B3 : Hid (Below w1.heap.size w1 w3) := B2.out.trans (hap.below O2.out z2)
  obtain ⟨p, c, hv, hc, mc, sp, _⟩ := hap.owns.shape
  obtain ⟨m, hm⟩ : ∃ m, (E x).length = m := ⟨_, rfl⟩
  obtain ⟨n, hn⟩ : ∃ n, (E y).length = n := ⟨_, rfl⟩
  have hl : (E x ++ E y).length = m + n := by rw [List.length_append, hm, hn]
  rw [hl] at hv hc
  rw [hm] at lx
  rw [hn] at ly
  subst hv
  have SP : Hid (Sl .u8 w3 p (E x ++ E y)) := sp
  have HM : Hid ((E x).length = m) := hm
  have HN : Hid ((E y).length = n) := hn
  have HL : Hid ((E x ++ E y).length = m + n) := hl
  clear hap O2 B2 sp hm hn hl z2
  go_wp2_with fail
  refine (bread_at p (m + n) c 0 0 [] (E y) x w3 rfl hx0 hx1 rfl (by rw [List.nil_append]; exact HL.out) (by omega) (by rw [List.nil_append]; exact SP.out)).mono ?_
  rintro e w4 ⟨rfl, rfl⟩
  rw [HM.out]
  go_wp2_with fail
  refine (bread_at p (m + n) c m m (E x) [] y w4 rfl hy0 hy1 HM.out (by rw [List.append_nil]; exact HL.out) (by omega) (by rw [List.append_nil]; exact SP.out)).mono ?_
  rintro e w5 ⟨rfl, rfl⟩
  rw [HN.out]
  go_wp2
  go_ret
  exact ⟨ret_bool (by simp), B3.out⟩

/-! ### the row's step -/
set_option maxRecDepth 100000 in
theorem lifted (os : Os) (started : os.Started) (H : Type) (enc : TypeId × Value → H) :
    ReturnsInHanded {} Ycim.checked os 7 .any (Rows.lawS930001BReadBackSpec.pre6 enc Ycim.prog Ycim.f7 Rows.lawS930001BReadBackRow.domain false) (Rows.lawS930001BReadBackSpec.post enc Ycim.prog Ycim.f7 false true false false) := by
  refine returnsInHanded_of_change (C := Ycim.checked) own started (by kernel_rfl) Ycim.func7
    (ChangeSpec.witness6 (enc := enc) (C := Ycim.checked) false ⟨#[], #[.int .u64 0, .int .u64 0, .int .u8 0, .int .u64 0, .int .u64 0, .int .u8 0], []⟩ 8 (by kernel_rfl) (by kernel_rfl) (by kernel_rfl) (by kernel_rfl)) ?_
  intro W base args ds gs before hval0 hW hcnd _
  have hval : ∀ (j : Nat) t v, Ycim.f7.params[j]? = some t → args[j]? = some v → Value.okWide Ycim.prog W .any base t v := hval0
  have hW' := hW
  obtain ⟨p, q, hA0, hV, rfl, hfz, hnd⟩ := hW
  have hA : DataW.TrodAll enc Ycim.prog W 0 (fun _ => true) true Ycim.f7.params.toList args.toList ds p := hA0
  rw [Ycim.params7] at hA hval
  obtain ⟨v0, vs0, d0, ds0, p0, q0, hargs, rfl, rfl, h0, r0⟩ := trodAll_cons hA
  obtain ⟨v1, vs1, d1, ds1, p1, q1, rfl, rfl, rfl, h1, r1⟩ := trodAll_cons r0
  obtain ⟨v2, vs2, d2, ds2, p2, q2, rfl, rfl, rfl, h2, r2⟩ := trodAll_cons r1
  obtain ⟨v3, vs3, d3, ds3, p3, q3, rfl, rfl, rfl, h3, r3⟩ := trodAll_cons r2
  obtain ⟨v4, vs4, d4, ds4, p4, q4, rfl, rfl, rfl, h4, r4⟩ := trodAll_cons r3
  obtain ⟨v5, vs5, d5, ds5, p5, q5, rfl, rfl, rfl, h5, r5⟩ := trodAll_cons r4
  obtain ⟨rfl, rfl, rfl⟩ := trodAll_nil r5
  obtain rfl : args = #[v0, v1, v2, v3, v4, v5] := by cases args; simp_all
  obtain ⟨rfl, rfl⟩ := trodVars_none hV
  obtain ⟨a0, rfl, rfl, rfl, w0⟩ := open_int Ycim.underlying27 (hval 0 27 v0 rfl rfl) h0
  obtain ⟨a1, rfl, rfl, rfl, w1⟩ := open_int Ycim.underlying27 (hval 1 27 v1 rfl rfl) h1
  obtain ⟨a2, rfl, rfl, rfl, w2⟩ := open_int Ycim.underlying5 (hval 2 5 v2 rfl rfl) h2
  obtain ⟨a3, rfl, rfl, rfl, w3⟩ := open_int Ycim.underlying27 (hval 3 27 v3 rfl rfl) h3
  obtain ⟨a4, rfl, rfl, rfl, w4⟩ := open_int Ycim.underlying27 (hval 4 27 v4 rfl rfl) h4
  obtain ⟨a5, rfl, rfl, rfl, w5⟩ := open_int Ycim.underlying5 (hval 5 5 v5 rfl rfl) h5
  clear hA0 hval0
  refine (walk a0 a1 a2 a3 a4 a5 w0 w1 w2 w3 w4 w5 W).mono fun e W' ⟨he, bel⟩ => ?_
  subst he
  exact ⟨_, rfl, _, _, _, [], _, [], hW', trodAll_mk1 (shut_bool Ycim.underlying4 _), (trodAll_cons_mk (shut_int Ycim.underlying27 w0) (trodAll_cons_mk (shut_int Ycim.underlying27 w1) (trodAll_cons_mk (shut_int Ycim.underlying5 w2) (trodAll_cons_mk (shut_int Ycim.underlying27 w3) (trodAll_cons_mk (shut_int Ycim.underlying27 w4) (trodAll_cons_mk (shut_int Ycim.underlying5 w5) trodAll_mk0)))))), rfl, bel.frame _, fun h => by cases h⟩

theorem over : Rows.lawS930001BReadBackRow.holds Ycim.pinned (OpenSpec.ofChange Rows.lawS930001BReadBackSpec) :=
  OpenClaim.holds_of_wide 7 Ycim.f7 rfl rfl rfl rfl rfl rfl rfl ⟨rfl, rfl, rfl, rfl, rfl⟩ rfl rfl rfl rfl rfl (by kernel_rfl) Ycim.func7 (by kernel_rfl)
    (of_decide_eq_true (by kernel_rfl)) (by unfold Func.isWrapper; first | (rw [if_pos (by decide +kernel)]; kernel_rfl) | (rw [if_neg (by decide +kernel)]; exact ⟨rfl, rfl⟩))
    (fun os started H enc _ => lifted os started H enc)

/-- ████ THE STATEMENT ████ -/
theorem proved : Rows.LawS930001BReadBackSaid :=
  over
#print axioms proved
end Go.Proofs.Ymbrci.lawS930001BReadBack
