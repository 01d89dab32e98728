/-
  'Rows.LawS930001GOrderSaid': the guide's shell at this function, its walk filled.
-/
import Derived.Test.YmbrcjRows
import Derived.WalkKit
import Derived.ProofKit
import Derived.OpenShut
import Derived.ShutString
import Derived.Test.YmbrcjLen
namespace Go.Proofs.Ymbrcj.lawS930001GOrder
open Go.ChangeShapes Go.WideShapes Go.ChangeAt Go.RowKit
open Go.ChangeMaps (open_string shut_string)
set_option linter.unusedVariables false      -- a walk need not use every 'w<i>' (that an integer argument fits its kind)

theorem own : ownKnob Ycjm.prog.godebug = none := by kernel_rfl

theorem wrap_bd (n : Int) : 0 ≤ IntKind.u64.wrap n ∧ IntKind.u64.wrap n ≤ 18446744073709551615 := u64_bd (wf_wrap .u64 n)

theorem walk (a0 : Int) (a1 : Int) (a2 : Int) (a3 : Int) (w0 : (Lit.int .u64 a0).wf = true) (w1 : (Lit.int .u64 a1).wf = true) (w2 : (Lit.int .u8 a2).wf = true) (w3 : (Lit.int .u8 a3).wf = true) (w : World) :
    Calls Ycjm.prog 10 #[.int .u64 a0, .int .u64 a1, .int .u8 a2, .int .u8 a3] w fun e w' => e = .returned (.bool true) ∧ Grown w w' := by
  have h0 := u64_bd w0
  have h1 := u64_bd w1
  have h2 := u8_bd w2
  have h3 := u8_bd w3
  have hb := wrap_bd (a0 * 2 ^ (a2 % 64).toNat)
  have hb' := wrap_bd (a1 * 2 ^ (a3 % 64).toNat)
  clear w0 w1 w2 w3
  go_enter Ycjm.func10, Ycjm.ntmps10
  go_wp2_with fail
  generalize IntKind.u64.wrap (a0 * 2 ^ (a2 % 64).toNat) = x at hb ⊢
  generalize IntKind.u64.wrap (a1 * 2 ^ (a3 % 64).toNat) = y at hb' ⊢
  refine (len_any x w hb.1 hb.2).mono ?_
  rintro e w' ⟨rfl, rfl⟩
  go_wp2_with fail
  refine (len_any y _ hb'.1 hb'.2).mono ?_
  rintro e w' ⟨rfl, rfl⟩
  have r1 := gl_range x
  have r2 := gl_range y
  have r3 := fun h : x ≤ y => gl_mono h
  have r4 := fun h : y ≤ x => gl_mono h
  have c1 : ¬ gl x < 1 := by omega
  have c2 : ¬ 10 < gl x := by omega
  have c3 : ¬ gl y < 1 := by omega
  have c4 : ¬ 10 < gl y := by omega
  by_cases hxy : x ≤ y
  · have hl := r3 hxy
    clear r3 r4
    go_wp2
    go_ret
    exact ⟨ret_bool (by simp), Grown.refl _⟩
  · have hl := r4 (by omega)
    clear r3 r4
    go_wp2
    go_ret
    exact ⟨ret_bool (by simp), Grown.refl _⟩

/-! ### the row's step -/
set_option maxRecDepth 100000 in
theorem lifted (os : Os) (started : os.Started) (H : Type) (enc : TypeId × Value → H) :
    ReturnsInHanded {} Ycjm.checked os 10 .any (Rows.lawS930001GOrderSpec.pre6 enc Ycjm.prog Ycjm.f10 Rows.lawS930001GOrderRow.domain false) (Rows.lawS930001GOrderSpec.post enc Ycjm.prog Ycjm.f10 false true false false) := by
  refine returnsInHanded_of_change (C := Ycjm.checked) own started (by kernel_rfl) Ycjm.func10
    (ChangeSpec.witness6 (enc := enc) (C := Ycjm.checked) false ⟨#[], #[.int .u64 0, .int .u64 0, .int .u8 0, .int .u8 0], []⟩ 8 (by kernel_rfl) (by kernel_rfl) (by kernel_rfl) (by kernel_rfl)) ?_
  intro W base args ds gs before hval0 hW hcnd _
  have hval : ∀ (j : Nat) t v, Ycjm.f10.params[j]? = some t → args[j]? = some v → Value.okWide Ycjm.prog W .any base t v := hval0
  have hW' := hW
  obtain ⟨p, q, hA0, hV, rfl, hfz, hnd⟩ := hW
  have hA : DataW.TrodAll enc Ycjm.prog W 0 (fun _ => true) true Ycjm.f10.params.toList args.toList ds p := hA0
  rw [Ycjm.params10] at hA hval
  obtain ⟨v0, vs0, d0, ds0, p0, q0, hargs, rfl, rfl, h0, r0⟩ := trodAll_cons hA
  obtain ⟨v1, vs1, d1, ds1, p1, q1, rfl, rfl, rfl, h1, r1⟩ := trodAll_cons r0
  obtain ⟨v2, vs2, d2, ds2, p2, q2, rfl, rfl, rfl, h2, r2⟩ := trodAll_cons r1
  obtain ⟨v3, vs3, d3, ds3, p3, q3, rfl, rfl, rfl, h3, r3⟩ := trodAll_cons r2
  obtain ⟨rfl, rfl, rfl⟩ := trodAll_nil r3
  obtain rfl : args = #[v0, v1, v2, v3] := by cases args; simp_all
  obtain ⟨rfl, rfl⟩ := trodVars_none hV
  obtain ⟨a0, rfl, rfl, rfl, w0⟩ := open_int Ycjm.underlying22 (hval 0 22 v0 rfl rfl) h0
  obtain ⟨a1, rfl, rfl, rfl, w1⟩ := open_int Ycjm.underlying22 (hval 1 22 v1 rfl rfl) h1
  obtain ⟨a2, rfl, rfl, rfl, w2⟩ := open_int Ycjm.underlying5 (hval 2 5 v2 rfl rfl) h2
  obtain ⟨a3, rfl, rfl, rfl, w3⟩ := open_int Ycjm.underlying5 (hval 3 5 v3 rfl rfl) h3
  clear hA0 hval0
  simp only [List.append_nil] at hW'
  refine (walk a0 a1 a2 a3 w0 w1 w2 w3 W).mono fun e W' ⟨he, hg⟩ => ?_
  subst he
  exact ⟨_, rfl, post_of_same (pa := []) (pv := []) hW' (fun _ _ _ => (trodAll_cons_mk (shut_bool Ycjm.underlying4 _) trodAll_mk0)) (fun sp _ => (trodAll_cons_mk (shut_int Ycjm.underlying22 w0) (trodAll_cons_mk (shut_int Ycjm.underlying22 w1) (trodAll_cons_mk (shut_int Ycjm.underlying5 w2) (trodAll_cons_mk (shut_int Ycjm.underlying5 w3) trodAll_mk0))))) (fun _ _ => rfl) rfl
    (hg.frame _) hg.2.1 (ok_one (by kernel_rfl) rfl (okWide_bool_mk Ycjm.underlying4 _))⟩

theorem over : Rows.lawS930001GOrderRow.holds Ycjm.pinned (OpenSpec.ofChange Rows.lawS930001GOrderSpec) :=
  OpenClaim.holds_of_wide 10 Ycjm.f10 rfl rfl rfl rfl rfl rfl rfl ⟨rfl, rfl, rfl, rfl, rfl⟩ rfl rfl rfl rfl rfl (by kernel_rfl) Ycjm.func10 (by kernel_rfl)
    (of_decide_eq_true (by kernel_rfl)) (by unfold Func.isWrapper; first | (rw [if_pos (by decide +kernel)]; kernel_rfl) | (rw [if_neg (by decide +kernel)]; exact ⟨rfl, rfl⟩))
    (fun os started H enc _ => lifted os started H enc)

/-- ████ THE STATEMENT ████ -/
theorem proved : Rows.LawS930001GOrderSaid :=
  over
#print axioms proved
end Go.Proofs.Ymbrcj.lawS930001GOrder
