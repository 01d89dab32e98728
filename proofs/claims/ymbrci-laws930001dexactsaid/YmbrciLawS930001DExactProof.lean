/-
  'Rows.LawS930001DExactSaid': the guide's shell at this function, its walk filled.
-/
import Derived.Test.YmbrciRows
import Derived.WalkKit
import Derived.ProofKit
import Derived.OpenShut
import Derived.ShutString
import Derived.ChangeOld
import Derived.Below
import Derived.Test.YmbrciDLib
namespace Go.Proofs.Ymbrci.lawS930001DExact
open Go.ChangeShapes Go.WideShapes Go.ChangeAt Go.RowKit
open Go.ChangeMaps (open_string shut_string)
set_option linter.unusedVariables false

theorem own : ownKnob Ycim.prog.godebug = none := by kernel_rfl
theorem laidOut : laidOutB Ycim.prog = true := by kernel_rfl

/-- WHAT THE WALK IS TOLD OF A SLICE OF INTEGERS THAT CAME IN: it is nil; or it leads to a row of 'cap' cells, the numbers 'zs' (the first 'len' are its elements, the rest its spare room), each fitting its kind. -/
def IsRow (k : IntKind) (w : World) (a : Option Addr) (len cap : Nat) (zs : List Int) : Prop :=
  (a = none ∧ len = 0 ∧ cap = 0 ∧ zs = []) ∨
  ∃ x, a = some x ∧ len ≤ cap ∧ cap ≤ maxLen ∧ zs.length = cap ∧ (∀ i, i < zs.length → w.cell? (x.add i) = some (.int k (zs.getD i 0))) ∧ ∀ n ∈ zs, (Lit.int k n).wf = true



set_option maxHeartbeats 4000000 in
theorem walk (a0 : Option Addr) (len0 cap0 : Nat) (z0 : List Int) (a1 : Option Addr) (len1 cap1 : Nat) (z1 : List Int) (w : World) (w0 : IsRow .u8 w a0 len0 cap0 z0) (w1 : IsRow .u64 w a1 len1 cap1 z1) :
    Calls Ycim.prog 11 #[.slice a0 len0 cap0, .slice a1 len1 cap1] w fun e w' => e = .returned (.bool true) ∧ Below w.heap.size w w' := by
  obtain ⟨ds, hd, hdc, md, sd, wd, nd⟩ := sl_of_row w0
  obtain ⟨xs, hx, hxc, mx, sx, wx, nx⟩ := sl_of_row w1
  clear w0 w1
  by_cases hbig : 1024 < len0
  · go_enter Ycim.func11, Ycim.ntmps11
    go_wp2
    go_ret
    exact ⟨rfl, Below.refl _ _⟩
  by_cases hbig1 : 1024 < len1
  · go_enter Ycim.func11, Ycim.ntmps11
    go_wp2
    go_ret
    exact ⟨rfl, Below.refl _ _⟩
  have SD : Hid (Sl .u8 w a0 ds) := sd
  have HD : Hid (ds.length = len0) := hd
  have SX : Hid (Sl .u64 w a1 xs) := sx
  have HX : Hid (xs.length = len1) := hx
  have HW : Hid (Words xs) := words_of_wf wx
  have HND : Hid (a0 = none → len0 = 0 ∧ cap0 = 0) := nd
  clear sd hd sx hx wx nd nx wd hdc md hxc mx
  go_enter Ycim.func11, Ycim.ntmps11
  go_wp2_with fail
  refine (dcopy_any a0 len0 cap0 ds w HD.out (by omega) SD.out HND.out).mono ?_
  rintro e w1 ⟨v1, rfl, hown, hbel, p1, n1, c1, hv1, hnone⟩
  have O1 : Hid (Owns .u8 5 w.heap.size w1 v1 ds) := hown
  have B1 : Hid (Below w.heap.size w w1) := hbel
  have HV1 : Hid (v1 = .slice p1 n1 c1) := hv1
  have HNO : Hid (p1.isNone = a0.isNone) := hnone
  clear hown hbel hv1 hnone
  go_wp2_with fail
  refine (appendAll_any v1 ds a1 len1 cap1 xs w1 w.heap.size HX.out (by omega) HW.out O1.out B1.out.size (by rw [HD.out]; omega) (SX.out.later B1.out (Nat.le_refl _)) (O1.out.notOld SX.out)).mono ?_
  rintro e w2 ⟨v2, rfl, hap⟩
  have B2 : Hid (Below w.heap.size w w2) := B1.out.trans (hap.below O1.out B1.out.size)
  obtain ⟨p, c, hv2, hc, mc, sp, _⟩ := hap.owns.shape
  obtain ⟨N, hN⟩ : ∃ N, (ds ++ flat xs).length = N := ⟨_, rfl⟩
  rw [hN] at hv2 hc
  have mN : N ≤ 9223372036854775807 := by omega
  have HN : Hid ((ds ++ flat xs).length = N) := hN
  have SP : Hid (Sl .u8 w2 p (ds ++ flat xs)) := sp
  have HSA : Hid (len1 = 0 → p.isNone = a0.isNone) := fun h0 => by
    have hx0 : xs = [] := List.eq_nil_of_length_eq_zero (by rw [HX.out]; exact h0)
    have e1 := hap.same (by rw [hx0]; rfl)
    rw [HV1.out, hv2] at e1
    simp only [Value.slice.injEq] at e1
    rw [e1.1]; exact HNO.out
  rw [hv2]
  clear hap hc mc sp hN hv2 HV1 HNO O1 B1
  by_cases hz : len1 = 0
  · have hnl1 := fun w => Lib.run_eql_slice_nil (P := Ycim.prog) w 22 5 p N c 0 0 Ycim.underlying22
    have hnl2 := fun w => Lib.run_eql_slice_nil (P := Ycim.prog) w 22 5 a0 len0 cap0 0 0 Ycim.underlying22
    rw [HSA.out hz] at hnl1
    obtain ⟨bb, hbb⟩ : ∃ b, a0.isNone = b := ⟨_, rfl⟩
    rw [hbb] at hnl1 hnl2
    clear hbb HSA
    subst hz
    cases bb
    · skip
      go_wp2_with fail
      refine (dwant_any a0 a1 len0 cap0 0 cap1 ds xs w2 HD.out (by omega) HX.out (by omega) (SD.out.later B2.out (Nat.le_refl _)) (SX.out.later B2.out (Nat.le_refl _)) HW.out).mono ?_
      rintro e w3 ⟨v3, rfl, hown, hbel⟩
      obtain ⟨p3, c3, hv3, hc3, mc3, sp3, _⟩ := hown.shape
      rw [HN.out] at hv3
      have S3 : Hid (Sl .u8 w3 p (ds ++ flat xs)) := SP.out.later hbel (Nat.le_refl _)
      have T3 : Hid (Sl .u8 w3 p3 (ds ++ flat xs)) := sp3
      have B3 : Hid (Below w.heap.size w w3) := B2.out.trans (hbel.mono B2.out.size)
      rw [hv3]
      clear hown hbel hv3 hc3 mc3 sp3
      go_wp2_with fail
      refine (deq_any p p3 N N c c3 (ds ++ flat xs) (ds ++ flat xs) w3 HN.out HN.out mN mN S3.out T3.out).mono ?_
      rintro e w4 ⟨rfl, hq⟩
      have B4 : Hid (Below w.heap.size w w4) := drews hq B3.out
      rw [sameB_true rfl]
      clear hq
      go_wp2
      go_ret
      exact ⟨rfl, B4.out⟩
    · skip
      go_wp2_with fail
      refine (dwant_any a0 a1 len0 cap0 0 cap1 ds xs w2 HD.out (by omega) HX.out (by omega) (SD.out.later B2.out (Nat.le_refl _)) (SX.out.later B2.out (Nat.le_refl _)) HW.out).mono ?_
      rintro e w3 ⟨v3, rfl, hown, hbel⟩
      obtain ⟨p3, c3, hv3, hc3, mc3, sp3, _⟩ := hown.shape
      rw [HN.out] at hv3
      have S3 : Hid (Sl .u8 w3 p (ds ++ flat xs)) := SP.out.later hbel (Nat.le_refl _)
      have T3 : Hid (Sl .u8 w3 p3 (ds ++ flat xs)) := sp3
      have B3 : Hid (Below w.heap.size w w3) := B2.out.trans (hbel.mono B2.out.size)
      rw [hv3]
      clear hown hbel hv3 hc3 mc3 sp3
      go_wp2_with fail
      refine (deq_any p p3 N N c c3 (ds ++ flat xs) (ds ++ flat xs) w3 HN.out HN.out mN mN S3.out T3.out).mono ?_
      rintro e w4 ⟨rfl, hq⟩
      have B4 : Hid (Below w.heap.size w w4) := drews hq B3.out
      rw [sameB_true rfl]
      clear hq
      go_wp2
      go_ret
      exact ⟨rfl, B4.out⟩
  · clear HSA
    go_wp2_with fail
    refine (dwant_any a0 a1 len0 cap0 len1 cap1 ds xs w2 HD.out (by omega) HX.out (by omega) (SD.out.later B2.out (Nat.le_refl _)) (SX.out.later B2.out (Nat.le_refl _)) HW.out).mono ?_
    rintro e w3 ⟨v3, rfl, hown, hbel⟩
    obtain ⟨p3, c3, hv3, hc3, mc3, sp3, _⟩ := hown.shape
    rw [HN.out] at hv3
    have S3 : Hid (Sl .u8 w3 p (ds ++ flat xs)) := SP.out.later hbel (Nat.le_refl _)
    have T3 : Hid (Sl .u8 w3 p3 (ds ++ flat xs)) := sp3
    have B3 : Hid (Below w.heap.size w w3) := B2.out.trans (hbel.mono B2.out.size)
    rw [hv3]
    clear hown hbel hv3 hc3 mc3 sp3
    go_wp2_with fail
    refine (deq_any p p3 N N c c3 (ds ++ flat xs) (ds ++ flat xs) w3 HN.out HN.out mN mN S3.out T3.out).mono ?_
    rintro e w4 ⟨rfl, hq⟩
    have B4 : Hid (Below w.heap.size w w4) := drews hq B3.out
    rw [sameB_true rfl]
    clear hq
    go_wp2
    go_ret
    exact ⟨rfl, B4.out⟩

/-! ### the row's step -/
set_option maxRecDepth 100000 in
theorem lifted (os : Os) (started : os.Started) (H : Type) (enc : TypeId × Value → H) :
    ReturnsInHanded {} Ycim.checked os 11 .any (Rows.lawS930001DExactSpec.pre6 enc Ycim.prog Ycim.f11 Rows.lawS930001DExactRow.domain false) (Rows.lawS930001DExactSpec.post enc Ycim.prog Ycim.f11 false true false false) := by
  refine returnsInHanded_of_change (C := Ycim.checked) own started (by kernel_rfl) Ycim.func11
    (ChangeSpec.witness6 (enc := enc) (C := Ycim.checked) false ⟨#[], #[.slice none 0 0, .slice none 0 0], []⟩ 8 (by kernel_rfl) (by kernel_rfl) (by kernel_rfl) (by kernel_rfl)) ?_
  intro W base args ds gs before hval0 hW hcnd _
  have hval : ∀ (j : Nat) t v, Ycim.f11.params[j]? = some t → args[j]? = some v → Value.okWide Ycim.prog W .any base t v := hval0
  have hW' := hW
  obtain ⟨p, q, hA0, hV, rfl, hfz, hnd⟩ := hW
  have hA : DataW.TrodAll enc Ycim.prog W 0 (fun _ => true) true Ycim.f11.params.toList args.toList ds p := hA0
  rw [Ycim.params11] at hA hval
  obtain ⟨v0, vs0, d0, ds0, p0, q0, hargs, rfl, rfl, h0, r0⟩ := trodAll_cons hA
  obtain ⟨v1, vs1, d1, ds1, p1, q1, rfl, rfl, rfl, h1, r1⟩ := trodAll_cons r0
  obtain ⟨rfl, rfl, rfl⟩ := trodAll_nil r1
  obtain rfl : args = #[v0, v1] := by cases args; simp_all
  obtain ⟨rfl, rfl⟩ := trodVars_none hV
  obtain ⟨a0, len0, cap0, rfl⟩ := okWide_slice Ycim.underlying22 (hval 0 22 v0 rfl rfl)
  have k0 := h0
  have lt0 : ∀ x ∈ p0, x.block < W.heap.size := by obtain ⟨m, hm⟩ := k0; exact DataW.trod_lt m _ _ _ hm
  obtain ⟨z0, w0⟩ : ∃ zs, IsRow .u8 W a0 len0 cap0 zs := by
    obtain ⟨fuel, hf⟩ := h0
    rcases open_ints Ycim.underlying22 Ycim.underlying5 (by kernel_rfl) hf with ⟨hcs, _⟩ | ⟨x, l, c, zs, hcs, _, hl, hm, hz, _, hcell, hwz⟩
    · simp [Value.cells] at hcs
      obtain ⟨rfl, rfl, rfl⟩ := hcs
      exact ⟨[], .inl ⟨rfl, rfl, rfl, rfl⟩⟩
    · simp [Value.cells] at hcs
      obtain ⟨rfl, rfl, rfl⟩ := hcs
      exact ⟨zs, .inr ⟨_, rfl, hl, hm, by simpa using hz, hcell, hwz⟩⟩
  obtain ⟨a1, len1, cap1, rfl⟩ := okWide_slice Ycim.underlying43 (hval 1 43 v1 rfl rfl)
  have k1 := h1
  have lt1 : ∀ x ∈ p1, x.block < W.heap.size := by obtain ⟨m, hm⟩ := k1; exact DataW.trod_lt m _ _ _ hm
  obtain ⟨z1, w1⟩ : ∃ zs, IsRow .u64 W a1 len1 cap1 zs := by
    obtain ⟨fuel, hf⟩ := h1
    rcases open_ints Ycim.underlying43 Ycim.underlying27 (by kernel_rfl) hf with ⟨hcs, _⟩ | ⟨x, l, c, zs, hcs, _, hl, hm, hz, _, hcell, hwz⟩
    · simp [Value.cells] at hcs
      obtain ⟨rfl, rfl, rfl⟩ := hcs
      exact ⟨[], .inl ⟨rfl, rfl, rfl, rfl⟩⟩
    · simp [Value.cells] at hcs
      obtain ⟨rfl, rfl, rfl⟩ := hcs
      exact ⟨zs, .inr ⟨_, rfl, hl, hm, by simpa using hz, hcell, hwz⟩⟩
  clear hA0 hval0
  refine (walk a0 len0 cap0 z0 a1 len1 cap1 z1 W w0 w1).mono fun e W' ⟨he, bel⟩ => ?_
  subst he
  exact ⟨_, rfl, _, _, _, [], _, [], hW', trodAll_mk1 (shut_bool Ycim.underlying4 _), (trodAll_cons_mk (Below.trod laidOut (by kernel_rfl) (of_decide_eq_true (by kernel_rfl)) k0 bel lt0) (trodAll_cons_mk (Below.trod laidOut (by kernel_rfl) (of_decide_eq_true (by kernel_rfl)) k1 bel lt1) trodAll_mk0)), rfl, bel.frame _, fun h => by cases h⟩

theorem over : Rows.lawS930001DExactRow.holds Ycim.pinned (OpenSpec.ofChange Rows.lawS930001DExactSpec) :=
  OpenClaim.holds_of_wide 11 Ycim.f11 rfl rfl rfl rfl rfl rfl rfl ⟨rfl, rfl, rfl, rfl, rfl⟩ rfl rfl rfl rfl rfl (by kernel_rfl) Ycim.func11 (by kernel_rfl)
    (of_decide_eq_true (by kernel_rfl)) (by unfold Func.isWrapper; first | (rw [if_pos (by decide +kernel)]; kernel_rfl) | (rw [if_neg (by decide +kernel)]; exact ⟨rfl, rfl⟩))
    (fun os started H enc _ => lifted os started H enc)

/-- ████ THE STATEMENT ████ -/
theorem proved : Rows.LawS930001DExactSaid := over
#print axioms proved
end Go.Proofs.Ymbrci.lawS930001DExact
