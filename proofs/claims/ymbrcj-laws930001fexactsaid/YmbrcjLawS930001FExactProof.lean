/-
  'Rows.LawS930001FExactSaid': the guide's shell at this function, its walk filled.
-/
import Derived.Test.YmbrcjRows
import Derived.WalkKit
import Derived.ProofKit
import Derived.OpenShut
import Derived.ShutString
import Derived.ChangeOld
import Derived.Below
import Derived.Test.YmbrcjCmp
namespace Go.Proofs.Ymbrcj.lawS930001FExact
open Go.ChangeShapes Go.WideShapes Go.ChangeAt Go.RowKit
open Go.ChangeMaps (open_string shut_string)
set_option linter.unusedVariables false

theorem own : ownKnob Ycjm.prog.godebug = none := by kernel_rfl
theorem laidOut : laidOutB Ycjm.prog = true := by kernel_rfl

/-- WHAT THE WALK IS TOLD OF A SLICE OF INTEGERS THAT CAME IN: it is nil; or it leads to a row of 'cap' cells, the numbers 'zs' (the first 'len' are its elements, the rest its spare room), each fitting its kind. -/
def IsRow (k : IntKind) (w : World) (a : Option Addr) (len cap : Nat) (zs : List Int) : Prop :=
  (a = none ∧ len = 0 ∧ cap = 0 ∧ zs = []) ∨
  ∃ x, a = some x ∧ len ≤ cap ∧ cap ≤ maxLen ∧ zs.length = cap ∧ (∀ i, i < zs.length → w.cell? (x.add i) = some (.int k (zs.getD i 0))) ∧ ∀ n ∈ zs, (Lit.int k n).wf = true



set_option maxHeartbeats 1000000 in
theorem walk (a0 : Option Addr) (len0 cap0 : Nat) (z0 : List Int) (a1 : Option Addr) (len1 cap1 : Nat) (z1 : List Int) (w : World) (w0 : IsRow .u8 w a0 len0 cap0 z0) (w1 : IsRow .u8 w a1 len1 cap1 z1) :
    Calls Ycjm.prog 5 #[.slice a0 len0 cap0, .slice a1 len1 cap1] w fun e w' => e = .returned (.bool true) ∧ Below w.heap.size w w' := by
  obtain ⟨xs, hx, hxc, mx, sx, _, nx⟩ := sl_of_row w0
  obtain ⟨ys, hy, hyc, my, sy, _, ny⟩ := sl_of_row w1
  clear w0 w1
  have SX : Hid (Sl .u8 w a0 xs) := sx
  have SY : Hid (Sl .u8 w a1 ys) := sy
  have HX : Hid (xs.length = len0) := hx
  have HY : Hid (ys.length = len1) := hy
  have m0 : len0 ≤ 9223372036854775807 := by omega
  have m1 : len1 ≤ 9223372036854775807 := by omega
  clear sx sy hx hy nx ny
  go_enter Ycjm.func5, Ycjm.ntmps5
  go_wp2_with fail
  refine (compare_any a0 a1 len0 len1 cap0 cap1 xs ys w HX.out HY.out m0 m1 SX.out SY.out).mono ?_
  rintro e w1 ⟨rfl, hq⟩
  have S1X : Hid (Sl .u8 w1 a0 xs) := SX.out.quiet hq
  have S1Y : Hid (Sl .u8 w1 a1 ys) := SY.out.quiet hq
  have B1 : Hid (Below w.heap.size w w1) := drews hq (Below.refl _ _)
  clear hq SX SY
  go_wp2_with fail
  refine (fexpect_any a0 a1 len0 len1 cap0 cap1 xs ys w1 HX.out HY.out m0 m1 S1X.out S1Y.out).mono ?_
  rintro e w2 ⟨rfl, hq⟩
  have SX : Hid (Sl .u8 w2 a0 xs) := S1X.out.quiet hq
  have SY : Hid (Sl .u8 w2 a1 ys) := S1Y.out.quiet hq
  have B2 : Hid (Below w.heap.size w w2) := drews hq B1.out
  clear hq S1X S1Y B1
  by_cases hlt : len1 < len0
  · have HT : Hid ((xs.take len1).length = len1) := by show _ = _; rw [List.length_take, HX.out]; omega
    have s0 := run_pre Ycjm.underlying23 size8 a0 len0 cap0 len1 (by omega)
    have s1 := run_pre Ycjm.underlying23 size8 a1 len1 cap1 len1 (by omega)
    clear hxc hyc
    go_wp2_with fail
    go_quiet (first
      | (go_at_call 17; exact Calls.quiet_of (compare_any a0 a1 len1 len1 cap0 cap1 (xs.take len1) ys _ HT.out HY.out m1 m1 ((SX.out.pre len1).any fun _ => rfl) (SY.out.any fun _ => rfl)))
      | (go_at_call 18; exact Calls.quiet_of (fexpect_any a0 a1 len1 len1 cap0 cap1 (xs.take len1) ys _ HT.out HY.out m1 m1 ((SX.out.pre len1).any fun _ => rfl) (SY.out.any fun _ => rfl))))
    go_wp2
    go_ret
    exact ⟨ret_bool (by simp), below_drewN B2.out _⟩
  · have HT : Hid ((ys.take len0).length = len0) := by show _ = _; rw [List.length_take, HY.out]; omega
    have s0 := run_pre Ycjm.underlying23 size8 a0 len0 cap0 len0 (by omega)
    have s1 := run_pre Ycjm.underlying23 size8 a1 len1 cap1 len0 (by omega)
    clear hxc hyc
    go_wp2_with fail
    go_quiet (first
      | (go_at_call 17; exact Calls.quiet_of (compare_any a0 a1 len0 len0 cap0 cap1 xs (ys.take len0) _ HX.out HT.out m0 m0 (SX.out.any fun _ => rfl) ((SY.out.pre len0).any fun _ => rfl)))
      | (go_at_call 18; exact Calls.quiet_of (fexpect_any a0 a1 len0 len0 cap0 cap1 xs (ys.take len0) _ HX.out HT.out m0 m0 (SX.out.any fun _ => rfl) ((SY.out.pre len0).any fun _ => rfl))))
    go_wp2
    go_ret
    exact ⟨ret_bool (by simp), below_drewN B2.out _⟩

/-! ### the row's step -/
set_option maxRecDepth 100000 in
theorem lifted (os : Os) (started : os.Started) (H : Type) (enc : TypeId × Value → H) :
    ReturnsInHanded {} Ycjm.checked os 5 .any (Rows.lawS930001FExactSpec.pre6 enc Ycjm.prog Ycjm.f5 Rows.lawS930001FExactRow.domain false) (Rows.lawS930001FExactSpec.post enc Ycjm.prog Ycjm.f5 false true false false) := by
  refine returnsInHanded_of_change (C := Ycjm.checked) own started (by kernel_rfl) Ycjm.func5
    (ChangeSpec.witness6 (enc := enc) (C := Ycjm.checked) false ⟨#[], #[.slice none 0 0, .slice none 0 0], []⟩ 8 (by kernel_rfl) (by kernel_rfl) (by kernel_rfl) (by kernel_rfl)) ?_
  intro W base args ds gs before hval0 hW hcnd _
  have hval : ∀ (j : Nat) t v, Ycjm.f5.params[j]? = some t → args[j]? = some v → Value.okWide Ycjm.prog W .any base t v := hval0
  have hW' := hW
  obtain ⟨p, q, hA0, hV, rfl, hfz, hnd⟩ := hW
  have hA : DataW.TrodAll enc Ycjm.prog W 0 (fun _ => true) true Ycjm.f5.params.toList args.toList ds p := hA0
  rw [Ycjm.params5] at hA hval
  obtain ⟨v0, vs0, d0, ds0, p0, q0, hargs, rfl, rfl, h0, r0⟩ := trodAll_cons hA
  obtain ⟨v1, vs1, d1, ds1, p1, q1, rfl, rfl, rfl, h1, r1⟩ := trodAll_cons r0
  obtain ⟨rfl, rfl, rfl⟩ := trodAll_nil r1
  obtain rfl : args = #[v0, v1] := by cases args; simp_all
  obtain ⟨rfl, rfl⟩ := trodVars_none hV
  obtain ⟨a0, len0, cap0, rfl⟩ := okWide_slice Ycjm.underlying23 (hval 0 23 v0 rfl rfl)
  have k0 := h0
  have lt0 : ∀ x ∈ p0, x.block < W.heap.size := by obtain ⟨m, hm⟩ := k0; exact DataW.trod_lt m _ _ _ hm
  obtain ⟨z0, w0⟩ : ∃ zs, IsRow .u8 W a0 len0 cap0 zs := by
    obtain ⟨fuel, hf⟩ := h0
    rcases open_ints Ycjm.underlying23 Ycjm.underlying5 (by kernel_rfl) hf with ⟨hcs, _⟩ | ⟨x, l, c, zs, hcs, _, hl, hm, hz, _, hcell, hwz⟩
    · simp [Value.cells] at hcs
      obtain ⟨rfl, rfl, rfl⟩ := hcs
      exact ⟨[], .inl ⟨rfl, rfl, rfl, rfl⟩⟩
    · simp [Value.cells] at hcs
      obtain ⟨rfl, rfl, rfl⟩ := hcs
      exact ⟨zs, .inr ⟨_, rfl, hl, hm, by simpa using hz, hcell, hwz⟩⟩
  obtain ⟨a1, len1, cap1, rfl⟩ := okWide_slice Ycjm.underlying23 (hval 1 23 v1 rfl rfl)
  have k1 := h1
  have lt1 : ∀ x ∈ p1, x.block < W.heap.size := by obtain ⟨m, hm⟩ := k1; exact DataW.trod_lt m _ _ _ hm
  obtain ⟨z1, w1⟩ : ∃ zs, IsRow .u8 W a1 len1 cap1 zs := by
    obtain ⟨fuel, hf⟩ := h1
    rcases open_ints Ycjm.underlying23 Ycjm.underlying5 (by kernel_rfl) hf with ⟨hcs, _⟩ | ⟨x, l, c, zs, hcs, _, hl, hm, hz, _, hcell, hwz⟩
    · simp [Value.cells] at hcs
      obtain ⟨rfl, rfl, rfl⟩ := hcs
      exact ⟨[], .inl ⟨rfl, rfl, rfl, rfl⟩⟩
    · simp [Value.cells] at hcs
      obtain ⟨rfl, rfl, rfl⟩ := hcs
      exact ⟨zs, .inr ⟨_, rfl, hl, hm, by simpa using hz, hcell, hwz⟩⟩
  clear hA0 hval0
  refine (walk a0 len0 cap0 z0 a1 len1 cap1 z1 W w0 w1).mono fun e W' ⟨he, bel⟩ => ?_
  subst he
  exact ⟨_, rfl, _, _, _, [], _, [], hW', trodAll_mk1 (shut_bool Ycjm.underlying4 _), (trodAll_cons_mk (Below.trod laidOut (by kernel_rfl) (of_decide_eq_true (by kernel_rfl)) k0 bel lt0) (trodAll_cons_mk (Below.trod laidOut (by kernel_rfl) (of_decide_eq_true (by kernel_rfl)) k1 bel lt1) trodAll_mk0)), rfl, bel.frame _, fun h => by cases h⟩

theorem over : Rows.lawS930001FExactRow.holds Ycjm.pinned (OpenSpec.ofChange Rows.lawS930001FExactSpec) :=
  OpenClaim.holds_of_wide 5 Ycjm.f5 rfl rfl rfl rfl rfl rfl rfl ⟨rfl, rfl, rfl, rfl, rfl⟩ rfl rfl rfl rfl rfl (by kernel_rfl) Ycjm.func5 (by kernel_rfl)
    (of_decide_eq_true (by kernel_rfl)) (by unfold Func.isWrapper; first | (rw [if_pos (by decide +kernel)]; kernel_rfl) | (rw [if_neg (by decide +kernel)]; exact ⟨rfl, rfl⟩))
    (fun os started H enc _ => lifted os started H enc)

/-- ████ THE STATEMENT ████ -/
theorem proved : Rows.LawS930001FExactSaid := over
#print axioms proved
end Go.Proofs.Ymbrcj.lawS930001FExact
