/-
  'Rows.LawS930001FOrderSaid': the guide's shell at this function, its walk filled.
-/
import Derived.Test.YmbrcjRows
import Derived.WalkKit
import Derived.ProofKit
import Derived.OpenShut
import Derived.ShutString
import Derived.ChangeOld
import Derived.Below
import Derived.Test.YmbrcjCmp
namespace Go.Proofs.Ymbrcj.lawS930001FOrder
open Go.ChangeShapes Go.WideShapes Go.ChangeAt Go.RowKit
open Go.ChangeMaps (open_string shut_string)
set_option linter.unusedVariables false

theorem own : ownKnob Ycjm.prog.godebug = none := by kernel_rfl
theorem laidOut : laidOutB Ycjm.prog = true := by kernel_rfl

/-- WHAT THE WALK IS TOLD OF A SLICE OF INTEGERS THAT CAME IN: it is nil; or it leads to a row of 'cap' cells, the numbers 'zs' (the first 'len' are its elements, the rest its spare room), each fitting its kind. -/
def IsRow (k : IntKind) (w : World) (a : Option Addr) (len cap : Nat) (zs : List Int) : Prop :=
  (a = none ∧ len = 0 ∧ cap = 0 ∧ zs = []) ∨
  ∃ x, a = some x ∧ len ≤ cap ∧ cap ≤ maxLen ∧ zs.length = cap ∧ (∀ i, i < zs.length → w.cell? (x.add i) = some (.int k (zs.getD i 0))) ∧ ∀ n ∈ zs, (Lit.int k n).wf = true

theorem same_eq (xs ys : List Int) : sameB xs ys = (cmp xs ys == 0) := by
  by_cases h : xs = ys
  · rw [sameB_true h, (cmp_zero xs ys).2 h]; rfl
  · rw [sameB_false h]; exact (beq_eq_false_iff_ne.2 fun e => h ((cmp_zero xs ys).1 e)).symm
/-- All that the law asks of the three answers. -/
theorem order_facts (xs ys zs : List Int) : -1 ≤ cmp xs ys ∧ cmp xs ys ≤ 1 ∧ -1 ≤ cmp ys zs ∧ cmp ys zs ≤ 1 ∧ -1 ≤ cmp xs zs ∧ cmp xs zs ≤ 1 ∧
    (cmp xs ys ≤ 0 → cmp ys zs ≤ 0 → cmp xs zs ≤ 0 ∧ (cmp xs zs = 0 ↔ cmp xs ys = 0 ∧ cmp ys zs = 0)) := by
  have h1 := cmp_range xs ys
  have h2 := cmp_range ys zs
  have h3 := cmp_range xs zs
  exact ⟨h1.1, h1.2, h2.1, h2.2, h3.1, h3.2, cmp_trans xs ys zs⟩

set_option maxHeartbeats 4000000 in
theorem walk (a0 : Option Addr) (len0 cap0 : Nat) (z0 : List Int) (a1 : Option Addr) (len1 cap1 : Nat) (z1 : List Int) (a2 : Option Addr) (len2 cap2 : Nat) (z2 : List Int) (a3 : Bool) (w : World) (w0 : IsRow .u8 w a0 len0 cap0 z0) (w1 : IsRow .u8 w a1 len1 cap1 z1) (w2 : IsRow .u8 w a2 len2 cap2 z2) :
    Calls Ycjm.prog 6 #[.slice a0 len0 cap0, .slice a1 len1 cap1, .slice a2 len2 cap2, .bool a3] w fun e w' => e = .returned (.bool true) ∧ Below w.heap.size w w' := by
  obtain ⟨xs, hx, hxc, mx, sx, _, _⟩ := sl_of_row w0
  obtain ⟨ys, hy, hyc, my, sy, _, _⟩ := sl_of_row w1
  obtain ⟨zs, hz, hzc, mz, sz, _, _⟩ := sl_of_row w2
  clear w0 w1 w2
  have SX : Hid (Sl .u8 w a0 xs) := sx
  have SY : Hid (Sl .u8 w a1 ys) := sy
  have SZ : Hid (Sl .u8 w a2 zs) := sz
  have HX : Hid (xs.length = len0) := hx
  have HY : Hid (ys.length = len1) := hy
  have HZ : Hid (zs.length = len2) := hz
  have m0 : len0 ≤ 9223372036854775807 := by omega
  have m1 : len1 ≤ 9223372036854775807 := by omega
  have m2 : len2 ≤ 9223372036854775807 := by omega
  clear sx sy sz hx hy hz
  cases a3 with
  | false =>
    have SX0 := SX
    have SY0 := SY
    have SZ0 := SZ
    have HX0 : Hid ((xs).length = len0) := by exact HX.out
    have HY0 : Hid ((ys).length = len1) := by exact HY.out
    have HZ0 : Hid ((zs).length = len2) := by exact HZ.out
    have OF : Hid (_ ∧ _) := order_facts (xs) (ys) (zs)
    have HN : Hid (cmp (ys) (xs) = -cmp (xs) (ys)) := cmp_neg _ _
    have H0 : Hid (cmp (xs) (xs) = 0) := (cmp_zero _ _).2 rfl
    have HE : Hid (cmp [] (xs) ≤ 0) := cmp_nil _
    clear hxc hyc hzc
    go_enter Ycjm.func6, Ycjm.ntmps6
    go_wp2_with fail
    refine (compare_any a0 a1 len0 len1 cap0 cap1 (xs) (ys) w HX0.out HY0.out (by omega) (by omega) SX0.out SY0.out).mono ?_
    rintro e w1 ⟨rfl, hq⟩
    have SX1 : Hid (Sl .u8 w1 a0 (xs)) := SX0.out.quiet hq
    have SY1 : Hid (Sl .u8 w1 a1 (ys)) := SY0.out.quiet hq
    have SZ1 : Hid (Sl .u8 w1 a2 (zs)) := SZ0.out.quiet hq
    have B1 : Hid (Below w.heap.size w w1) := drews hq (Below.refl _ _)
    clear hq SX0 SY0 SZ0
    go_wp2_with fail
    refine (compare_any a1 a2 len1 len2 cap1 cap2 (ys) (zs) w1 HY0.out HZ0.out (by omega) (by omega) SY1.out SZ1.out).mono ?_
    rintro e w2 ⟨rfl, hq⟩
    have SX2 : Hid (Sl .u8 w2 a0 (xs)) := SX1.out.quiet hq
    have SY2 : Hid (Sl .u8 w2 a1 (ys)) := SY1.out.quiet hq
    have SZ2 : Hid (Sl .u8 w2 a2 (zs)) := SZ1.out.quiet hq
    have B2 : Hid (Below w.heap.size w w2) := drews hq B1.out
    clear hq SX1 SY1 SZ1 B1
    go_wp2_with fail
    refine (compare_any a0 a2 len0 len2 cap0 cap2 (xs) (zs) w2 HX0.out HZ0.out (by omega) (by omega) SX2.out SZ2.out).mono ?_
    rintro e w3 ⟨rfl, hq⟩
    have SX3 : Hid (Sl .u8 w3 a0 (xs)) := SX2.out.quiet hq
    have SY3 : Hid (Sl .u8 w3 a1 (ys)) := SY2.out.quiet hq
    have B3 : Hid (Below w.heap.size w w3) := drews hq B2.out
    clear hq SX2 SY2 SZ2 B2
    have r1 : ¬ cmp (xs) (ys) < -1 := by have := OF.out; omega
    have r2 : ¬ 1 < cmp (xs) (ys) := by have := OF.out; omega
    go_wp2_with fail
    refine (fsame_any a0 a1 len0 len1 cap0 cap1 (xs) (ys) w3 HX0.out HY0.out (by omega) (by omega) SX3.out SY3.out).mono ?_
    rintro e w4 ⟨rfl, hq⟩
    rw [same_eq]
    have SX4 : Hid (Sl .u8 w4 a0 (xs)) := SX3.out.quiet hq
    have SY4 : Hid (Sl .u8 w4 a1 (ys)) := SY3.out.quiet hq
    have B4 : Hid (Below w.heap.size w w4) := drews hq B3.out
    clear hq SX3 SY3 B3
    go_wp2_with fail
    refine (compare_any a0 a0 len0 len0 cap0 cap0 (xs) (xs) w4 HX0.out HX0.out (by omega) (by omega) SX4.out SX4.out).mono ?_
    rintro e w5 ⟨rfl, hq⟩
    rw [H0.out]
    have SX5 : Hid (Sl .u8 w5 a0 (xs)) := SX4.out.quiet hq
    have SY5 : Hid (Sl .u8 w5 a1 (ys)) := SY4.out.quiet hq
    have B5 : Hid (Below w.heap.size w w5) := drews hq B4.out
    clear hq SX4 SY4 B4
    go_wp2_with fail
    refine (compare_any a1 a0 len1 len0 cap1 cap0 (ys) (xs) w5 HY0.out HX0.out (by omega) (by omega) SY5.out SX5.out).mono ?_
    rintro e w6 ⟨rfl, hq⟩
    rw [HN.out]
    have SX6 : Hid (Sl .u8 w6 a0 (xs)) := SX5.out.quiet hq
    have B6 : Hid (Below w.heap.size w w6) := drews hq B5.out
    clear hq SX5 SY5 B5
    have OF1 := OF.out
    clear OF HN H0
    go_wp2_with fail
    refine (compare_any none a0 0 len0 0 cap0 [] (xs) w6 rfl HX0.out (by omega) (by omega) (Sl.nil _ _ _) SX6.out).mono ?_
    rintro e w7 ⟨rfl, hq⟩
    have B7 : Hid (Below w.heap.size w w7) := drews hq B6.out
    clear hq SX6 B6
    have h0 := HE.out
    clear HE
    generalize cmp [] (xs) = c0 at *
    generalize cmp (xs) (ys) = ab at *
    generalize cmp (ys) (zs) = bc at *
    generalize cmp (xs) (zs) = ac at *
    obtain ⟨o1, o2, o3, o4, o5, o6, o7⟩ := OF1
    have o8 : ab = -1 ∨ ab = 0 ∨ ab = 1 := by omega
    have o9 : bc = -1 ∨ bc = 0 ∨ bc = 1 := by omega
    have o10 : ac = -1 ∨ ac = 0 ∨ ac = 1 := by omega
    have h0' : ¬ 0 < c0 := by omega
    clear HX0 HY0 HZ0 r1 r2 o1 o2 o3 o4 o5 o6 h0
    rcases o8 with rfl | rfl | rfl <;> rcases o9 with rfl | rfl | rfl <;> rcases o10 with rfl | rfl | rfl
    all_goals first
      | (exfalso; omega)
      | (clear o7; go_wp2; go_ret; exact ⟨rfl, B7.out⟩)
  | true =>
    by_cases c1 : len1 < len0
    · by_cases c2 : len2 < len1
      · have c3 : len2 ≤ len0 := by omega
        have s0 := run_pre Ycjm.underlying23 size8 a0 len0 cap0 len2 (by omega)
        have s1 := run_pre Ycjm.underlying23 size8 a1 len1 cap1 len2 (by omega)
        have s2 := run_pre Ycjm.underlying23 size8 a2 len2 cap2 len2 (by omega)
        have SX0 : Hid (Sl .u8 w a0 (xs.take len2)) := SX.out.pre len2
        have SY0 : Hid (Sl .u8 w a1 (ys.take len2)) := SY.out.pre len2
        have SZ0 : Hid (Sl .u8 w a2 (zs.take len2)) := SZ.out.pre len2
        have HX0 : Hid ((xs.take len2).length = len2) := by show _ = _; rw [List.length_take, HX.out]; omega
        have HY0 : Hid ((ys.take len2).length = len2) := by show _ = _; rw [List.length_take, HY.out]; omega
        have HZ0 : Hid ((zs.take len2).length = len2) := by show _ = _; rw [List.length_take, HZ.out]; omega
        have OF : Hid (_ ∧ _) := order_facts (xs.take len2) (ys.take len2) (zs.take len2)
        have HN : Hid (cmp (ys.take len2) (xs.take len2) = -cmp (xs.take len2) (ys.take len2)) := cmp_neg _ _
        have H0 : Hid (cmp (xs.take len2) (xs.take len2) = 0) := (cmp_zero _ _).2 rfl
        have HE : Hid (cmp [] (xs.take len2) ≤ 0) := cmp_nil _
        clear hxc hyc hzc
        go_enter Ycjm.func6, Ycjm.ntmps6
        go_wp2_with fail
        refine (compare_any a0 a1 len2 len2 cap0 cap1 (xs.take len2) (ys.take len2) w HX0.out HY0.out (by omega) (by omega) SX0.out SY0.out).mono ?_
        rintro e w1 ⟨rfl, hq⟩
        have SX1 : Hid (Sl .u8 w1 a0 (xs.take len2)) := SX0.out.quiet hq
        have SY1 : Hid (Sl .u8 w1 a1 (ys.take len2)) := SY0.out.quiet hq
        have SZ1 : Hid (Sl .u8 w1 a2 (zs.take len2)) := SZ0.out.quiet hq
        have B1 : Hid (Below w.heap.size w w1) := drews hq (Below.refl _ _)
        clear hq SX0 SY0 SZ0
        go_wp2_with fail
        refine (compare_any a1 a2 len2 len2 cap1 cap2 (ys.take len2) (zs.take len2) w1 HY0.out HZ0.out (by omega) (by omega) SY1.out SZ1.out).mono ?_
        rintro e w2 ⟨rfl, hq⟩
        have SX2 : Hid (Sl .u8 w2 a0 (xs.take len2)) := SX1.out.quiet hq
        have SY2 : Hid (Sl .u8 w2 a1 (ys.take len2)) := SY1.out.quiet hq
        have SZ2 : Hid (Sl .u8 w2 a2 (zs.take len2)) := SZ1.out.quiet hq
        have B2 : Hid (Below w.heap.size w w2) := drews hq B1.out
        clear hq SX1 SY1 SZ1 B1
        go_wp2_with fail
        refine (compare_any a0 a2 len2 len2 cap0 cap2 (xs.take len2) (zs.take len2) w2 HX0.out HZ0.out (by omega) (by omega) SX2.out SZ2.out).mono ?_
        rintro e w3 ⟨rfl, hq⟩
        have SX3 : Hid (Sl .u8 w3 a0 (xs.take len2)) := SX2.out.quiet hq
        have SY3 : Hid (Sl .u8 w3 a1 (ys.take len2)) := SY2.out.quiet hq
        have B3 : Hid (Below w.heap.size w w3) := drews hq B2.out
        clear hq SX2 SY2 SZ2 B2
        have r1 : ¬ cmp (xs.take len2) (ys.take len2) < -1 := by have := OF.out; omega
        have r2 : ¬ 1 < cmp (xs.take len2) (ys.take len2) := by have := OF.out; omega
        go_wp2_with fail
        refine (fsame_any a0 a1 len2 len2 cap0 cap1 (xs.take len2) (ys.take len2) w3 HX0.out HY0.out (by omega) (by omega) SX3.out SY3.out).mono ?_
        rintro e w4 ⟨rfl, hq⟩
        rw [same_eq]
        have SX4 : Hid (Sl .u8 w4 a0 (xs.take len2)) := SX3.out.quiet hq
        have SY4 : Hid (Sl .u8 w4 a1 (ys.take len2)) := SY3.out.quiet hq
        have B4 : Hid (Below w.heap.size w w4) := drews hq B3.out
        clear hq SX3 SY3 B3
        go_wp2_with fail
        refine (compare_any a0 a0 len2 len2 cap0 cap0 (xs.take len2) (xs.take len2) w4 HX0.out HX0.out (by omega) (by omega) SX4.out SX4.out).mono ?_
        rintro e w5 ⟨rfl, hq⟩
        rw [H0.out]
        have SX5 : Hid (Sl .u8 w5 a0 (xs.take len2)) := SX4.out.quiet hq
        have SY5 : Hid (Sl .u8 w5 a1 (ys.take len2)) := SY4.out.quiet hq
        have B5 : Hid (Below w.heap.size w w5) := drews hq B4.out
        clear hq SX4 SY4 B4
        go_wp2_with fail
        refine (compare_any a1 a0 len2 len2 cap1 cap0 (ys.take len2) (xs.take len2) w5 HY0.out HX0.out (by omega) (by omega) SY5.out SX5.out).mono ?_
        rintro e w6 ⟨rfl, hq⟩
        rw [HN.out]
        have SX6 : Hid (Sl .u8 w6 a0 (xs.take len2)) := SX5.out.quiet hq
        have B6 : Hid (Below w.heap.size w w6) := drews hq B5.out
        clear hq SX5 SY5 B5
        have OF1 := OF.out
        clear OF HN H0
        go_wp2_with fail
        refine (compare_any none a0 0 len2 0 cap0 [] (xs.take len2) w6 rfl HX0.out (by omega) (by omega) (Sl.nil _ _ _) SX6.out).mono ?_
        rintro e w7 ⟨rfl, hq⟩
        have B7 : Hid (Below w.heap.size w w7) := drews hq B6.out
        clear hq SX6 B6
        have h0 := HE.out
        clear HE
        generalize cmp [] (xs.take len2) = c0 at *
        generalize cmp (xs.take len2) (ys.take len2) = ab at *
        generalize cmp (ys.take len2) (zs.take len2) = bc at *
        generalize cmp (xs.take len2) (zs.take len2) = ac at *
        obtain ⟨o1, o2, o3, o4, o5, o6, o7⟩ := OF1
        have o8 : ab = -1 ∨ ab = 0 ∨ ab = 1 := by omega
        have o9 : bc = -1 ∨ bc = 0 ∨ bc = 1 := by omega
        have o10 : ac = -1 ∨ ac = 0 ∨ ac = 1 := by omega
        have h0' : ¬ 0 < c0 := by omega
        clear HX0 HY0 HZ0 r1 r2 o1 o2 o3 o4 o5 o6 h0
        rcases o8 with rfl | rfl | rfl <;> rcases o9 with rfl | rfl | rfl <;> rcases o10 with rfl | rfl | rfl
        all_goals first
          | (exfalso; omega)
          | (clear o7; go_wp2; go_ret; exact ⟨rfl, B7.out⟩)
      · have c3 : len1 ≤ len2 := by omega
        have s0 := run_pre Ycjm.underlying23 size8 a0 len0 cap0 len1 (by omega)
        have s1 := run_pre Ycjm.underlying23 size8 a1 len1 cap1 len1 (by omega)
        have s2 := run_pre Ycjm.underlying23 size8 a2 len2 cap2 len1 (by omega)
        have SX0 : Hid (Sl .u8 w a0 (xs.take len1)) := SX.out.pre len1
        have SY0 : Hid (Sl .u8 w a1 (ys.take len1)) := SY.out.pre len1
        have SZ0 : Hid (Sl .u8 w a2 (zs.take len1)) := SZ.out.pre len1
        have HX0 : Hid ((xs.take len1).length = len1) := by show _ = _; rw [List.length_take, HX.out]; omega
        have HY0 : Hid ((ys.take len1).length = len1) := by show _ = _; rw [List.length_take, HY.out]; omega
        have HZ0 : Hid ((zs.take len1).length = len1) := by show _ = _; rw [List.length_take, HZ.out]; omega
        have OF : Hid (_ ∧ _) := order_facts (xs.take len1) (ys.take len1) (zs.take len1)
        have HN : Hid (cmp (ys.take len1) (xs.take len1) = -cmp (xs.take len1) (ys.take len1)) := cmp_neg _ _
        have H0 : Hid (cmp (xs.take len1) (xs.take len1) = 0) := (cmp_zero _ _).2 rfl
        have HE : Hid (cmp [] (xs.take len1) ≤ 0) := cmp_nil _
        clear hxc hyc hzc
        go_enter Ycjm.func6, Ycjm.ntmps6
        go_wp2_with fail
        refine (compare_any a0 a1 len1 len1 cap0 cap1 (xs.take len1) (ys.take len1) w HX0.out HY0.out (by omega) (by omega) SX0.out SY0.out).mono ?_
        rintro e w1 ⟨rfl, hq⟩
        have SX1 : Hid (Sl .u8 w1 a0 (xs.take len1)) := SX0.out.quiet hq
        have SY1 : Hid (Sl .u8 w1 a1 (ys.take len1)) := SY0.out.quiet hq
        have SZ1 : Hid (Sl .u8 w1 a2 (zs.take len1)) := SZ0.out.quiet hq
        have B1 : Hid (Below w.heap.size w w1) := drews hq (Below.refl _ _)
        clear hq SX0 SY0 SZ0
        go_wp2_with fail
        refine (compare_any a1 a2 len1 len1 cap1 cap2 (ys.take len1) (zs.take len1) w1 HY0.out HZ0.out (by omega) (by omega) SY1.out SZ1.out).mono ?_
        rintro e w2 ⟨rfl, hq⟩
        have SX2 : Hid (Sl .u8 w2 a0 (xs.take len1)) := SX1.out.quiet hq
        have SY2 : Hid (Sl .u8 w2 a1 (ys.take len1)) := SY1.out.quiet hq
        have SZ2 : Hid (Sl .u8 w2 a2 (zs.take len1)) := SZ1.out.quiet hq
        have B2 : Hid (Below w.heap.size w w2) := drews hq B1.out
        clear hq SX1 SY1 SZ1 B1
        go_wp2_with fail
        refine (compare_any a0 a2 len1 len1 cap0 cap2 (xs.take len1) (zs.take len1) w2 HX0.out HZ0.out (by omega) (by omega) SX2.out SZ2.out).mono ?_
        rintro e w3 ⟨rfl, hq⟩
        have SX3 : Hid (Sl .u8 w3 a0 (xs.take len1)) := SX2.out.quiet hq
        have SY3 : Hid (Sl .u8 w3 a1 (ys.take len1)) := SY2.out.quiet hq
        have B3 : Hid (Below w.heap.size w w3) := drews hq B2.out
        clear hq SX2 SY2 SZ2 B2
        have r1 : ¬ cmp (xs.take len1) (ys.take len1) < -1 := by have := OF.out; omega
        have r2 : ¬ 1 < cmp (xs.take len1) (ys.take len1) := by have := OF.out; omega
        go_wp2_with fail
        refine (fsame_any a0 a1 len1 len1 cap0 cap1 (xs.take len1) (ys.take len1) w3 HX0.out HY0.out (by omega) (by omega) SX3.out SY3.out).mono ?_
        rintro e w4 ⟨rfl, hq⟩
        rw [same_eq]
        have SX4 : Hid (Sl .u8 w4 a0 (xs.take len1)) := SX3.out.quiet hq
        have SY4 : Hid (Sl .u8 w4 a1 (ys.take len1)) := SY3.out.quiet hq
        have B4 : Hid (Below w.heap.size w w4) := drews hq B3.out
        clear hq SX3 SY3 B3
        go_wp2_with fail
        refine (compare_any a0 a0 len1 len1 cap0 cap0 (xs.take len1) (xs.take len1) w4 HX0.out HX0.out (by omega) (by omega) SX4.out SX4.out).mono ?_
        rintro e w5 ⟨rfl, hq⟩
        rw [H0.out]
        have SX5 : Hid (Sl .u8 w5 a0 (xs.take len1)) := SX4.out.quiet hq
        have SY5 : Hid (Sl .u8 w5 a1 (ys.take len1)) := SY4.out.quiet hq
        have B5 : Hid (Below w.heap.size w w5) := drews hq B4.out
        clear hq SX4 SY4 B4
        go_wp2_with fail
        refine (compare_any a1 a0 len1 len1 cap1 cap0 (ys.take len1) (xs.take len1) w5 HY0.out HX0.out (by omega) (by omega) SY5.out SX5.out).mono ?_
        rintro e w6 ⟨rfl, hq⟩
        rw [HN.out]
        have SX6 : Hid (Sl .u8 w6 a0 (xs.take len1)) := SX5.out.quiet hq
        have B6 : Hid (Below w.heap.size w w6) := drews hq B5.out
        clear hq SX5 SY5 B5
        have OF1 := OF.out
        clear OF HN H0
        go_wp2_with fail
        refine (compare_any none a0 0 len1 0 cap0 [] (xs.take len1) w6 rfl HX0.out (by omega) (by omega) (Sl.nil _ _ _) SX6.out).mono ?_
        rintro e w7 ⟨rfl, hq⟩
        have B7 : Hid (Below w.heap.size w w7) := drews hq B6.out
        clear hq SX6 B6
        have h0 := HE.out
        clear HE
        generalize cmp [] (xs.take len1) = c0 at *
        generalize cmp (xs.take len1) (ys.take len1) = ab at *
        generalize cmp (ys.take len1) (zs.take len1) = bc at *
        generalize cmp (xs.take len1) (zs.take len1) = ac at *
        obtain ⟨o1, o2, o3, o4, o5, o6, o7⟩ := OF1
        have o8 : ab = -1 ∨ ab = 0 ∨ ab = 1 := by omega
        have o9 : bc = -1 ∨ bc = 0 ∨ bc = 1 := by omega
        have o10 : ac = -1 ∨ ac = 0 ∨ ac = 1 := by omega
        have h0' : ¬ 0 < c0 := by omega
        clear HX0 HY0 HZ0 r1 r2 o1 o2 o3 o4 o5 o6 h0
        rcases o8 with rfl | rfl | rfl <;> rcases o9 with rfl | rfl | rfl <;> rcases o10 with rfl | rfl | rfl
        all_goals first
          | (exfalso; omega)
          | (clear o7; go_wp2; go_ret; exact ⟨rfl, B7.out⟩)
    · by_cases c2 : len2 < len0
      · have c3 : len2 ≤ len1 := by omega
        have s0 := run_pre Ycjm.underlying23 size8 a0 len0 cap0 len2 (by omega)
        have s1 := run_pre Ycjm.underlying23 size8 a1 len1 cap1 len2 (by omega)
        have s2 := run_pre Ycjm.underlying23 size8 a2 len2 cap2 len2 (by omega)
        have SX0 : Hid (Sl .u8 w a0 (xs.take len2)) := SX.out.pre len2
        have SY0 : Hid (Sl .u8 w a1 (ys.take len2)) := SY.out.pre len2
        have SZ0 : Hid (Sl .u8 w a2 (zs.take len2)) := SZ.out.pre len2
        have HX0 : Hid ((xs.take len2).length = len2) := by show _ = _; rw [List.length_take, HX.out]; omega
        have HY0 : Hid ((ys.take len2).length = len2) := by show _ = _; rw [List.length_take, HY.out]; omega
        have HZ0 : Hid ((zs.take len2).length = len2) := by show _ = _; rw [List.length_take, HZ.out]; omega
        have OF : Hid (_ ∧ _) := order_facts (xs.take len2) (ys.take len2) (zs.take len2)
        have HN : Hid (cmp (ys.take len2) (xs.take len2) = -cmp (xs.take len2) (ys.take len2)) := cmp_neg _ _
        have H0 : Hid (cmp (xs.take len2) (xs.take len2) = 0) := (cmp_zero _ _).2 rfl
        have HE : Hid (cmp [] (xs.take len2) ≤ 0) := cmp_nil _
        clear hxc hyc hzc
        go_enter Ycjm.func6, Ycjm.ntmps6
        go_wp2_with fail
        refine (compare_any a0 a1 len2 len2 cap0 cap1 (xs.take len2) (ys.take len2) w HX0.out HY0.out (by omega) (by omega) SX0.out SY0.out).mono ?_
        rintro e w1 ⟨rfl, hq⟩
        have SX1 : Hid (Sl .u8 w1 a0 (xs.take len2)) := SX0.out.quiet hq
        have SY1 : Hid (Sl .u8 w1 a1 (ys.take len2)) := SY0.out.quiet hq
        have SZ1 : Hid (Sl .u8 w1 a2 (zs.take len2)) := SZ0.out.quiet hq
        have B1 : Hid (Below w.heap.size w w1) := drews hq (Below.refl _ _)
        clear hq SX0 SY0 SZ0
        go_wp2_with fail
        refine (compare_any a1 a2 len2 len2 cap1 cap2 (ys.take len2) (zs.take len2) w1 HY0.out HZ0.out (by omega) (by omega) SY1.out SZ1.out).mono ?_
        rintro e w2 ⟨rfl, hq⟩
        have SX2 : Hid (Sl .u8 w2 a0 (xs.take len2)) := SX1.out.quiet hq
        have SY2 : Hid (Sl .u8 w2 a1 (ys.take len2)) := SY1.out.quiet hq
        have SZ2 : Hid (Sl .u8 w2 a2 (zs.take len2)) := SZ1.out.quiet hq
        have B2 : Hid (Below w.heap.size w w2) := drews hq B1.out
        clear hq SX1 SY1 SZ1 B1
        go_wp2_with fail
        refine (compare_any a0 a2 len2 len2 cap0 cap2 (xs.take len2) (zs.take len2) w2 HX0.out HZ0.out (by omega) (by omega) SX2.out SZ2.out).mono ?_
        rintro e w3 ⟨rfl, hq⟩
        have SX3 : Hid (Sl .u8 w3 a0 (xs.take len2)) := SX2.out.quiet hq
        have SY3 : Hid (Sl .u8 w3 a1 (ys.take len2)) := SY2.out.quiet hq
        have B3 : Hid (Below w.heap.size w w3) := drews hq B2.out
        clear hq SX2 SY2 SZ2 B2
        have r1 : ¬ cmp (xs.take len2) (ys.take len2) < -1 := by have := OF.out; omega
        have r2 : ¬ 1 < cmp (xs.take len2) (ys.take len2) := by have := OF.out; omega
        go_wp2_with fail
        refine (fsame_any a0 a1 len2 len2 cap0 cap1 (xs.take len2) (ys.take len2) w3 HX0.out HY0.out (by omega) (by omega) SX3.out SY3.out).mono ?_
        rintro e w4 ⟨rfl, hq⟩
        rw [same_eq]
        have SX4 : Hid (Sl .u8 w4 a0 (xs.take len2)) := SX3.out.quiet hq
        have SY4 : Hid (Sl .u8 w4 a1 (ys.take len2)) := SY3.out.quiet hq
        have B4 : Hid (Below w.heap.size w w4) := drews hq B3.out
        clear hq SX3 SY3 B3
        go_wp2_with fail
        refine (compare_any a0 a0 len2 len2 cap0 cap0 (xs.take len2) (xs.take len2) w4 HX0.out HX0.out (by omega) (by omega) SX4.out SX4.out).mono ?_
        rintro e w5 ⟨rfl, hq⟩
        rw [H0.out]
        have SX5 : Hid (Sl .u8 w5 a0 (xs.take len2)) := SX4.out.quiet hq
        have SY5 : Hid (Sl .u8 w5 a1 (ys.take len2)) := SY4.out.quiet hq
        have B5 : Hid (Below w.heap.size w w5) := drews hq B4.out
        clear hq SX4 SY4 B4
        go_wp2_with fail
        refine (compare_any a1 a0 len2 len2 cap1 cap0 (ys.take len2) (xs.take len2) w5 HY0.out HX0.out (by omega) (by omega) SY5.out SX5.out).mono ?_
        rintro e w6 ⟨rfl, hq⟩
        rw [HN.out]
        have SX6 : Hid (Sl .u8 w6 a0 (xs.take len2)) := SX5.out.quiet hq
        have B6 : Hid (Below w.heap.size w w6) := drews hq B5.out
        clear hq SX5 SY5 B5
        have OF1 := OF.out
        clear OF HN H0
        go_wp2_with fail
        refine (compare_any none a0 0 len2 0 cap0 [] (xs.take len2) w6 rfl HX0.out (by omega) (by omega) (Sl.nil _ _ _) SX6.out).mono ?_
        rintro e w7 ⟨rfl, hq⟩
        have B7 : Hid (Below w.heap.size w w7) := drews hq B6.out
        clear hq SX6 B6
        have h0 := HE.out
        clear HE
        generalize cmp [] (xs.take len2) = c0 at *
        generalize cmp (xs.take len2) (ys.take len2) = ab at *
        generalize cmp (ys.take len2) (zs.take len2) = bc at *
        generalize cmp (xs.take len2) (zs.take len2) = ac at *
        obtain ⟨o1, o2, o3, o4, o5, o6, o7⟩ := OF1
        have o8 : ab = -1 ∨ ab = 0 ∨ ab = 1 := by omega
        have o9 : bc = -1 ∨ bc = 0 ∨ bc = 1 := by omega
        have o10 : ac = -1 ∨ ac = 0 ∨ ac = 1 := by omega
        have h0' : ¬ 0 < c0 := by omega
        clear HX0 HY0 HZ0 r1 r2 o1 o2 o3 o4 o5 o6 h0
        rcases o8 with rfl | rfl | rfl <;> rcases o9 with rfl | rfl | rfl <;> rcases o10 with rfl | rfl | rfl
        all_goals first
          | (exfalso; omega)
          | (clear o7; go_wp2; go_ret; exact ⟨rfl, B7.out⟩)
      · have c3 : len0 ≤ len2 := by omega
        have s0 := run_pre Ycjm.underlying23 size8 a0 len0 cap0 len0 (by omega)
        have s1 := run_pre Ycjm.underlying23 size8 a1 len1 cap1 len0 (by omega)
        have s2 := run_pre Ycjm.underlying23 size8 a2 len2 cap2 len0 (by omega)
        have SX0 : Hid (Sl .u8 w a0 (xs.take len0)) := SX.out.pre len0
        have SY0 : Hid (Sl .u8 w a1 (ys.take len0)) := SY.out.pre len0
        have SZ0 : Hid (Sl .u8 w a2 (zs.take len0)) := SZ.out.pre len0
        have HX0 : Hid ((xs.take len0).length = len0) := by show _ = _; rw [List.length_take, HX.out]; omega
        have HY0 : Hid ((ys.take len0).length = len0) := by show _ = _; rw [List.length_take, HY.out]; omega
        have HZ0 : Hid ((zs.take len0).length = len0) := by show _ = _; rw [List.length_take, HZ.out]; omega
        have OF : Hid (_ ∧ _) := order_facts (xs.take len0) (ys.take len0) (zs.take len0)
        have HN : Hid (cmp (ys.take len0) (xs.take len0) = -cmp (xs.take len0) (ys.take len0)) := cmp_neg _ _
        have H0 : Hid (cmp (xs.take len0) (xs.take len0) = 0) := (cmp_zero _ _).2 rfl
        have HE : Hid (cmp [] (xs.take len0) ≤ 0) := cmp_nil _
        clear hxc hyc hzc
        go_enter Ycjm.func6, Ycjm.ntmps6
        go_wp2_with fail
        refine (compare_any a0 a1 len0 len0 cap0 cap1 (xs.take len0) (ys.take len0) w HX0.out HY0.out (by omega) (by omega) SX0.out SY0.out).mono ?_
        rintro e w1 ⟨rfl, hq⟩
        have SX1 : Hid (Sl .u8 w1 a0 (xs.take len0)) := SX0.out.quiet hq
        have SY1 : Hid (Sl .u8 w1 a1 (ys.take len0)) := SY0.out.quiet hq
        have SZ1 : Hid (Sl .u8 w1 a2 (zs.take len0)) := SZ0.out.quiet hq
        have B1 : Hid (Below w.heap.size w w1) := drews hq (Below.refl _ _)
        clear hq SX0 SY0 SZ0
        go_wp2_with fail
        refine (compare_any a1 a2 len0 len0 cap1 cap2 (ys.take len0) (zs.take len0) w1 HY0.out HZ0.out (by omega) (by omega) SY1.out SZ1.out).mono ?_
        rintro e w2 ⟨rfl, hq⟩
        have SX2 : Hid (Sl .u8 w2 a0 (xs.take len0)) := SX1.out.quiet hq
        have SY2 : Hid (Sl .u8 w2 a1 (ys.take len0)) := SY1.out.quiet hq
        have SZ2 : Hid (Sl .u8 w2 a2 (zs.take len0)) := SZ1.out.quiet hq
        have B2 : Hid (Below w.heap.size w w2) := drews hq B1.out
        clear hq SX1 SY1 SZ1 B1
        go_wp2_with fail
        refine (compare_any a0 a2 len0 len0 cap0 cap2 (xs.take len0) (zs.take len0) w2 HX0.out HZ0.out (by omega) (by omega) SX2.out SZ2.out).mono ?_
        rintro e w3 ⟨rfl, hq⟩
        have SX3 : Hid (Sl .u8 w3 a0 (xs.take len0)) := SX2.out.quiet hq
        have SY3 : Hid (Sl .u8 w3 a1 (ys.take len0)) := SY2.out.quiet hq
        have B3 : Hid (Below w.heap.size w w3) := drews hq B2.out
        clear hq SX2 SY2 SZ2 B2
        have r1 : ¬ cmp (xs.take len0) (ys.take len0) < -1 := by have := OF.out; omega
        have r2 : ¬ 1 < cmp (xs.take len0) (ys.take len0) := by have := OF.out; omega
        go_wp2_with fail
        refine (fsame_any a0 a1 len0 len0 cap0 cap1 (xs.take len0) (ys.take len0) w3 HX0.out HY0.out (by omega) (by omega) SX3.out SY3.out).mono ?_
        rintro e w4 ⟨rfl, hq⟩
        rw [same_eq]
        have SX4 : Hid (Sl .u8 w4 a0 (xs.take len0)) := SX3.out.quiet hq
        have SY4 : Hid (Sl .u8 w4 a1 (ys.take len0)) := SY3.out.quiet hq
        have B4 : Hid (Below w.heap.size w w4) := drews hq B3.out
        clear hq SX3 SY3 B3
        go_wp2_with fail
        refine (compare_any a0 a0 len0 len0 cap0 cap0 (xs.take len0) (xs.take len0) w4 HX0.out HX0.out (by omega) (by omega) SX4.out SX4.out).mono ?_
        rintro e w5 ⟨rfl, hq⟩
        rw [H0.out]
        have SX5 : Hid (Sl .u8 w5 a0 (xs.take len0)) := SX4.out.quiet hq
        have SY5 : Hid (Sl .u8 w5 a1 (ys.take len0)) := SY4.out.quiet hq
        have B5 : Hid (Below w.heap.size w w5) := drews hq B4.out
        clear hq SX4 SY4 B4
        go_wp2_with fail
        refine (compare_any a1 a0 len0 len0 cap1 cap0 (ys.take len0) (xs.take len0) w5 HY0.out HX0.out (by omega) (by omega) SY5.out SX5.out).mono ?_
        rintro e w6 ⟨rfl, hq⟩
        rw [HN.out]
        have SX6 : Hid (Sl .u8 w6 a0 (xs.take len0)) := SX5.out.quiet hq
        have B6 : Hid (Below w.heap.size w w6) := drews hq B5.out
        clear hq SX5 SY5 B5
        have OF1 := OF.out
        clear OF HN H0
        go_wp2_with fail
        refine (compare_any none a0 0 len0 0 cap0 [] (xs.take len0) w6 rfl HX0.out (by omega) (by omega) (Sl.nil _ _ _) SX6.out).mono ?_
        rintro e w7 ⟨rfl, hq⟩
        have B7 : Hid (Below w.heap.size w w7) := drews hq B6.out
        clear hq SX6 B6
        have h0 := HE.out
        clear HE
        generalize cmp [] (xs.take len0) = c0 at *
        generalize cmp (xs.take len0) (ys.take len0) = ab at *
        generalize cmp (ys.take len0) (zs.take len0) = bc at *
        generalize cmp (xs.take len0) (zs.take len0) = ac at *
        obtain ⟨o1, o2, o3, o4, o5, o6, o7⟩ := OF1
        have o8 : ab = -1 ∨ ab = 0 ∨ ab = 1 := by omega
        have o9 : bc = -1 ∨ bc = 0 ∨ bc = 1 := by omega
        have o10 : ac = -1 ∨ ac = 0 ∨ ac = 1 := by omega
        have h0' : ¬ 0 < c0 := by omega
        clear HX0 HY0 HZ0 r1 r2 o1 o2 o3 o4 o5 o6 h0
        rcases o8 with rfl | rfl | rfl <;> rcases o9 with rfl | rfl | rfl <;> rcases o10 with rfl | rfl | rfl
        all_goals first
          | (exfalso; omega)
          | (clear o7; go_wp2; go_ret; exact ⟨rfl, B7.out⟩)

/-! ### the row's step -/
set_option maxRecDepth 100000 in
theorem lifted (os : Os) (started : os.Started) (H : Type) (enc : TypeId × Value → H) :
    ReturnsInHanded {} Ycjm.checked os 6 .any (Rows.lawS930001FOrderSpec.pre6 enc Ycjm.prog Ycjm.f6 Rows.lawS930001FOrderRow.domain false) (Rows.lawS930001FOrderSpec.post enc Ycjm.prog Ycjm.f6 false true false false) := by
  refine returnsInHanded_of_change (C := Ycjm.checked) own started (by kernel_rfl) Ycjm.func6
    (ChangeSpec.witness6 (enc := enc) (C := Ycjm.checked) false ⟨#[], #[.slice none 0 0, .slice none 0 0, .slice none 0 0, .bool false], []⟩ 8 (by kernel_rfl) (by kernel_rfl) (by kernel_rfl) (by kernel_rfl)) ?_
  intro W base args ds gs before hval0 hW hcnd _
  have hval : ∀ (j : Nat) t v, Ycjm.f6.params[j]? = some t → args[j]? = some v → Value.okWide Ycjm.prog W .any base t v := hval0
  have hW' := hW
  obtain ⟨p, q, hA0, hV, rfl, hfz, hnd⟩ := hW
  have hA : DataW.TrodAll enc Ycjm.prog W 0 (fun _ => true) true Ycjm.f6.params.toList args.toList ds p := hA0
  rw [Ycjm.params6] at hA hval
  obtain ⟨v0, vs0, d0, ds0, p0, q0, hargs, rfl, rfl, h0, r0⟩ := trodAll_cons hA
  obtain ⟨v1, vs1, d1, ds1, p1, q1, rfl, rfl, rfl, h1, r1⟩ := trodAll_cons r0
  obtain ⟨v2, vs2, d2, ds2, p2, q2, rfl, rfl, rfl, h2, r2⟩ := trodAll_cons r1
  obtain ⟨v3, vs3, d3, ds3, p3, q3, rfl, rfl, rfl, h3, r3⟩ := trodAll_cons r2
  obtain ⟨rfl, rfl, rfl⟩ := trodAll_nil r3
  obtain rfl : args = #[v0, v1, v2, v3] := by cases args; simp_all
  obtain ⟨rfl, rfl⟩ := trodVars_none hV
  obtain ⟨a0, len0, cap0, rfl⟩ := okWide_slice Ycjm.underlying23 (hval 0 23 v0 rfl rfl)
  have k0 := h0
  have lt0 : ∀ x ∈ p0, x.block < W.heap.size := by obtain ⟨m, hm⟩ := k0; exact DataW.trod_lt m _ _ _ hm
  obtain ⟨z0, w0⟩ : ∃ zs, IsRow .u8 W a0 len0 cap0 zs := by
    obtain ⟨fuel, hf⟩ := h0
    rcases open_ints Ycjm.underlying23 Ycjm.underlying5 (by kernel_rfl) hf with ⟨hcs, _⟩ | ⟨x, l, c, zs, hcs, _, hl, hm, hz, _, hcell, hwz⟩
    · simp [Value.cells] at hcs
      obtain ⟨rfl, rfl, rfl⟩ := hcs
      exact ⟨[], .inl ⟨rfl, rfl, rfl, rfl⟩⟩
    · simp [Value.cells] at hcs
      obtain ⟨rfl, rfl, rfl⟩ := hcs
      exact ⟨zs, .inr ⟨_, rfl, hl, hm, by simpa using hz, hcell, hwz⟩⟩
  obtain ⟨a1, len1, cap1, rfl⟩ := okWide_slice Ycjm.underlying23 (hval 1 23 v1 rfl rfl)
  have k1 := h1
  have lt1 : ∀ x ∈ p1, x.block < W.heap.size := by obtain ⟨m, hm⟩ := k1; exact DataW.trod_lt m _ _ _ hm
  obtain ⟨z1, w1⟩ : ∃ zs, IsRow .u8 W a1 len1 cap1 zs := by
    obtain ⟨fuel, hf⟩ := h1
    rcases open_ints Ycjm.underlying23 Ycjm.underlying5 (by kernel_rfl) hf with ⟨hcs, _⟩ | ⟨x, l, c, zs, hcs, _, hl, hm, hz, _, hcell, hwz⟩
    · simp [Value.cells] at hcs
      obtain ⟨rfl, rfl, rfl⟩ := hcs
      exact ⟨[], .inl ⟨rfl, rfl, rfl, rfl⟩⟩
    · simp [Value.cells] at hcs
      obtain ⟨rfl, rfl, rfl⟩ := hcs
      exact ⟨zs, .inr ⟨_, rfl, hl, hm, by simpa using hz, hcell, hwz⟩⟩
  obtain ⟨a2, len2, cap2, rfl⟩ := okWide_slice Ycjm.underlying23 (hval 2 23 v2 rfl rfl)
  have k2 := h2
  have lt2 : ∀ x ∈ p2, x.block < W.heap.size := by obtain ⟨m, hm⟩ := k2; exact DataW.trod_lt m _ _ _ hm
  obtain ⟨z2, w2⟩ : ∃ zs, IsRow .u8 W a2 len2 cap2 zs := by
    obtain ⟨fuel, hf⟩ := h2
    rcases open_ints Ycjm.underlying23 Ycjm.underlying5 (by kernel_rfl) hf with ⟨hcs, _⟩ | ⟨x, l, c, zs, hcs, _, hl, hm, hz, _, hcell, hwz⟩
    · simp [Value.cells] at hcs
      obtain ⟨rfl, rfl, rfl⟩ := hcs
      exact ⟨[], .inl ⟨rfl, rfl, rfl, rfl⟩⟩
    · simp [Value.cells] at hcs
      obtain ⟨rfl, rfl, rfl⟩ := hcs
      exact ⟨zs, .inr ⟨_, rfl, hl, hm, by simpa using hz, hcell, hwz⟩⟩
  obtain ⟨a3, rfl, rfl, rfl⟩ := open_bool Ycjm.underlying4 (hval 3 4 v3 rfl rfl) h3
  clear hA0 hval0
  refine (walk a0 len0 cap0 z0 a1 len1 cap1 z1 a2 len2 cap2 z2 a3 W w0 w1 w2).mono fun e W' ⟨he, bel⟩ => ?_
  subst he
  exact ⟨_, rfl, _, _, _, [], _, [], hW', trodAll_mk1 (shut_bool Ycjm.underlying4 _), (trodAll_cons_mk (Below.trod laidOut (by kernel_rfl) (of_decide_eq_true (by kernel_rfl)) k0 bel lt0) (trodAll_cons_mk (Below.trod laidOut (by kernel_rfl) (of_decide_eq_true (by kernel_rfl)) k1 bel lt1) (trodAll_cons_mk (Below.trod laidOut (by kernel_rfl) (of_decide_eq_true (by kernel_rfl)) k2 bel lt2) (trodAll_cons_mk (shut_bool Ycjm.underlying4 _) trodAll_mk0)))), rfl, bel.frame _, fun h => by cases h⟩

theorem over : Rows.lawS930001FOrderRow.holds Ycjm.pinned (OpenSpec.ofChange Rows.lawS930001FOrderSpec) :=
  OpenClaim.holds_of_wide 6 Ycjm.f6 rfl rfl rfl rfl rfl rfl rfl ⟨rfl, rfl, rfl, rfl, rfl⟩ rfl rfl rfl rfl rfl (by kernel_rfl) Ycjm.func6 (by kernel_rfl)
    (of_decide_eq_true (by kernel_rfl)) (by unfold Func.isWrapper; first | (rw [if_pos (by decide +kernel)]; kernel_rfl) | (rw [if_neg (by decide +kernel)]; exact ⟨rfl, rfl⟩))
    (fun os started H enc _ => lifted os started H enc)

/-- ████ THE STATEMENT ████ -/
theorem proved : Rows.LawS930001FOrderSaid := over
#print axioms proved
end Go.Proofs.Ymbrcj.lawS930001FOrder
