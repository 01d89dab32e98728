/-
  'Rows.LawS930001FNumericSaid': the guide's shell at this function, its walk filled.
-/
import Derived.Test.YmbrcjRows
import Derived.WalkKit
import Derived.ProofKit
import Derived.OpenShut
import Derived.ShutString
import Derived.Test.YmbrcjCmp
import Derived.Test.YmbrcjEnc
namespace Go.Proofs.Ymbrcj.lawS930001FNumeric
open Go.ChangeShapes Go.WideShapes Go.ChangeAt Go.RowKit
open Go.ChangeMaps (open_string shut_string)
set_option linter.unusedVariables false      -- a walk need not use every 'w<i>' (that an integer argument fits its kind)

theorem own : ownKnob Ycjm.prog.godebug = none := by kernel_rfl

theorem cmpN_cons (p q : Int) (s t : List Int) : ∀ n, cmpN (p :: s) (q :: t) (n + 1) = if cmpN s t n = 0 then cmpN [p] [q] 1 else cmpN s t n
  | 0 => by
    have e1 : cmpN s t 0 = 0 := rfl
    rw [e1, if_pos rfl]; rfl
  | n + 1 => by
    have ih := cmpN_cons p q s t n
    rcases Int.lt_trichotomy (el s n) (el t n) with h | h | h
    · rw [cmpN_lt h, cmpN_lt (by rw [el_succ, el_succ]; exact h), if_neg (by omega)]
    · rw [cmpN_eq h, cmpN_eq (by rw [el_succ, el_succ]; exact h), ih]
    · rw [cmpN_gt h, cmpN_gt (by rw [el_succ, el_succ]; exact h), if_neg (by omega)]
theorem cmp_cons (p q : Int) (s t : List Int) : cmp (p :: s) (q :: t) = if cmp s t = 0 then cmp [p] [q] else cmp s t := by
  rcases Nat.lt_trichotomy s.length t.length with h | h | h
  · rw [cmp_len_lt (a := s) h, cmp_len_lt (by simp; exact h), if_neg (by omega)]
  · rw [cmp_len_eq (a := s) h, cmp_len_eq (by simp; exact h), List.length_cons, cmpN_cons]; rfl
  · rw [cmp_len_gt (a := s) h, cmp_len_gt (by simp; exact h), if_neg (by omega)]
/-- The sign of x - y. -/
def sgn (x y : Int) : Int := if x < y then -1 else if y < x then 1 else 0
theorem sgn_lt {x y : Int} (h : x < y) : sgn x y = -1 := if_pos h
theorem sgn_gt {x y : Int} (h : y < x) : sgn x y = 1 := by rw [sgn, if_neg (by omega), if_pos h]
theorem sgn_eq {x y : Int} (h : x = y) : sgn x y = 0 := by rw [sgn, if_neg (by omega), if_neg (by omega)]
theorem cmp_one (p q : Int) : cmp [p] [q] = sgn p q := by
  rw [cmp_len_eq (a := [p]) (b := [q]) rfl]; rfl
theorem cmp_E : ∀ x, 0 ≤ x → x ≤ 18446744073709551615 → ∀ y, 0 ≤ y → y ≤ 18446744073709551615 → cmp (E x) (E y) = sgn x y := by
  refine E_ind (fun x h0 h => ?_) (fun x h h1 ih => ?_)
  · intro y hy0 hy1
    by_cases hy : y < 128
    · rw [E_small h, E_small hy, cmp_one]
    · have := E_len (y / 128)
      rw [E_small h, E_big (by omega) hy1, cmp_len_lt (by simp; omega)]
      rw [sgn_lt (by omega)]
  · intro y hy0 hy1
    by_cases hy : y < 128
    · have := E_len (x / 128)
      rw [E_small hy, E_big h h1, cmp_len_gt (by simp; omega)]
      rw [sgn_gt (by omega)]
    · rw [E_big h h1, E_big (by omega) hy1, cmp_cons, cmp_one, ih (y / 128) (by omega) (by omega)]
      rcases Int.lt_trichotomy (x / 128) (y / 128) with hd | hd | hd
      · rw [sgn_lt hd, if_neg (by omega), sgn_lt (by omega)]
      · rw [sgn_eq hd, if_pos rfl]
        rcases Int.lt_trichotomy x y with hm | hm | hm
        · rw [sgn_lt hm, sgn_lt (by omega)]
        · rw [sgn_eq hm, sgn_eq (by omega)]
        · rw [sgn_gt hm, sgn_gt (by omega)]
      · rw [sgn_gt hd, if_neg (by omega), sgn_gt (by omega)]

set_option maxHeartbeats 1000000 in
theorem walk (a0 : Int) (a1 : Int) (a2 : Int) (w0 : (Lit.int .u64 a0).wf = true) (w1 : (Lit.int .u64 a1).wf = true) (w2 : (Lit.int .u8 a2).wf = true) (w : World) :
    Calls Ycjm.prog 7 #[.int .u64 a0, .int .u64 a1, .int .u8 a2] w fun e w' => e = .returned (.bool true) ∧ Below w.heap.size w w' := by
  have h0 := u64_bd w0
  have h1 := u64_bd w1
  have h2 := u8_bd w2
  have hb := wrap_bd (a0 * 2 ^ (a2 % 64).toNat)
  have hb' := wrap_bd (a1 * 2 ^ (a2 % 64).toNat)
  clear w0 w1 w2
  obtain ⟨x, hx⟩ : ∃ x, x = IntKind.u64.wrap (a0 * 2 ^ (a2 % 64).toNat) := ⟨_, rfl⟩
  obtain ⟨y, hy⟩ : ∃ y, y = IntKind.u64.wrap (a1 * 2 ^ (a2 % 64).toNat) := ⟨_, rfl⟩
  rw [← hx] at hb
  rw [← hy] at hb'
  have hx' := hx.symm
  have hy' := hy.symm
  have HC : Hid (cmp (E x) (E y) = sgn x y) := cmp_E x hb.1 hb.2 y hb'.1 hb'.2
  clear hx hy
  rcases Int.lt_trichotomy x y with hd | hd | hd
  · have HV : Hid (sgn x y = -1) := sgn_lt hd
    have hd' : ¬ y < x := by omega
    go_enter Ycjm.func7, Ycjm.ntmps7
    go_wp2_with fail
    refine (fenc_any x w hb.1 hb.2).mono ?_
    rintro e w1 ⟨v1, rfl, ho1, hb1⟩
    have O1 : Hid (Owns .u8 5 w.heap.size w1 v1 (E x)) := ho1
    have B1 : Hid (Below w.heap.size w w1) := hb1
    clear ho1 hb1
    go_wp2_with fail
    refine (fenc_any y w1 hb'.1 hb'.2).mono ?_
    rintro e w2 ⟨v2, rfl, ho2, hb2⟩
    obtain ⟨p1, c1, rfl, _, _, s1, _⟩ := (O1.out.later hb2 (Nat.le_refl _)).shape
    obtain ⟨p2, c2, rfl, _, _, s2, _⟩ := ho2.shape
    have l1 := E_len x
    have l2 := E_len y
    have S1 : Hid (Sl .u8 w2 p1 (E x)) := s1
    have S2 : Hid (Sl .u8 w2 p2 (E y)) := s2
    have B2 : Hid (Below w.heap.size w w2) := B1.out.trans (hb2.mono B1.out.size)
    clear ho2 hb2 s1 s2 O1 B1
    go_wp2_with fail
    refine (compare_any p1 p2 _ _ c1 c2 (E x) (E y) w2 rfl rfl (by omega) (by omega) S1.out S2.out).mono ?_
    rintro e w3 ⟨rfl, hq⟩
    rw [HC.out, HV.out]
    have B3 : Hid (Below w.heap.size w w3) := drews hq B2.out
    clear hq
    go_wp2
    go_ret
    exact ⟨ret_bool (by simp), B3.out⟩
  · have HV : Hid (sgn x y = 0) := sgn_eq hd
    have hd1 : ¬ x < y := by omega
    have hd2 : ¬ y < x := by omega
    clear hd
    go_enter Ycjm.func7, Ycjm.ntmps7
    go_wp2_with fail
    refine (fenc_any x w hb.1 hb.2).mono ?_
    rintro e w1 ⟨v1, rfl, ho1, hb1⟩
    have O1 : Hid (Owns .u8 5 w.heap.size w1 v1 (E x)) := ho1
    have B1 : Hid (Below w.heap.size w w1) := hb1
    clear ho1 hb1
    go_wp2_with fail
    refine (fenc_any y w1 hb'.1 hb'.2).mono ?_
    rintro e w2 ⟨v2, rfl, ho2, hb2⟩
    obtain ⟨p1, c1, rfl, _, _, s1, _⟩ := (O1.out.later hb2 (Nat.le_refl _)).shape
    obtain ⟨p2, c2, rfl, _, _, s2, _⟩ := ho2.shape
    have l1 := E_len x
    have l2 := E_len y
    have S1 : Hid (Sl .u8 w2 p1 (E x)) := s1
    have S2 : Hid (Sl .u8 w2 p2 (E y)) := s2
    have B2 : Hid (Below w.heap.size w w2) := B1.out.trans (hb2.mono B1.out.size)
    clear ho2 hb2 s1 s2 O1 B1
    go_wp2_with fail
    refine (compare_any p1 p2 _ _ c1 c2 (E x) (E y) w2 rfl rfl (by omega) (by omega) S1.out S2.out).mono ?_
    rintro e w3 ⟨rfl, hq⟩
    rw [HC.out, HV.out]
    have B3 : Hid (Below w.heap.size w w3) := drews hq B2.out
    clear hq
    go_wp2
    go_ret
    exact ⟨ret_bool (by simp), B3.out⟩
  · have HV : Hid (sgn x y = 1) := sgn_gt hd
    have hd' : ¬ x < y := by omega
    go_enter Ycjm.func7, Ycjm.ntmps7
    go_wp2_with fail
    refine (fenc_any x w hb.1 hb.2).mono ?_
    rintro e w1 ⟨v1, rfl, ho1, hb1⟩
    have O1 : Hid (Owns .u8 5 w.heap.size w1 v1 (E x)) := ho1
    have B1 : Hid (Below w.heap.size w w1) := hb1
    clear ho1 hb1
    go_wp2_with fail
    refine (fenc_any y w1 hb'.1 hb'.2).mono ?_
    rintro e w2 ⟨v2, rfl, ho2, hb2⟩
    obtain ⟨p1, c1, rfl, _, _, s1, _⟩ := (O1.out.later hb2 (Nat.le_refl _)).shape
    obtain ⟨p2, c2, rfl, _, _, s2, _⟩ := ho2.shape
    have l1 := E_len x
    have l2 := E_len y
    have S1 : Hid (Sl .u8 w2 p1 (E x)) := s1
    have S2 : Hid (Sl .u8 w2 p2 (E y)) := s2
    have B2 : Hid (Below w.heap.size w w2) := B1.out.trans (hb2.mono B1.out.size)
    clear ho2 hb2 s1 s2 O1 B1
    go_wp2_with fail
    refine (compare_any p1 p2 _ _ c1 c2 (E x) (E y) w2 rfl rfl (by omega) (by omega) S1.out S2.out).mono ?_
    rintro e w3 ⟨rfl, hq⟩
    rw [HC.out, HV.out]
    have B3 : Hid (Below w.heap.size w w3) := drews hq B2.out
    clear hq
    go_wp2
    go_ret
    exact ⟨ret_bool (by simp), B3.out⟩

/-! ### the row's step -/
set_option maxRecDepth 100000 in
theorem lifted (os : Os) (started : os.Started) (H : Type) (enc : TypeId × Value → H) :
    ReturnsInHanded {} Ycjm.checked os 7 .any (Rows.lawS930001FNumericSpec.pre6 enc Ycjm.prog Ycjm.f7 Rows.lawS930001FNumericRow.domain false) (Rows.lawS930001FNumericSpec.post enc Ycjm.prog Ycjm.f7 false true false false) := by
  refine returnsInHanded_of_change (C := Ycjm.checked) own started (by kernel_rfl) Ycjm.func7
    (ChangeSpec.witness6 (enc := enc) (C := Ycjm.checked) false ⟨#[], #[.int .u64 0, .int .u64 0, .int .u8 0], []⟩ 8 (by kernel_rfl) (by kernel_rfl) (by kernel_rfl) (by kernel_rfl)) ?_
  intro W base args ds gs before hval0 hW hcnd _
  have hval : ∀ (j : Nat) t v, Ycjm.f7.params[j]? = some t → args[j]? = some v → Value.okWide Ycjm.prog W .any base t v := hval0
  have hW' := hW
  obtain ⟨p, q, hA0, hV, rfl, hfz, hnd⟩ := hW
  have hA : DataW.TrodAll enc Ycjm.prog W 0 (fun _ => true) true Ycjm.f7.params.toList args.toList ds p := hA0
  rw [Ycjm.params7] at hA hval
  obtain ⟨v0, vs0, d0, ds0, p0, q0, hargs, rfl, rfl, h0, r0⟩ := trodAll_cons hA
  obtain ⟨v1, vs1, d1, ds1, p1, q1, rfl, rfl, rfl, h1, r1⟩ := trodAll_cons r0
  obtain ⟨v2, vs2, d2, ds2, p2, q2, rfl, rfl, rfl, h2, r2⟩ := trodAll_cons r1
  obtain ⟨rfl, rfl, rfl⟩ := trodAll_nil r2
  obtain rfl : args = #[v0, v1, v2] := by cases args; simp_all
  obtain ⟨rfl, rfl⟩ := trodVars_none hV
  obtain ⟨a0, rfl, rfl, rfl, w0⟩ := open_int Ycjm.underlying22 (hval 0 22 v0 rfl rfl) h0
  obtain ⟨a1, rfl, rfl, rfl, w1⟩ := open_int Ycjm.underlying22 (hval 1 22 v1 rfl rfl) h1
  obtain ⟨a2, rfl, rfl, rfl, w2⟩ := open_int Ycjm.underlying5 (hval 2 5 v2 rfl rfl) h2
  clear hA0 hval0
  refine (walk a0 a1 a2 w0 w1 w2 W).mono fun e W' ⟨he, bel⟩ => ?_
  subst he
  exact ⟨_, rfl, _, _, _, [], _, [], hW', trodAll_mk1 (shut_bool Ycjm.underlying4 _), (trodAll_cons_mk (shut_int Ycjm.underlying22 w0) (trodAll_cons_mk (shut_int Ycjm.underlying22 w1) (trodAll_cons_mk (shut_int Ycjm.underlying5 w2) trodAll_mk0))), rfl, bel.frame _, fun h => by cases h⟩

theorem over : Rows.lawS930001FNumericRow.holds Ycjm.pinned (OpenSpec.ofChange Rows.lawS930001FNumericSpec) :=
  OpenClaim.holds_of_wide 7 Ycjm.f7 rfl rfl rfl rfl rfl rfl rfl ⟨rfl, rfl, rfl, rfl, rfl⟩ rfl rfl rfl rfl rfl (by kernel_rfl) Ycjm.func7 (by kernel_rfl)
    (of_decide_eq_true (by kernel_rfl)) (by unfold Func.isWrapper; first | (rw [if_pos (by decide +kernel)]; kernel_rfl) | (rw [if_neg (by decide +kernel)]; exact ⟨rfl, rfl⟩))
    (fun os started H enc _ => lifted os started H enc)

/-- ████ THE STATEMENT ████ -/
theorem proved : Rows.LawS930001FNumericSaid :=
  over
#print axioms proved
end Go.Proofs.Ymbrcj.lawS930001FNumeric
