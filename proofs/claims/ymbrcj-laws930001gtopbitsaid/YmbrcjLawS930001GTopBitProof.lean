/-
  'Rows.LawS930001GTopBitSaid': the guide's shell at this function, its walk filled.
-/
import Derived.Test.YmbrcjRows
import Derived.WalkKit
import Derived.ProofKit
import Derived.OpenShut
import Derived.ShutString
import Derived.Test.YmbrcjLen
namespace Go.Proofs.Ymbrcj.lawS930001GTopBit
open Go.ChangeShapes Go.WideShapes Go.ChangeAt Go.RowKit
open Go.ChangeMaps (open_string shut_string)
set_option linter.unusedVariables false      -- a walk need not use every 'w<i>' (that an integer argument fits its kind)

theorem own : ownKnob Ycjm.prog.godebug = none := by kernel_rfl

theorem pow_le63 (b : Nat) (h : b < 64) : (2 : Nat) ^ b ≤ 9223372036854775808 := Nat.pow_le_pow_right (by omega) (show b ≤ 63 by omega)
theorem wrap_pow (b : Nat) (h : b < 64) : IntKind.u64.wrap ((2 : Int) ^ b) = ((2 ^ b : Nat) : Int) := by
  have h1 := pow_le63 b h
  have e : ((2 : Int) ^ b) = ((2 ^ b : Nat) : Int) := by simp
  rw [e]
  exact IntWalk.u64_in _ ⟨Int.natCast_nonneg _, by omega⟩
theorem top_bits (a0 : Int) (b : Nat) (h : b < 64) (h0 : 0 ≤ a0) (h1 : a0 ≤ 18446744073709551615) :
    ∃ r : Nat, r < 2 ^ b ∧ bits BinOp.or IntKind.u64 (IntKind.u64.wrap (2 ^ b)) (bits BinOp.and IntKind.u64 a0 (IntKind.u64.wrap (IntKind.u64.wrap (2 ^ b) - 1))) = ((2 ^ b + r : Nat) : Int) := by
  have hp := pow_le63 b h
  have hpos : 0 < 2 ^ b := Nat.two_pow_pos b
  rw [wrap_pow b h]
  have e1 : IntKind.u64.wrap (((2 ^ b : Nat) : Int) - 1) = ((2 ^ b - 1 : Nat) : Int) := by
    rw [IntWalk.u64_in _ ⟨by omega, by omega⟩]; omega
  rw [e1]
  obtain ⟨n, rfl⟩ := Int.eq_ofNat_of_zero_le h0
  rw [u64_and_nat n (2 ^ b - 1) (by omega) (by omega), Nat.and_two_pow_sub_one_eq_mod]
  have hm : n % 2 ^ b < 2 ^ b := Nat.mod_lt _ hpos
  rw [u64_or_nat _ _ (by omega) (by omega), nat_join b (2 ^ b) (n % 2 ^ b) (Nat.mod_self _) hm]
  exact ⟨_, hm, rfl⟩
theorem gl_of (m : Nat) (hm : m ≤ 9) : ∀ x : Nat, x ≤ 18446744073709551615 → 128 ^ m ≤ x → x < 128 ^ (m + 1) → gl (x : Int) = m + 1 := by
  induction m with
  | zero => intro x _ _ h; rw [gl_small _ (by simp at h; omega)]; rfl
  | succ m ih =>
    intro x hx h1 h2
    have e1 : 128 ^ (m + 1) = 128 ^ m * 128 := Nat.pow_succ ..
    have e2 : 128 ^ (m + 1 + 1) = 128 ^ (m + 1) * 128 := Nat.pow_succ ..
    have hp : 0 < 128 ^ m := Nat.pow_pos (by omega)
    have h3 := ih (by omega) (x / 128) (by omega) (by omega) (by omega)
    rw [gl_step _ (by omega) (by omega)]
    have e3 : ((x : Int) / 128) = ((x / 128 : Nat) : Int) := by omega
    rw [e3, h3]; omega
theorem gl_top (b r : Nat) (h : b < 64) (hr : r < 2 ^ b) : gl ((2 ^ b + r : Nat) : Int) = (b / 7 : Nat) + 1 := by
  have hp := pow_le63 b h
  have e1 : (128 : Nat) ^ (b / 7) = 2 ^ (7 * (b / 7)) := by rw [Nat.pow_mul]
  have e2 : (128 : Nat) ^ (b / 7 + 1) = 2 ^ (7 * (b / 7 + 1)) := by rw [Nat.pow_mul]
  have e3 : (2 : Nat) ^ (7 * (b / 7)) ≤ 2 ^ b := Nat.pow_le_pow_right (by omega) (by omega)
  have e4 : (2 : Nat) ^ (b + 1) ≤ 2 ^ (7 * (b / 7 + 1)) := Nat.pow_le_pow_right (by omega) (by omega)
  have e5 : (2 : Nat) ^ (b + 1) = 2 ^ b * 2 := Nat.pow_succ ..
  exact gl_of (b / 7) (by omega) _ (by omega) (by omega) (by omega)

theorem walk (a0 : Int) (a1 : Int) (w0 : (Lit.int .u64 a0).wf = true) (w1 : (Lit.int .u8 a1).wf = true) (w : World) :
    Calls Ycjm.prog 9 #[.int .u64 a0, .int .u8 a1] w fun e w' => e = .returned (.bool true) ∧ Grown w w' := by
  have h0 := u64_bd w0
  have h1 := u8_bd w1
  clear w0 w1
  obtain ⟨b, hb⟩ : ∃ b : Nat, (a1 % 64) = b := ⟨(a1 % 64).toNat, by omega⟩
  have hb64 : b < 64 := by omega
  obtain ⟨r, hr, hX⟩ := top_bits a0 b hb64 h0.1 h0.2
  have hG := gl_top b r hb64 hr
  have hp := pow_le63 b hb64
  have HG : Hid (gl ((2 ^ b + r : Nat) : Int) = (b / 7 : Nat) + 1) := hG
  have HX : Hid (bits BinOp.or IntKind.u64 (IntKind.u64.wrap (2 ^ b)) (bits BinOp.and IntKind.u64 a0 (IntKind.u64.wrap (IntKind.u64.wrap (2 ^ b) - 1))) = ((2 ^ b + r : Nat) : Int)) := hX
  clear hG hX
  go_enter Ycjm.func9, Ycjm.ntmps9
  go_wp2_with fail
  rw [HX.out]
  clear HX
  refine (len_any _ w (by omega) (by omega)).mono ?_
  rintro e w' ⟨rfl, rfl⟩
  rw [HG.out]
  clear HG
  go_wp2_with fail
  refine (len_any _ _ (by omega) (by omega)).mono ?_
  rintro e w' ⟨rfl, rfl⟩
  have hz : gl 0 = 1 := by decide
  go_wp2
  go_ret
  exact ⟨ret_bool (by simp), Grown.refl _⟩

/-! ### the row's step -/
set_option maxRecDepth 100000 in
theorem lifted (os : Os) (started : os.Started) (H : Type) (enc : TypeId × Value → H) :
    ReturnsInHanded {} Ycjm.checked os 9 .any (Rows.lawS930001GTopBitSpec.pre6 enc Ycjm.prog Ycjm.f9 Rows.lawS930001GTopBitRow.domain false) (Rows.lawS930001GTopBitSpec.post enc Ycjm.prog Ycjm.f9 false true false false) := by
  refine returnsInHanded_of_change (C := Ycjm.checked) own started (by kernel_rfl) Ycjm.func9
    (ChangeSpec.witness6 (enc := enc) (C := Ycjm.checked) false ⟨#[], #[.int .u64 0, .int .u8 0], []⟩ 8 (by kernel_rfl) (by kernel_rfl) (by kernel_rfl) (by kernel_rfl)) ?_
  intro W base args ds gs before hval0 hW hcnd _
  have hval : ∀ (j : Nat) t v, Ycjm.f9.params[j]? = some t → args[j]? = some v → Value.okWide Ycjm.prog W .any base t v := hval0
  have hW' := hW
  obtain ⟨p, q, hA0, hV, rfl, hfz, hnd⟩ := hW
  have hA : DataW.TrodAll enc Ycjm.prog W 0 (fun _ => true) true Ycjm.f9.params.toList args.toList ds p := hA0
  rw [Ycjm.params9] at hA hval
  obtain ⟨v0, vs0, d0, ds0, p0, q0, hargs, rfl, rfl, h0, r0⟩ := trodAll_cons hA
  obtain ⟨v1, vs1, d1, ds1, p1, q1, rfl, rfl, rfl, h1, r1⟩ := trodAll_cons r0
  obtain ⟨rfl, rfl, rfl⟩ := trodAll_nil r1
  obtain rfl : args = #[v0, v1] := by cases args; simp_all
  obtain ⟨rfl, rfl⟩ := trodVars_none hV
  obtain ⟨a0, rfl, rfl, rfl, w0⟩ := open_int Ycjm.underlying22 (hval 0 22 v0 rfl rfl) h0
  obtain ⟨a1, rfl, rfl, rfl, w1⟩ := open_int Ycjm.underlying5 (hval 1 5 v1 rfl rfl) h1
  clear hA0 hval0
  simp only [List.append_nil] at hW'
  refine (walk a0 a1 w0 w1 W).mono fun e W' ⟨he, hg⟩ => ?_
  subst he
  exact ⟨_, rfl, post_of_same (pa := []) (pv := []) hW' (fun _ _ _ => (trodAll_cons_mk (shut_bool Ycjm.underlying4 _) trodAll_mk0)) (fun sp _ => (trodAll_cons_mk (shut_int Ycjm.underlying22 w0) (trodAll_cons_mk (shut_int Ycjm.underlying5 w1) trodAll_mk0))) (fun _ _ => rfl) rfl
    (hg.frame _) hg.2.1 (ok_one (by kernel_rfl) rfl (okWide_bool_mk Ycjm.underlying4 _))⟩

theorem over : Rows.lawS930001GTopBitRow.holds Ycjm.pinned (OpenSpec.ofChange Rows.lawS930001GTopBitSpec) :=
  OpenClaim.holds_of_wide 9 Ycjm.f9 rfl rfl rfl rfl rfl rfl rfl ⟨rfl, rfl, rfl, rfl, rfl⟩ rfl rfl rfl rfl rfl (by kernel_rfl) Ycjm.func9 (by kernel_rfl)
    (of_decide_eq_true (by kernel_rfl)) (by unfold Func.isWrapper; first | (rw [if_pos (by decide +kernel)]; kernel_rfl) | (rw [if_neg (by decide +kernel)]; exact ⟨rfl, rfl⟩))
    (fun os started H enc _ => lifted os started H enc)

/-- ████ THE STATEMENT ████ -/
theorem proved : Rows.LawS930001GTopBitSaid :=
  over
#print axioms proved
end Go.Proofs.Ymbrcj.lawS930001GTopBit
