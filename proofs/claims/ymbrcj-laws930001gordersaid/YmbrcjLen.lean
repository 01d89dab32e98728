/-
  Len and its table: 'gl x' is the number of groups of seven bits.
-/
import Derived.Test.YmbrcjRows
import Derived.WalkKit
import Derived.WalkSpells
import Derived.WalkLawsBesides
namespace Go.Proofs.Ymbrcj
open Go.RowKit

theorem ret_int {k : IntKind} {a b : Int} (h : a = b) : Ending.returned (.int k a) = .returned (.int k b) := by rw [h]
theorem ret_bool {a b : Bool} (h : a = b) : Ending.returned (.bool a) = .returned (.bool b) := by rw [h]
theorem u8_bd {n : Int} (h : (Lit.int .u8 n).wf = true) : 0 ≤ n ∧ n ≤ 255 := by
  simp [Lit.wf, IntKind.min, IntKind.max, IntKind.signed, IntKind.bits] at h
  omega
theorem u64_bd {n : Int} (h : (Lit.int .u64 n).wf = true) : 0 ≤ n ∧ n ≤ 18446744073709551615 := by
  simp [Lit.wf, IntKind.min, IntKind.max, IntKind.signed, IntKind.bits] at h
  omega

def ge1 (c x : Int) : Int := if c ≤ x then 1 else 0
theorem ge1_yes {c x : Int} (h : c ≤ x) : ge1 c x = 1 := if_pos h
theorem ge1_no {c x : Int} (h : x < c) : ge1 c x = 0 := if_neg (by omega)
theorem ge1_bd (c x : Int) : 0 ≤ ge1 c x ∧ ge1 c x ≤ 1 := by unfold ge1; split <;> omega
theorem ge1_mono (c : Int) {x y : Int} (h : x ≤ y) : ge1 c x ≤ ge1 c y := by
  unfold ge1; split <;> split <;> omega
theorem ge1_div (c d x : Int) (h : d = 128 * c) : ge1 d x = ge1 c (x / 128) := by
  subst h; unfold ge1; split <;> split <;> omega
def gl (x : Int) : Int := 1 + ge1 128 x + ge1 16384 x + ge1 2097152 x + ge1 268435456 x + ge1 34359738368 x + ge1 4398046511104 x + ge1 562949953421312 x + ge1 72057594037927936 x + ge1 9223372036854775808 x
theorem gl_step (x : Int) (h : 128 ≤ x) (h2 : x ≤ 18446744073709551615) : gl x = gl (x / 128) + 1 := by
  unfold gl
  rw [ge1_yes h, ge1_div 128 16384 x (by omega), ge1_div 16384 2097152 x (by omega), ge1_div 2097152 268435456 x (by omega), ge1_div 268435456 34359738368 x (by omega), ge1_div 34359738368 4398046511104 x (by omega), ge1_div 4398046511104 562949953421312 x (by omega), ge1_div 562949953421312 72057594037927936 x (by omega), ge1_div 72057594037927936 9223372036854775808 x (by omega), ge1_no (show x / 128 < 9223372036854775808 by omega)]
  omega
theorem gl_small (x : Int) (h : x < 128) : gl x = 1 := by
  unfold gl
  rw [ge1_no h, ge1_no (show x < 16384 by omega), ge1_no (show x < 2097152 by omega), ge1_no (show x < 268435456 by omega), ge1_no (show x < 34359738368 by omega), ge1_no (show x < 4398046511104 by omega), ge1_no (show x < 562949953421312 by omega), ge1_no (show x < 72057594037927936 by omega), ge1_no (show x < 9223372036854775808 by omega)]
  rfl
theorem gl_range (x : Int) : 1 ≤ gl x ∧ gl x ≤ 10 := by
  have h1 := ge1_bd 128 x
  have h2 := ge1_bd 16384 x
  have h3 := ge1_bd 2097152 x
  have h4 := ge1_bd 268435456 x
  have h5 := ge1_bd 34359738368 x
  have h6 := ge1_bd 4398046511104 x
  have h7 := ge1_bd 562949953421312 x
  have h8 := ge1_bd 72057594037927936 x
  have h9 := ge1_bd 9223372036854775808 x
  unfold gl
  omega
theorem gl_mono {x y : Int} (h : x ≤ y) : gl x ≤ gl y := by
  have h1 := ge1_mono 128 h
  have h2 := ge1_mono 16384 h
  have h3 := ge1_mono 2097152 h
  have h4 := ge1_mono 268435456 h
  have h5 := ge1_mono 34359738368 h
  have h6 := ge1_mono 4398046511104 h
  have h7 := ge1_mono 562949953421312 h
  have h8 := ge1_mono 72057594037927936 h
  have h9 := ge1_mono 9223372036854775808 h
  unfold gl
  omega

set_option maxHeartbeats 400000 in
theorem len_any (x : Int) (w : World) (h0 : 0 ≤ x) (h1 : x ≤ 18446744073709551615) :
    Calls Ycjm.prog 21 #[.int .u64 x] w fun e w' => e = .returned (.int .i64 (gl x)) ∧ w' = w := by
  go_enter Ycjm.func21, Ycjm.ntmps21
  go_wp2
  go_loop [0, 3] (fun t n => ∃ y k : Int, 0 ≤ y ∧ y ≤ 18446744073709551615 ∧ 1 ≤ k ∧ t = .int .u64 y ∧ n = .int .i64 k ∧ gl x = k - 1 + gl y) (fun t _ => (intOf t).toNat)
  case atStart => exact ⟨x, 1, h0, h1, by omega, rfl, rfl, by omega⟩
  case round =>
    obtain ⟨y, k, hy0, hy1, hk, rfl, rfl, hg⟩ := hrel
    have hr := gl_range x
    have hr' := gl_range y
    have HG : Hid (gl x = k - 1 + gl y) := hg
    have hk10 : k ≤ 10 := by omega
    clear hg hr hr'
    by_cases hlt : 128 ≤ y
    · go_wp2
      go_round
      case rel => exact ⟨y / 128, k + 1, by omega, by omega, by omega, by go_num, by go_num, by have := HG.out; have := gl_step y hlt hy1; omega⟩
      case measure => simp [intOf]; omega
    · go_wp2
      go_ret
      have h2 := HG.out
      have h3 := gl_small y (by omega)
      exact ⟨ret_int (by omega), rfl⟩

theorem gl_at (x : Int) (a b c d e f g h i : Int) (h1 : ge1 128 x = a) (h2 : ge1 16384 x = b) (h3 : ge1 2097152 x = c) (h4 : ge1 268435456 x = d) (h5 : ge1 34359738368 x = e) (h6 : ge1 4398046511104 x = f) (h7 : ge1 562949953421312 x = g) (h8 : ge1 72057594037927936 x = h) (h9 : ge1 9223372036854775808 x = i) : gl x = 1 + a + b + c + d + e + f + g + h + i := by
  unfold gl; rw [h1, h2, h3, h4, h5, h6, h7, h8, h9]
theorem gwant_any (x : Int) (w : World) (h0 : 0 ≤ x) (h1 : x ≤ 18446744073709551615) :
    Calls Ycjm.prog 22 #[.int .u64 x] w fun e w' => e = .returned (.int .i64 (gl x)) ∧ w' = w := by
  go_enter Ycjm.func22, Ycjm.ntmps22
  go_wp2
  all_goals
    go_ret
    refine ⟨ret_int ?_, rfl⟩
    rw [gl_at x _ _ _ _ _ _ _ _ _ (by first | exact ge1_yes (by omega) | exact ge1_no (by omega)) (by first | exact ge1_yes (by omega) | exact ge1_no (by omega)) (by first | exact ge1_yes (by omega) | exact ge1_no (by omega)) (by first | exact ge1_yes (by omega) | exact ge1_no (by omega)) (by first | exact ge1_yes (by omega) | exact ge1_no (by omega)) (by first | exact ge1_yes (by omega) | exact ge1_no (by omega)) (by first | exact ge1_yes (by omega) | exact ge1_no (by omega)) (by first | exact ge1_yes (by omega) | exact ge1_no (by omega)) (by first | exact ge1_yes (by omega) | exact ge1_no (by omega))]
    rfl

end Go.Proofs.Ymbrcj
