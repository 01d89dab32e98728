/-
  The width and the digits of the shortest form, as the laws reckon them: zzs930001bmix, bwidth, bdigit, cgroups.
-/
import Derived.Test.YmbrciVal
namespace Go.Proofs.Ymbrci
open Go.RowKit

theorem p7 (n : Nat) : (2 : Int) ^ (7 * n) = 128 ^ n := by rw [ipow7, ← icast128]
theorem p128_pos (n : Nat) : 0 < (128 : Int) ^ n := by rw [icast128]; have : 0 < (128 : Nat) ^ n := Nat.pow_pos (by omega); omega
theorem div_step (x : Int) (n : Nat) : x / 128 / 128 ^ n = x / 128 ^ (n + 1) := by
  rw [Int.pow_succ, Int.mul_comm, Int.ediv_ediv, if_neg (by omega)]; omega
theorem le_step (x : Int) (n : Nat) : (128 : Int) ^ n ≤ x / 128 ↔ 128 ^ (n + 1) ≤ x := by
  have e : (128 : Int) ^ (n + 1) = 128 ^ n * 128 := Int.pow_succ ..
  rw [e]; omega
theorem E_wide : ∀ x, 0 ≤ x → x ≤ 18446744073709551615 → ∀ n, 1 ≤ n → (n < (E x).length ↔ (128 : Int) ^ n ≤ x) := by
  refine E_ind (fun x h0 h n hn => ?_) (fun x h h1 ih n hn => ?_)
  · rw [E_small h, List.length_singleton]
    refine ⟨fun h' => by omega, fun h' => ?_⟩
    have : (128 : Int) ^ 1 ≤ 128 ^ n := by rw [icast128, icast128]; exact Int.ofNat_le.2 (Nat.pow_le_pow_right (by omega) hn)
    omega
  · rw [E_big h h1, List.length_cons]
    have hl := E_len (x / 128)
    match n, hn with
    | 1, _ => exact ⟨fun _ => by show (128 : Int) ^ 1 ≤ x; omega, fun _ => by omega⟩
    | n + 2, _ =>
      rw [← le_step]
      have := ih (n + 1) (by omega)
      rw [← this]; omega
theorem shr_ne (x : Int) (n : Nat) (h0 : 0 ≤ x) : (x / 2 ^ (7 * n) != 0) = decide ((128 : Int) ^ n ≤ x) := by
  rw [p7]
  have hp := p128_pos n
  by_cases h : (128 : Int) ^ n ≤ x
  · have : 1 ≤ x / 128 ^ n := Int.le_ediv_of_mul_le hp (by omega)
    simp [h]; omega
  · have : x / 128 ^ n = 0 := Int.ediv_eq_zero_of_lt h0 (by omega)
    simp [this, h]
theorem E_digit : ∀ x, 0 ≤ x → x ≤ 18446744073709551615 → ∀ i, i < (E x).length → el (E x) i = x / 2 ^ (7 * i) % 128 + (if i + 1 < (E x).length then 128 else 0) := by
  refine E_ind (fun x h0 h i hi => ?_) (fun x h h1 ih i hi => ?_)
  · rw [E_small h] at hi ⊢
    obtain rfl : i = 0 := by simp at hi; omega
    simp [el]; omega
  · have hl := E_len (x / 128)
    rw [E_big h h1] at hi ⊢
    rw [List.length_cons] at hi ⊢
    match i, hi with
    | 0, _ => rw [el_zero, if_pos (by omega)]; simp
    | i + 1, hi =>
      rw [el_succ, ih i (by omega), p7, p7, div_step]
      congr 1
      by_cases hc : i + 1 < (E (x / 128)).length
      · rw [if_pos hc, if_pos (by omega)]
      · rw [if_neg hc, if_neg (by omega)]

set_option maxHeartbeats 1000000 in
theorem bmix_any (x y s : Int) (w : World) (_h0 : 0 ≤ y) (_h1 : y ≤ 18446744073709551615) (_hs0 : 0 ≤ s) (_hs1 : s ≤ 255) :
    Calls Ycim.prog 18 #[.int .u64 x, .int .u64 y, .int .u8 s] w fun e w' => (∃ m, e = .returned (.int .u64 m) ∧ 0 ≤ m ∧ m ≤ 18446744073709551615) ∧ w' = w := by
  go_enter Ycim.func18, Ycim.ntmps18
  go_wp2
  go_ret
  exact ⟨⟨_, rfl, (u64_bd (wf_bits .xor .u64 _ _)).1, (u64_bd (wf_bits .xor .u64 _ _)).2⟩, rfl⟩

set_option maxHeartbeats 1000000 in
theorem bwidth_any (x : Int) (w : World) (h0 : 0 ≤ x) (h1 : x ≤ 18446744073709551615) :
    Calls Ycim.prog 20 #[.int .u64 x] w fun e w' => e = .returned (.int .i64 ((E x).length : Nat)) ∧ w' = w := by
  have hl := E_len x
  have HW : Hid (∀ n, 1 ≤ n → (n < (E x).length ↔ (128 : Int) ^ n ≤ x)) := E_wide x h0 h1
  obtain ⟨L, hL⟩ : ∃ L, (E x).length = L := ⟨_, rfl⟩
  rw [hL] at hl ⊢
  have HL : Hid ((E x).length = L) := hL
  clear hL
  go_enter Ycim.func20, Ycim.ntmps20
  go_wp2
  go_loop [3] (fun i => ∃ n : Nat, i = .int .i64 n ∧ 1 ≤ n ∧ n ≤ L) (fun i => 10 - (intOf i).toNat)
  case atStart => exact ⟨1, rfl, by omega, by omega⟩
  case round =>
    obtain ⟨n, rfl, hn1, hnL⟩ := hrel
    have hiff := HW.out n hn1
    rw [HL.out] at hiff
    by_cases hlt : n < L
    · have hsh : (x / 2 ^ (7 * n) != 0) = true := by rw [shr_ne x n h0]; simpa using hiff.1 hlt
      clear hiff
      go_wp2
      go_round
      case rel => exact ⟨n + 1, by go_num, by omega, by omega⟩
      case measure => simp [intOf]; omega
    · obtain rfl : n = L := by omega
      have hsh : (x / 2 ^ (7 * n) != 0) = false := by rw [shr_ne x n h0]; simp; omega
      clear hiff
      by_cases h10 : n < 10
      · go_wp2
        go_ret
        exact ⟨rfl, rfl⟩
      · go_wp2
        go_ret
        exact ⟨rfl, rfl⟩

set_option maxHeartbeats 1000000 in
theorem cgroups_any (x : Int) (w : World) (h0 : 0 ≤ x) (h1 : x ≤ 18446744073709551615) :
    Calls Ycim.prog 33 #[.int .u64 x] w fun e w' => e = .returned (.int .i64 ((E x).length : Nat)) ∧ w' = w := by
  have hl := E_len x
  have HW : Hid (∀ n, 1 ≤ n → (n < (E x).length ↔ (128 : Int) ^ n ≤ x)) := E_wide x h0 h1
  obtain ⟨L, hL⟩ : ∃ L, (E x).length = L := ⟨_, rfl⟩
  rw [hL] at hl ⊢
  have HL : Hid ((E x).length = L) := hL
  clear hL
  go_enter Ycim.func33, Ycim.ntmps33
  go_wp2
  go_loop [3, 4] (fun t i => ∃ n q : Nat, i = .int .i64 q ∧ 1 ≤ q ∧ q ≤ 10 ∧ t = .int .i64 n ∧ n = min q L) (fun _ i => 10 - (intOf i).toNat)
  case atStart => exact ⟨1, 1, rfl, by omega, by omega, rfl, by omega⟩
  case round =>
    obtain ⟨n, q, rfl, hq1, hq10, rfl, hn⟩ := hrel
    have HN : Hid (n = min q L) := hn
    clear hn
    have hiff := HW.out q hq1
    rw [HL.out] at hiff
    by_cases h10 : q < 10
    · by_cases hlt : q < L
      · have hsh : (x / 2 ^ (7 * q) != 0) = true := by rw [shr_ne x q h0]; simpa using hiff.1 hlt
        clear hiff
        go_wp2
        go_round
        case rel => exact ⟨q + 1, q + 1, by go_num, by omega, by omega, by go_num, by omega⟩
        case measure => simp [intOf]; omega
      · have hsh : (x / 2 ^ (7 * q) != 0) = false := by rw [shr_ne x q h0]; simp; omega
        clear hiff
        go_wp2
        go_round
        case rel => exact ⟨n, q + 1, by go_num, by omega, by omega, rfl, by have := HN.out; omega⟩
        case measure => simp [intOf]; omega
    · clear hiff
      go_wp2
      go_ret
      exact ⟨ret_int (by have := HN.out; omega), rfl⟩

set_option maxHeartbeats 1000000 in
theorem bdigit_any (x : Int) (i n : Nat) (w : World) (h0 : 0 ≤ x) (h1 : x ≤ 18446744073709551615) (hn : (E x).length = n) (hi : i < n) :
    Calls Ycim.prog 21 #[.int .u64 x, .int .i64 (i : Int), .int .i64 (n : Int)] w fun e w' => e = .returned (.int .u8 (el (E x) i)) ∧ w' = w := by
  have hl := E_len x
  have hd := E_digit x h0 h1 i (by omega)
  have hq0 : 0 ≤ x / 2 ^ (7 * i) := Int.ediv_nonneg h0 (by rw [p7]; have := p128_pos i; omega)
  have hq1 : x / 2 ^ (7 * i) ≤ 18446744073709551615 := Int.le_trans (Int.ediv_le_self _ h0) h1
  rw [hn] at hd hl
  clear hn
  by_cases hc : i + 1 < n
  · rw [if_pos hc] at hd
    have HD : Hid (el (E x) i = x / 2 ^ (7 * i) % 128 + 128) := hd
    clear hd
    go_enter Ycim.func21, Ycim.ntmps21
    go_wp2
    go_ret
    exact ⟨ret_int HD.out.symm, rfl⟩
  · rw [if_neg hc] at hd
    have HD : Hid (el (E x) i = x / 2 ^ (7 * i) % 128) := by show _ = _; omega
    clear hd
    go_enter Ycim.func21, Ycim.ntmps21
    go_wp2
    go_ret
    exact ⟨ret_int HD.out.symm, rfl⟩
end Go.Proofs.Ymbrci
