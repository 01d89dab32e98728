/-
  Decode: the plain function 'dec', and the contract.
-/
import Derived.Test.YmbrciBase
namespace Go.Proofs.Ymbrci
open Go.RowKit

/-- What Decode answers on the rest of its bytes, i bytes and the value x so far behind it: the value, the count, the code. -/
def dec : List Int → Nat → Int → Int × Int × Int
  | [], _, _ => (0, 0, 1)
  | b :: t, i, x => if i = 9 ∧ 1 < b then (0, 0, 3) else if b = 0 ∧ 0 < i then (0, 0, 2) else if b < 128 then (x + b * 128 ^ i, (i : Int) + 1, 0) else dec t (i + 1) (x + b % 128 * 128 ^ i)
def dv (zs : List Int) : Int := (dec zs 0 0).1
def dn (zs : List Int) : Int := (dec zs 0 0).2.1
def dc (zs : List Int) : Int := (dec zs 0 0).2.2

theorem dec_nil (i : Nat) (x : Int) : dec [] i x = (0, 0, 1) := rfl
theorem dec_over {b : Int} (t : List Int) (x : Int) (h : 1 < b) : dec (b :: t) 9 x = (0, 0, 3) := by simp [dec, h]
theorem dec_long (t : List Int) {i : Nat} (x : Int) (h : 0 < i) : dec (0 :: t) i x = (0, 0, 2) := by simp [dec, h]
theorem dec_last {b : Int} (t : List Int) {i : Nat} (x : Int) (h9 : i = 9 → b ≤ 1) (h0 : b = 0 → i = 0) (hb : b < 128) : dec (b :: t) i x = (x + b * 128 ^ i, (i : Int) + 1, 0) := by
  have e1 : ¬ (i = 9 ∧ 1 < b) := fun ⟨h, h'⟩ => by have := h9 h; omega
  have e2 : ¬ (b = 0 ∧ 0 < i) := fun ⟨h, h'⟩ => by have := h0 h; omega
  simp only [dec]
  rw [if_neg e1, if_neg e2, if_pos hb]
theorem dec_more {b : Int} (t : List Int) {i : Nat} (x : Int) (h9 : i ≠ 9) (hb : 128 ≤ b) : dec (b :: t) i x = dec t (i + 1) (x + b % 128 * 128 ^ i) := by
  have e1 : ¬ (i = 9 ∧ 1 < b) := fun ⟨h, _⟩ => h9 h
  have e2 : ¬ (b = 0 ∧ 0 < i) := fun ⟨h, _⟩ => by omega
  show (if _ then _ else _) = _
  rw [if_neg e1, if_neg e2, if_neg (by omega)]

/-! ### the bits -/
theorem and127 {c : Int} (h₀ : 0 ≤ c) (h₁ : c ≤ 255) : bits .and .u8 c 127 = c % 128 := bits_mask .u8 8 (by decide) wraps_u8 7 (by decide) c h₀ (by omega)
theorem pow7 (k : Nat) : (2 : Nat) ^ (7 * k) = 128 ^ k := by rw [Nat.pow_mul]
theorem ipow7 (k : Nat) : (2 : Int) ^ (7 * k) = ((128 ^ k : Nat) : Int) := by rw [← pow7]; simp
theorem p128_le9 {k : Nat} (h : k ≤ 9) : (128 : Nat) ^ k ≤ 9223372036854775808 := Nat.pow_le_pow_right (n := 128) (by omega) h
theorem icast128 (k : Nat) : ((128 : Int) ^ k) = ((128 ^ k : Nat) : Int) := by simp
/-- A group laid above all that lies below it. -/
theorem or_group (X d : Int) (k : Nat) (hX : 0 ≤ X) (hX' : X < 128 ^ k) (hk : k ≤ 9) (hd : 0 ≤ d) (hd' : d < 128) (h9 : k = 9 → d ≤ 1) :
    bits .or .u64 X (IntKind.u64.wrap (d * 2 ^ (7 * k))) = X + d * 128 ^ k ∧ X + d * 128 ^ k < 128 ^ (k + 1) ∧ X + d * 128 ^ k ≤ 18446744073709551615 := by
  obtain ⟨x, rfl⟩ := Int.eq_ofNat_of_zero_le hX
  obtain ⟨e, rfl⟩ := Int.eq_ofNat_of_zero_le hd
  rw [ipow7, icast128, icast128] at *
  have hp := p128_le9 hk
  have hp0 : 0 < (128 : Nat) ^ k := Nat.pow_pos (by omega)
  have e1 : (128 : Nat) ^ (k + 1) = 128 ^ k * 128 := Nat.pow_succ ..
  have hx : x < 128 ^ k := by omega
  have hmul : e * 128 ^ k ≤ 127 * 128 ^ k := Nat.mul_le_mul_right _ (by omega)
  have hbig : e * 128 ^ k + x < 18446744073709551616 := by
    by_cases h : k = 9
    · subst h
      have := h9 rfl
      have : e ≤ 1 := by omega
      have : e * 128 ^ 9 ≤ 1 * 128 ^ 9 := Nat.mul_le_mul_right _ this
      omega
    · have : (128 : Nat) ^ k ≤ 128 ^ 8 := Nat.pow_le_pow_right (by omega) (by omega)
      omega
  have ew : ((e : Int) * ((128 ^ k : Nat) : Int)) = ((e * 128 ^ k : Nat) : Int) := by simp
  rw [ew, IntWalk.u64_in _ ⟨Int.natCast_nonneg _, by omega⟩, u64_or_nat _ _ (by omega) (by omega)]
  have ej : x ||| e * 128 ^ k = e * 128 ^ k + x := by
    rw [Nat.or_comm, ← pow7]
    exact nat_join (7 * k) _ _ (Nat.mul_mod_left _ _) (by rw [pow7]; exact hx)
  rw [ej]
  refine ⟨by omega, ?_, by omega⟩
  rw [e1]; omega

/-! ### the contract -/
theorem ret3 {zs : List Int} {x y z : Int} (h : (x, y, z) = dec zs 0 0) : Ending.returned (.tuple #[.int .u64 x, .int .i64 y, .int .i64 z]) = .returned (.tuple #[.int .u64 (dv zs), .int .i64 (dn zs), .int .i64 (dc zs)]) := by
  unfold dv dn dc; rw [← h]
set_option maxHeartbeats 1000000 in
theorem decode_any (a : Option Addr) (len cap : Nat) (zs : List Int) (w : World) (hl : zs.length = len) (hm : len ≤ 9223372036854775807) (hz : Bytes zs) (hs : Sl .u8 w a zs) :
    Calls Ycim.prog 17 #[.slice a len cap] w fun e w' => e = .returned (.tuple #[.int .u64 (dv zs), .int .i64 (dn zs), .int .i64 (dc zs)]) ∧ w' = w := by
  have HS : Hid (Sl .u8 w a zs) := hs
  have HL : Hid (zs.length = len) := hl
  have HZ : Hid (Bytes zs) := hz
  clear hs hl hz
  go_enter Ycim.func17, Ycim.ntmps17
  go_wp2
  go_loop [5, 6] (fun x i => ∃ (k : Nat) (X : Int), k ≤ len ∧ k ≤ 9 ∧ i = .int .i64 k ∧ x = .int .u64 X ∧ 0 ≤ X ∧ X < 128 ^ k ∧ dec zs 0 0 = dec (zs.drop k) k X) (fun _ i => len - (intOf i).toNat)
  case atStart => exact ⟨0, 0, by omega, by omega, rfl, rfl, by omega, by simp, rfl⟩
  case round =>
    obtain ⟨k, X, hk, hk9, rfl, rfl, hX, hX', hd⟩ := hrel
    have HD : Hid (dec zs 0 0 = dec (zs.drop k) k X) := hd
    have HX : Hid (X < 128 ^ k) := hX'
    clear hd hX'
    by_cases hlt : k < len
    · obtain ⟨b, off, ha, _, hc⟩ := HS.out.at (n := k) (by rw [HL.out]; omega)
      subst ha
      have c0 : w.cell? ⟨b, off + k, none⟩ = some (.int .u8 (el zs k)) := hc k (by rw [HL.out]; omega)
      clear hc
      have hb := HZ.out.el k
      have hmask := and127 hb.1 hb.2
      have HD2 : Hid (dec zs 0 0 = dec (el zs k :: zs.drop (k + 1)) k X) := by
        show _ = _
        rw [HD.out, drop_el (by rw [HL.out]; omega)]
      clear HD
      go_wp2
      · have h9 : (k : Int) = 9 := by assumption
        have h1 : 1 < el zs k := by assumption
        obtain rfl : k = 9 := by omega
        go_ret3
        exact ⟨ret3 (by rw [HD2.out, dec_over _ _ h1]), rfl⟩
      · have h9 : (k : Int) = 9 := by assumption
        have h1 : el zs k = 0 := by assumption
        go_ret3
        exact ⟨ret3 (by rw [HD2.out, h1, dec_long _ _ (by omega)]), rfl⟩
      · have h9 : (k : Int) = 9 := by assumption
        have h1 : el zs k ≤ 1 := by assumption
        have h2 : ¬ el zs k = 0 := by assumption
        obtain rfl : k = 9 := by omega
        have ho := or_group X (el zs 9 % 128) 9 hX HX.out (by omega) (by omega) (by omega) (by omega)
        have e1 : el zs 9 % 128 = el zs 9 := by omega
        rw [show IntKind.u64.wrap (el zs 9 % 128 * 2 ^ (7 * 9)) = el zs 9 % 128 * 9223372036854775808 from IntWalk.u64_in _ ⟨by omega, by omega⟩, e1] at ho
        go_ret3
        exact ⟨ret3 (by rw [e1, HD2.out, dec_last _ _ (by omega) (by omega) (by omega), ho.1]; rfl), rfl⟩
      · have h1 : el zs k = 0 := by assumption
        have h2 : 0 < k := by assumption
        go_ret3
        exact ⟨ret3 (by rw [HD2.out, h1, dec_long _ _ h2]), rfl⟩
      · have h1 : el zs k = 0 := by assumption
        have h2 : ¬ 0 < k := by assumption
        obtain rfl : k = 0 := by omega
        have e1 : bits .and .u8 0 127 = 0 := and127 (by omega) (by omega)
        have e0 : IntKind.u64.wrap 0 = 0 := IntWalk.u64_in _ ⟨by omega, by omega⟩
        have ho := or_group X 0 0 hX HX.out (by omega) (by omega) (by omega) (by omega)
        go_ret3
        exact ⟨ret3 (by rw [e1, e0, HD2.out, h1, dec_last _ _ (by omega) (by omega) (by omega), ho.1]), rfl⟩
      · have h1 : ¬ el zs k = 0 := by assumption
        have h2 : el zs k < 128 := by assumption
        have h3 : ¬ (k : Int) = 9 := by assumption
        have e1 : el zs k % 128 = el zs k := by omega
        have ho := or_group X (el zs k % 128) k hX HX.out hk9 (by omega) (by omega) (by omega)
        go_ret3
        exact ⟨ret3 (by rw [HD2.out, dec_last _ _ (by omega) (by omega) (by omega), ho.1, e1]), rfl⟩
      · have h2 : 128 ≤ el zs k := by assumption
        have h3 : ¬ (k : Int) = 9 := by assumption
        have ho := or_group X (el zs k % 128) k hX HX.out hk9 (by omega) (by omega) (by omega)
        have hp : 0 ≤ el zs k % 128 * 128 ^ k := Int.mul_nonneg (by omega) (Int.pow_nonneg (by omega))
        go_round
        case rel => exact ⟨k + 1, _, by omega, by omega, by go_num, rfl, by rw [ho.1]; omega, by rw [ho.1]; exact ho.2.1, by rw [HD2.out, dec_more _ _ (by omega) h2, ho.1]⟩
        case measure => simp [intOf]; omega
    · go_wp2
      go_ret3
      exact ⟨ret3 (by rw [HD.out, List.drop_eq_nil_of_le (by rw [HL.out]; omega)]; rfl), rfl⟩
end Go.Proofs.Ymbrci
