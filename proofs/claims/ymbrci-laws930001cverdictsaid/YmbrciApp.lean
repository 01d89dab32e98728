/-
  Append: its contract over a slice of the call's own.
-/
import Derived.Test.YmbrciVal
import Derived.Test.YmbrciOwn
namespace Go.Proofs.Ymbrci
open Go.RowKit

theorem and127w {c : Int} (h₀ : 0 ≤ c) (h₁ : c ≤ 18446744073709551615) : bits .and .u64 c 127 = c % 128 := by
  rw [u64_and c 127 h₀ (by omega) (by omega) (by omega), show (127 : Int).toNat = 127 from rfl, nat_mask7]
  omega
theorem or128 {c : Int} (h₀ : 0 ≤ c) (h₁ : c < 128) : bits .or .u8 c 128 = c + 128 := by
  rw [u8_or c 128 h₀ (by omega) (by omega) (by omega), show (128 : Int).toNat = 128 from rfl, Nat.or_comm]
  have : 128 ||| c.toNat = 128 + c.toNat := nat_join 7 128 c.toNat (by decide) (by omega)
  rw [this]; omega
set_option maxHeartbeats 1000000 in
theorem append_any (v : Value) (xs : List Int) (x : Int) (w : World) (base : Nat) (h0 : 0 ≤ x) (h1 : x ≤ 18446744073709551615) (hown : Owns .u8 5 base w v xs) (hb : base ≤ w.heap.size) (hbd : xs.length ≤ 100000000000000) :
    Calls Ycim.prog 19 #[v, .int .u64 x] w fun e w' => ∃ v', e = .returned v' ∧ Ap .u8 5 base w v xs w' v' (E x) := by
  have HO : Hid (Owns .u8 5 base w v xs) := hown
  clear hown
  go_enter Ycim.func19, Ycim.ntmps19
  go_wp2
  go_loopw [0, 1] (fun d t wr => ∃ (y : Int) (ks : List Int), t = .int .u64 y ∧ 0 ≤ y ∧ y ≤ 18446744073709551615 ∧ Ap .u8 5 base w v xs wr d ks ∧ E x = ks ++ E y) (fun _ t _ => (intOf t).toNat)
  case atStart => exact ⟨x, [], rfl, h0, h1, Ap.start HO.out, rfl⟩
  case round =>
    obtain ⟨y, ks, rfl, hy0, hy1, hap, he⟩ := hrel
    have hlen := E_len x
    rw [he] at hlen
    rw [List.length_append] at hlen
    have hkl : ks.length ≤ 10 := by omega
    have HE : Hid (E x = ks ++ E y) := he
    have HA : Hid (Ap .u8 5 base w v xs wr _ ks) := hap
    have hsz : base ≤ wr.heap.size := Nat.le_trans hb hap.size
    have m1 := and127w hy0 hy1
    have m2 : bits .or .u8 (y % 128) 128 = y % 128 + 128 := or128 (by omega) (by omega)
    clear hlen he hap
    by_cases hlt : 128 ≤ y
    · go_wp2_with (at_builtin; refine ap8 _ rfl (.tmp 7) (.tmp 12) rfl rfl (HA.out.owns.alloc _) ?c1 _ _ _ [y % 128 + 128] rfl rfl (sl_one _ _ _ _) ?c2 ?c3)
      case c1 => first | omega | (simp; omega)
      case c2 => first | omega | (simp; omega)
      case c3 =>
        intro v' w1 hap
        have HB : Hid (Ap .u8 5 base w v xs w1 v' (ks ++ [y % 128 + 128])) := (HA.out.alloc _ fun g hg => (HO.out.lt g hg).2).trans hap fun g hg => (HO.out.lt g hg).2
        clear hap
        go_wp2
        go_roundw
        case rel => exact ⟨y / 128, ks ++ [y % 128 + 128], by go_num, by omega, by omega, HB.out, by rw [HE.out, E_big hlt hy1]; simp⟩
        case measure => simp [intOf]; omega
    · clear m1 m2
      go_wp2_with (at_builtin; refine ap8 _ rfl (.tmp 16) (.tmp 19) rfl rfl (HA.out.owns.alloc _) ?d1 _ _ _ [y] rfl rfl (sl_one _ _ _ _) ?d2 ?d3)
      case d1 => first | omega | (simp; omega)
      case d2 => first | omega | (simp; omega)
      case d3 =>
        intro v' w1 hap
        have HB : Hid (Ap .u8 5 base w v xs w1 v' (ks ++ [y])) := (HA.out.alloc _ fun g hg => (HO.out.lt g hg).2).trans hap fun g hg => (HO.out.lt g hg).2
        clear hap
        go_wp2
        go_ret
        exact ⟨_, rfl, by rw [HE.out, E_small (by omega)]; exact HB.out⟩
end Go.Proofs.Ymbrci
