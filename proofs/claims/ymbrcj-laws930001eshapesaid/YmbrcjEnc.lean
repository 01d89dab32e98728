/-
  Two encoders of the laws that make their slice themselves: zzs930001eencode, zzs930001fenc.
-/
import Derived.Test.YmbrcjVal
import Derived.Test.YmbrcjOwn
namespace Go.Proofs.Ymbrcj
open Go.RowKit

set_option maxHeartbeats 1000000 in
theorem eencode_any (x : Int) (w : World) (h0 : 0 ≤ x) (h1 : x ≤ 18446744073709551615) :
    Calls Ycjm.prog 15 #[.int .u64 x] w fun e w' => ∃ v', e = .returned v' ∧ Owns .u8 5 w.heap.size w' v' (E x) ∧ Below w.heap.size w w' := by
  go_enter Ycjm.func15, Ycjm.ntmps15
  go_wp2
  go_loopw [0, 3] (fun t d wr => ∃ (y : Int) (ks : List Int), t = .int .u64 y ∧ 0 ≤ y ∧ y ≤ 18446744073709551615 ∧ Ap .u8 5 w.heap.size w (.slice none 0 0) [] wr d ks ∧ E x = ks ++ E y) (fun t _ _ => (intOf t).toNat)
  case atStart => exact ⟨x, [], rfl, h0, h1, Ap.start (Owns.nil _ _ _ _), rfl⟩
  case round =>
    obtain ⟨y, ks, rfl, hy0, hy1, hap, he⟩ := hrel
    have hlen := E_len x
    rw [he] at hlen
    rw [List.length_append] at hlen
    have hkl : ks.length ≤ 10 := by omega
    have HE : Hid (E x = ks ++ E y) := he
    have HA : Hid (Ap .u8 5 w.heap.size w (.slice none 0 0) [] wr _ ks) := hap
    have hsz : w.heap.size ≤ wr.heap.size := hap.size
    have H0 : Hid (∀ g, (Value.slice none 0 0).ownBlock = some g → g < w.heap.size) := fun g hg => by simp [Value.ownBlock] at hg
    clear hlen he hap
    by_cases hlt : 128 ≤ y
    · go_wp2_with (at_builtin; refine ap8 _ rfl (.tmp 6) (.tmp 11) rfl rfl (HA.out.owns.alloc _) ?c1 _ _ _ [y % 128 + 128] rfl rfl (sl_one _ _ _ _) ?c2 ?c3)
      case c1 => first | omega | (simp; omega)
      case c2 => first | omega | (simp; omega)
      case c3 =>
        intro v' w1 hap
        have HB : Hid (Ap .u8 5 w.heap.size w (.slice none 0 0) [] w1 v' (ks ++ [y % 128 + 128])) := (HA.out.alloc _ H0.out).trans hap H0.out
        clear hap
        go_wp2
        go_roundw
        case rel => exact ⟨y / 128, ks ++ [y % 128 + 128], by go_num, by omega, by omega, HB.out, by rw [HE.out, E_big hlt hy1]; simp⟩
        case measure => simp [intOf]; omega
    · go_wp2_with (at_builtin; refine ap8 _ rfl (.tmp 15) (.tmp 18) rfl rfl (HA.out.owns.alloc _) ?d1 _ _ _ [y] rfl rfl (sl_one _ _ _ _) ?d2 ?d3)
      case d1 => first | omega | (simp; omega)
      case d2 => first | omega | (simp; omega)
      case d3 =>
        intro v' w1 hap
        have HB : Hid (Ap .u8 5 w.heap.size w (.slice none 0 0) [] w1 v' (ks ++ [y])) := (HA.out.alloc _ H0.out).trans hap H0.out
        clear hap
        go_wp2
        go_ret
        have hx : E x = ks ++ [y] := by rw [HE.out, E_small (by omega)]
        exact ⟨_, rfl, by rw [hx]; exact HB.out.ownsNew, HB.out.belowNil⟩

def ten : Array Value := #[Value.int .u8 0, Value.int .u8 0, Value.int .u8 0, Value.int .u8 0, Value.int .u8 0, Value.int .u8 0, Value.int .u8 0, Value.int .u8 0, Value.int .u8 0, Value.int .u8 0]
theorem make10 (w : World) : (Instr.makeSlice 23 (.int .i64 0) (.int .i64 10)).run Ycjm.prog w = .ok (.slice (some ⟨w.heap.size, 0, none⟩) 0 10) (w.alloc (.cells ten 5)) := by kernel_rfl
set_option maxHeartbeats 1000000 in
theorem fenc_any (x : Int) (w : World) (h0 : 0 ≤ x) (h1 : x ≤ 18446744073709551615) :
    Calls Ycjm.prog 20 #[.int .u64 x] w fun e w' => ∃ v', e = .returned v' ∧ Owns .u8 5 w.heap.size w' v' (E x) ∧ Below w.heap.size w w' := by
  have hmk := make10
  have hown : Owns .u8 5 w.heap.size (w.alloc (.cells ten 5)) (.slice (some ⟨w.heap.size, 0, none⟩) 0 10) [] := World.ownsRow_made w ten 10 (Nat.le_refl _) (by decide) rfl
  have HO : Hid (Owns .u8 5 w.heap.size (w.alloc (.cells ten 5)) (.slice (some ⟨w.heap.size, 0, none⟩) 0 10) []) := hown
  clear hown
  go_enter Ycjm.func20, Ycjm.ntmps20
  go_wp2
  go_loopw [0, 3] (fun t d wr => ∃ (y : Int) (ks : List Int), t = .int .u64 y ∧ 0 ≤ y ∧ y ≤ 18446744073709551615 ∧ Ap .u8 5 w.heap.size (w.alloc (.cells ten 5)) (.slice (some ⟨w.heap.size, 0, none⟩) 0 10) [] wr d ks ∧ E x = ks ++ E y) (fun t _ _ => (intOf t).toNat)
  case atStart => exact ⟨x, [], rfl, h0, h1, Ap.start HO.out, rfl⟩
  case round =>
    obtain ⟨y, ks, rfl, hy0, hy1, hap, he⟩ := hrel
    have hlen := E_len x
    rw [he] at hlen
    rw [List.length_append] at hlen
    have hkl : ks.length ≤ 10 := by omega
    have HE : Hid (E x = ks ++ E y) := he
    have HA : Hid (Ap .u8 5 w.heap.size (w.alloc (.cells ten 5)) (.slice (some ⟨w.heap.size, 0, none⟩) 0 10) [] wr _ ks) := hap
    have hsz : w.heap.size + 1 ≤ wr.heap.size := by have := hap.size; simpa using this
    have H0 : Hid (∀ g, (Value.slice (some ⟨w.heap.size, 0, none⟩) 0 10).ownBlock = some g → g < (w.alloc (.cells ten 5)).heap.size) := fun g hg => (HO.out.lt g hg).2
    clear hlen he hap
    by_cases hlt : 128 ≤ y
    · go_wp2_with (at_builtin; refine ap8 _ rfl (.tmp 7) (.tmp 12) rfl rfl (HA.out.owns.alloc _) ?c1 _ _ _ [y % 128 + 128] rfl rfl (sl_one _ _ _ _) ?c2 ?c3)
      case c1 => first | omega | (simp; omega)
      case c2 => first | omega | (simp; omega)
      case c3 =>
        intro v' w1 hap
        have HB : Hid (Ap .u8 5 w.heap.size (w.alloc (.cells ten 5)) (.slice (some ⟨w.heap.size, 0, none⟩) 0 10) [] w1 v' (ks ++ [y % 128 + 128])) := (HA.out.alloc _ H0.out).trans hap H0.out
        clear hap
        go_wp2
        go_roundw
        case rel => exact ⟨y / 128, ks ++ [y % 128 + 128], by go_num, by omega, by omega, HB.out, by rw [HE.out, E_big hlt hy1]; simp⟩
        case measure => simp [intOf]; omega
    · go_wp2_with (at_builtin; refine ap8 _ rfl (.tmp 16) (.tmp 19) rfl rfl (HA.out.owns.alloc _) ?d1 _ _ _ [y] rfl rfl (sl_one _ _ _ _) ?d2 ?d3)
      case d1 => first | omega | (simp; omega)
      case d2 => first | omega | (simp; omega)
      case d3 =>
        intro v' w1 hap
        have HB : Hid (Ap .u8 5 w.heap.size (w.alloc (.cells ten 5)) (.slice (some ⟨w.heap.size, 0, none⟩) 0 10) [] w1 v' (ks ++ [y])) := (HA.out.alloc _ H0.out).trans hap H0.out
        clear hap
        go_wp2
        go_ret
        have hx : E x = ks ++ [y] := by rw [HE.out, E_small (by omega)]
        exact ⟨_, rfl, by rw [hx]; exact HB.out.owns, ((Below.refl _ _).alloc (Nat.le_refl _) _).trans (HB.out.below HO.out (by simp))⟩

end Go.Proofs.Ymbrcj
