/-
  Sorted: its contract.
-/
import Derived.Test.YmbrciBase
namespace Go.Proofs.Ymbrci
open Go.RowKit

/-- No number is less than the one before it. -/
def srt (zs : List Int) : Bool := (List.range (zs.length - 1)).all fun j => decide (el zs j ≤ el zs (j + 1))
theorem srt_iff (zs : List Int) : srt zs = true ↔ ∀ j, j + 1 < zs.length → el zs j ≤ el zs (j + 1) := by
  simp only [srt, List.all_eq_true, List.mem_range, decide_eq_true_eq]
  exact ⟨fun h j hj => h j (by omega), fun h j hj => h j (by omega)⟩

set_option maxHeartbeats 400000 in
theorem sorted_any (a : Option Addr) (len cap : Nat) (zs : List Int) (w : World) (hl : zs.length = len) (hm : len ≤ 9223372036854775807) (hs : Sl .u64 w a zs) :
    Calls Ycim.prog 32 #[.slice a len cap] w fun e w' => e = .returned (.bool (srt zs)) ∧ ∃ n, w' = w.drewN n := by
  have HS : Hid (Sl .u64 w a zs) := hs
  have HL : Hid (zs.length = len) := hl
  clear hs hl
  go_enter Ycim.func32, Ycim.ntmps32
  go_wp2
  go_loopw [3] (fun i wr => ∃ (k n : Nat), i = .int .i64 (k + 1 : Nat) ∧ (k = 0 ∨ k + 1 ≤ len) ∧ wr = w.drewN n ∧ ∀ j, j < k → el zs j ≤ el zs (j + 1)) (fun i _ => len - (intOf i).toNat)
  case atStart => exact ⟨0, 0, rfl, .inl rfl, rfl, fun j hj => absurd hj (Nat.not_lt_zero _)⟩
  case round =>
    obtain ⟨k, n, rfl, hk, hw, hb⟩ := hrel
    subst hw
    have HB : Hid (∀ j, j < k → el zs j ≤ el zs (j + 1)) := hb
    clear hb
    by_cases hlt : k + 1 < len
    · obtain ⟨b, off, ha, _, hc⟩ := HS.out.at (n := k) (by rw [HL.out]; omega)
      subst ha
      have c0 : w.cell? ⟨b, off + k, none⟩ = some (.int .u64 (el zs k)) := hc k (by rw [HL.out]; omega)
      have c1 : w.cell? ⟨b, off + (k + 1), none⟩ = some (.int .u64 (el zs (k + 1))) := hc (k + 1) (by rw [HL.out]; omega)
      clear hc
      go_wp2
      go_quiet (fail)
      go_wp2
      · have hx : el zs (k + 1) < el zs k := by assumption
        go_ret
        refine ⟨ret_bool ?_, n + nq, by simp⟩
        cases hb : srt zs with
        | false => rfl
        | true => have := (srt_iff zs).1 hb k (by rw [HL.out]; omega); omega
      · have hx : el zs k ≤ el zs (k + 1) := by assumption
        go_roundw
        case rel =>
          refine ⟨k + 1, n + nq, by go_num, by omega, rfl, fun j hj => ?_⟩
          by_cases hj' : j = k
          · subst hj'; exact hx
          · exact HB.out j (by omega)
        case measure => simp [intOf]; omega
    · go_wp2
      go_ret
      refine ⟨ret_bool ?_, n, rfl⟩
      exact ((srt_iff zs).2 (fun j hj => HB.out j (by rw [HL.out] at hj; omega))).symm
end Go.Proofs.Ymbrci
