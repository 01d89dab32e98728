/-
  Reading a list of values in one pass, byte by byte: the state in the midst of a value, and its steps.
-/
import Derived.Test.YmbrckAll
namespace Go.Proofs.Ymbrck
open Go.RowKit

theorem p128_le (n : Nat) (h : n ≤ 9) : (128 : Int) ^ n ≤ 9223372036854775808 ∧ 0 < (128 : Int) ^ n := by
  have h1 := p128_le9 h
  have h2 : 0 < (128 : Nat) ^ n := Nat.pow_pos (by omega)
  rw [icast128]
  omega
theorem val_snoc (ps : List Int) (b : Int) : val (ps ++ [b]) = val ps + b % 128 * 128 ^ ps.length := by
  rw [val_append, val_cons, val_nil]
  congr 2
  omega
/-- One group more: nothing wraps. -/
theorem wrap_group (ps : List Int) (b : Int) (hn : ps.length ≤ 8 ∨ (ps.length = 9 ∧ b % 128 ≤ 1)) :
    IntKind.u64.wrap (val ps + IntKind.u64.wrap (b % 128 * 128 ^ ps.length)) = val (ps ++ [b]) ∧ val (ps ++ [b]) ≤ 18446744073709551615 := by
  have h1 := val_lt ps
  have h2 := val_nonneg ps
  have hp := p128_le ps.length (by omega)
  have h5 : 0 ≤ b % 128 * 128 ^ ps.length := Int.mul_nonneg (by omega) (by omega)
  have h6 : val ps + b % 128 * 128 ^ ps.length ≤ 18446744073709551615 := by
    rcases hn with hn | ⟨hn, hb⟩
    · have h3 : (128 : Nat) ^ ps.length ≤ 128 ^ 8 := Nat.pow_le_pow_right (by omega) hn
      have h4 : (128 : Int) ^ ps.length ≤ 72057594037927936 := by rw [icast128]; omega
      have h7 : b % 128 * 128 ^ ps.length ≤ 127 * 128 ^ ps.length := Int.mul_le_mul_of_nonneg_right (by omega) (by omega)
      omega
    · have h7 : b % 128 * 128 ^ ps.length ≤ 1 * 128 ^ ps.length := Int.mul_le_mul_of_nonneg_right (by omega) (by omega)
      omega
  rw [val_snoc, IntWalk.u64_in (b % 128 * 128 ^ ps.length) ⟨h5, by omega⟩, IntWalk.u64_in _ ⟨by omega, by omega⟩]
  exact ⟨rfl, h6⟩
theorem wrap_place (n : Nat) (hn : n ≤ 8) : IntKind.u64.wrap ((128 : Int) ^ n * 128) = 128 ^ (n + 1) := by
  have hp := p128_le (n + 1) (by omega)
  have e1 : (128 : Int) ^ (n + 1) = 128 ^ n * 128 := Int.pow_succ ..
  rw [IntWalk.u64_in _ ⟨by omega, by omega⟩, e1]

/-- The first i bytes: whole values xs, then the bytes ps of an open one. -/
def Open (zs xs ps : List Int) (i : Nat) : Prop := Words xs ∧ Prom ps ∧ Bytes ps ∧ ps.length ≤ 9 ∧ zs = flat xs ++ (ps ++ zs.drop i) ∧ (flat xs).length + ps.length = i
theorem open_start (zs : List Int) : Open zs [] [] 0 := ⟨Words.nil, Prom.nil, Bytes.nil, by simp, by simp [flat], by simp [flat]⟩
theorem open_over {zs xs ps : List Int} {i : Nat} (h : Open zs xs ps i) (hi : i < zs.length) (h9 : ps.length = 9) (hb : 1 < el zs i) : AllOf zs xs 3 := by
  obtain ⟨h1, h2, h3, h4, h5, h6⟩ := h
  refine ⟨h1, ps ++ zs.drop i, h5, .inr ⟨?_, by omega, ?_⟩⟩
  · intro e; have := congrArg List.length e; simp at this; omega
  · rw [drop_el hi]; exact dec_over' h2 h9 hb _
theorem open_long {zs xs ps : List Int} {i : Nat} (h : Open zs xs ps i) (hi : i < zs.length) (h0 : 0 < ps.length) (hb : el zs i = 0) : AllOf zs xs 2 := by
  obtain ⟨h1, h2, h3, h4, h5, h6⟩ := h
  refine ⟨h1, ps ++ zs.drop i, h5, .inr ⟨?_, by omega, ?_⟩⟩
  · intro e; have := congrArg List.length e; simp at this; omega
  · rw [drop_el hi, hb]; exact dec_long' h2 h4 h0 _
theorem open_end {zs xs ps : List Int} {i : Nat} (h : Open zs xs ps i) (hi : zs.length ≤ i) : (0 < ps.length → AllOf zs xs 1) ∧ (ps.length = 0 → AllOf zs xs 0) := by
  obtain ⟨h1, h2, h3, h4, h5, h6⟩ := h
  rw [List.drop_eq_nil_of_le hi, List.append_nil] at h5
  refine ⟨fun h0 => ⟨h1, ps, h5, .inr ⟨?_, by omega, dec_trunc h2 h4⟩⟩, fun h0 => ⟨h1, [], ?_, .inl ⟨rfl, rfl⟩⟩⟩
  · intro e; rw [e] at h0; simp at h0
  · rw [List.eq_nil_of_length_eq_zero h0] at h5; exact h5
theorem open_more {zs xs ps : List Int} {i : Nat} (h : Open zs xs ps i) (hz : Bytes zs) (hi : i < zs.length) (h8 : ps.length ≤ 8) (hb : 128 ≤ el zs i) : Open zs xs (ps ++ [el zs i]) (i + 1) := by
  obtain ⟨h1, h2, h3, h4, h5, h6⟩ := h
  have hbb := hz.el i
  refine ⟨h1, h2.snoc hb, h3.append (Bytes.one hbb.1 hbb.2), by simp; omega, ?_, by simp; omega⟩
  rw [drop_el hi] at h5
  rw [List.append_assoc]; exact h5
theorem open_last {zs xs ps : List Int} {i : Nat} (h : Open zs xs ps i) (hz : Bytes zs) (hi : i < zs.length) (hb : el zs i < 128) (h9 : ps.length = 9 → el zs i ≤ 1) (h0 : el zs i = 0 → ps.length = 0) :
    Open zs (xs ++ [val (ps ++ [el zs i])]) [] (i + 1) ∧ (flat (xs ++ [val (ps ++ [el zs i])])).length = i + 1 := by
  obtain ⟨h1, h2, h3, h4, h5, h6⟩ := h
  have hbb := hz.el i
  have hbd := val_bound (ps := ps) h4 hbb.1 hb h9
  have hE : E (val (ps ++ [el zs i])) = ps ++ [el zs i] := by
    by_cases hz' : el zs i = 0
    · have : ps = [] := List.eq_nil_of_length_eq_zero (h0 hz')
      subst this
      rw [List.nil_append, val_one hbb.1 hb, E_small hb]
    · exact (E_only (by omega) hb ps h2 h3 hbd).1
  have hl : (flat (xs ++ [val (ps ++ [el zs i])])).length = i + 1 := by
    rw [flat_snoc, hE, List.length_append, List.length_append, List.length_singleton]; omega
  refine ⟨⟨h1.append (Words.one (val_nonneg _) hbd), Prom.nil, Bytes.nil, by simp, ?_, by rw [hl]; simp⟩, hl⟩
  rw [drop_el hi] at h5
  rw [flat_snoc, hE, List.nil_append, List.append_assoc, List.append_assoc]; exact h5
end Go.Proofs.Ymbrck
