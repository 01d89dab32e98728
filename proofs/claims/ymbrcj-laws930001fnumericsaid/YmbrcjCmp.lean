/-
  Compare, its restatement and 'the same bytes': the plain order 'cmp' and the contracts.
-/
import Derived.Test.YmbrcjVal
namespace Go.Proofs.Ymbrcj
open Go.RowKit

/-- The first n bytes, the last difference decides. -/
def cmpN (a b : List Int) : Nat → Int
  | 0 => 0
  | n + 1 => if el a n < el b n then -1 else if el b n < el a n then 1 else cmpN a b n
def cmp (a b : List Int) : Int := if a.length < b.length then -1 else if b.length < a.length then 1 else cmpN a b a.length
theorem cmpN_lt {a b : List Int} {n : Nat} (h : el a n < el b n) : cmpN a b (n + 1) = -1 := by simp [cmpN, h]
theorem cmpN_gt {a b : List Int} {n : Nat} (h : el b n < el a n) : cmpN a b (n + 1) = 1 := by
  rw [cmpN, if_neg (by omega), if_pos h]
theorem cmpN_eq {a b : List Int} {n : Nat} (h : el a n = el b n) : cmpN a b (n + 1) = cmpN a b n := by
  rw [cmpN, if_neg (by omega), if_neg (by omega)]
theorem cmpN_range (a b : List Int) : ∀ n, -1 ≤ cmpN a b n ∧ cmpN a b n ≤ 1
  | 0 => by simp [cmpN]
  | n + 1 => by have := cmpN_range a b n; rw [cmpN]; split
                · omega
                · split <;> omega
theorem cmpN_zero (a b : List Int) : ∀ n, cmpN a b n = 0 ↔ ∀ j, j < n → el a j = el b j
  | 0 => by simp [cmpN]
  | n + 1 => by
    have ih := cmpN_zero a b n
    rcases Int.lt_trichotomy (el a n) (el b n) with h | h | h
    · rw [cmpN_lt h]
      exact ⟨fun h' => by omega, fun h' => by have := h' n (by omega); omega⟩
    · rw [cmpN_eq h, ih]
      refine ⟨fun h' j hj => ?_, fun h' j hj => h' j (by omega)⟩
      by_cases e : j = n
      · rw [e]; exact h
      · exact h' j (by omega)
    · rw [cmpN_gt h]
      exact ⟨fun h' => by omega, fun h' => by have := h' n (by omega); omega⟩
theorem cmpN_neg (a b : List Int) : ∀ n, cmpN b a n = -cmpN a b n
  | 0 => by simp [cmpN]
  | n + 1 => by
    have ih := cmpN_neg a b n
    rcases Int.lt_trichotomy (el a n) (el b n) with h | h | h
    · rw [cmpN_lt h, cmpN_gt h]; rfl
    · rw [cmpN_eq h, cmpN_eq h.symm, ih]
    · rw [cmpN_gt h, cmpN_lt h]
theorem cmpN_trans (a b c : List Int) : ∀ n, cmpN a b n ≤ 0 → cmpN b c n ≤ 0 → cmpN a c n ≤ 0 ∧ (cmpN a c n = 0 ↔ cmpN a b n = 0 ∧ cmpN b c n = 0)
  | 0 => by simp [cmpN]
  | n + 1 => by
    have ih := cmpN_trans a b c n
    have r1 := cmpN_range a b n
    have r2 := cmpN_range b c n
    rcases Int.lt_trichotomy (el a n) (el b n) with h | h | h <;> rcases Int.lt_trichotomy (el b n) (el c n) with h' | h' | h'
    · rw [cmpN_lt h, cmpN_lt h', cmpN_lt (by omega)]; omega
    · rw [cmpN_lt h, cmpN_eq h', cmpN_lt (by omega)]; omega
    · rw [cmpN_gt h']; omega
    · rw [cmpN_eq h, cmpN_lt h', cmpN_lt (by omega)]; omega
    · rw [cmpN_eq h, cmpN_eq h', cmpN_eq (by omega)]; exact ih
    · rw [cmpN_gt h']; omega
    · rw [cmpN_gt h]; omega
    · rw [cmpN_gt h]; omega
    · rw [cmpN_gt h]; omega
theorem cmp_range (a b : List Int) : -1 ≤ cmp a b ∧ cmp a b ≤ 1 := by
  have := cmpN_range a b a.length
  unfold cmp; split
  · omega
  · split <;> omega
theorem cmp_zero (a b : List Int) : cmp a b = 0 ↔ a = b := by
  unfold cmp
  refine ⟨fun h => ?_, fun h => ?_⟩
  · split at h
    · omega
    · split at h
      · omega
      · exact list_ext (by omega) ((cmpN_zero a b a.length).1 h)
  · subst h
    simp only [Nat.lt_irrefl, if_false]
    exact (cmpN_zero a a a.length).2 fun _ _ => rfl
theorem cmp_neg (a b : List Int) : cmp b a = -cmp a b := by
  unfold cmp
  rcases Nat.lt_trichotomy a.length b.length with h | h | h
  · rw [if_neg (by omega), if_pos h, if_pos h]; rfl
  · rw [if_neg (by omega), if_neg (by omega), if_neg (by omega), if_neg (by omega), ← h]; exact cmpN_neg a b _
  · rw [if_pos h, if_neg (by omega), if_pos h]
theorem cmp_nil (a : List Int) : cmp [] a ≤ 0 := by
  unfold cmp
  split
  · omega
  · rw [if_neg (by simp)]; simp [cmpN]
theorem cmp_trans (a b c : List Int) (h1 : cmp a b ≤ 0) (h2 : cmp b c ≤ 0) : cmp a c ≤ 0 ∧ (cmp a c = 0 ↔ cmp a b = 0 ∧ cmp b c = 0) := by
  have ht := cmpN_trans a b c a.length
  have r1 := cmpN_range a b a.length
  have r2 := cmpN_range b c b.length
  unfold cmp at *
  rcases Nat.lt_trichotomy a.length b.length with h | h | h <;> rcases Nat.lt_trichotomy b.length c.length with h' | h' | h'
  · simp only [h, h', show a.length < c.length by omega, if_true]; omega
  · rw [← h'] at *
    simp only [h, if_true]; omega
  · rw [if_neg (by omega), if_pos h'] at h2; omega
  · rw [h] at *
    simp only [h', if_true]; omega
  · rw [if_neg (by omega), if_neg (by omega)] at h1 h2
    rw [if_neg (by omega), if_neg (by omega), if_neg (by omega), if_neg (by omega), if_neg (by omega), if_neg (by omega), ← h]
    rw [← h] at h2
    exact ht h1 h2
  · rw [if_neg (by omega), if_pos h'] at h2; omega
  · rw [if_neg (by omega), if_pos h] at h1; omega
  · rw [if_neg (by omega), if_pos h] at h1; omega
  · rw [if_neg (by omega), if_pos h] at h1; omega
theorem cmp_len_lt {a b : List Int} (h : a.length < b.length) : cmp a b = -1 := if_pos h
theorem cmp_len_gt {a b : List Int} (h : b.length < a.length) : cmp a b = 1 := by rw [cmp, if_neg (by omega), if_pos h]
theorem cmp_len_eq {a b : List Int} (h : a.length = b.length) : cmp a b = cmpN a b a.length := by rw [cmp, if_neg (by omega), if_neg (by omega)]

/-! ### Compare -/
set_option maxHeartbeats 1000000 in
theorem compare_any (a b : Option Addr) (la lb ca cb : Nat) (xs ys : List Int) (w : World) (hx : xs.length = la) (hy : ys.length = lb) (ma : la ≤ 9223372036854775807) (mb : lb ≤ 9223372036854775807) (sx : Sl .u8 w a xs) (sy : Sl .u8 w b ys) :
    Calls Ycjm.prog 17 #[.slice a la ca, .slice b lb cb] w fun e w' => e = .returned (.int .i64 (cmp xs ys)) ∧ ∃ n, w' = w.drewN n := by
  have SX : Hid (Sl .u8 w a xs) := sx
  have SY : Hid (Sl .u8 w b ys) := sy
  have HX : Hid (xs.length = la) := hx
  have HY : Hid (ys.length = lb) := hy
  clear sx sy hx hy
  by_cases h1 : la < lb
  · go_enter Ycjm.func17, Ycjm.ntmps17
    go_wp2
    go_ret
    exact ⟨ret_int (cmp_len_lt (by rw [HX.out, HY.out]; exact h1)).symm, 0, rfl⟩
  by_cases h2 : lb < la
  · go_enter Ycjm.func17, Ycjm.ntmps17
    go_wp2
    go_ret
    exact ⟨ret_int (cmp_len_gt (by rw [HX.out, HY.out]; exact h2)).symm, 0, rfl⟩
  obtain rfl : la = lb := by omega
  clear h1 h2
  have HE : Hid (cmp xs ys = cmpN xs ys la) := by show _ = _; rw [cmp_len_eq (by rw [HX.out, HY.out]), HX.out]
  go_enter Ycjm.func17, Ycjm.ntmps17
  go_wp2
  go_loopw [5] (fun i wr => ∃ (m n : Nat), i = .int .i64 ((m : Int) - 1) ∧ m ≤ la ∧ wr = w.drewN n ∧ cmpN xs ys la = cmpN xs ys m) (fun i _ => (intOf i + 1).toNat)
  case atStart => exact ⟨la, 0, by go_num, by omega, rfl, rfl⟩
  case round =>
    obtain ⟨m, n, rfl, hm, hw, hc⟩ := hrel
    subst hw
    have HC : Hid (cmpN xs ys la = cmpN xs ys m) := hc
    clear hc
    by_cases h0 : 0 < m
    · obtain ⟨q, rfl⟩ : ∃ q, m = q + 1 := ⟨m - 1, by omega⟩
      obtain ⟨ba, oa, ea, _, hca⟩ := SX.out.at (n := q) (by rw [HX.out]; omega)
      obtain ⟨bb, ob, eb, _, hcb⟩ := SY.out.at (n := q) (by rw [HY.out]; omega)
      subst ea
      subst eb
      have c1 : w.cell? ⟨ba, oa + q, none⟩ = some (.int .u8 (el xs q)) := hca q (by rw [HX.out]; omega)
      have c2 : w.cell? ⟨bb, ob + q, none⟩ = some (.int .u8 (el ys q)) := hcb q (by rw [HY.out]; omega)
      have hql : q < la := by omega
      clear hca hcb
      rcases Int.lt_trichotomy (el xs q) (el ys q) with h | h | h
      · go_wp2
        go_quiet (fail)
        go_wp2
        go_ret
        exact ⟨ret_int (by rw [HE.out, HC.out, cmpN_lt h]), n + nq, by simp⟩
      · have d1 : ¬ el xs q < el ys q := by omega
        have d2 : ¬ el ys q < el xs q := by omega
        have HQ : Hid (el xs q = el ys q) := h
        clear h
        go_wp2
        go_quiet (fail)
        go_wp2
        go_quiet (fail)
        go_wp2
        go_roundw
        case rel => exact ⟨q, _, by go_num, by omega, rfl, by rw [HC.out, cmpN_eq HQ.out]⟩
        case measure => simp [intOf]
      · have d1 : ¬ el xs q < el ys q := by omega
        go_wp2
        go_quiet (fail)
        go_wp2
        go_quiet (fail)
        go_wp2
        go_ret
        exact ⟨ret_int (by rw [HE.out, HC.out, cmpN_gt h]), _, by simp; rfl⟩
    · obtain rfl : m = 0 := by omega
      go_wp2
      go_ret
      exact ⟨ret_int (by rw [HE.out, HC.out]; rfl), n, rfl⟩

/-! ### its restatement -/
set_option maxHeartbeats 1000000 in
theorem fexpect_any (a b : Option Addr) (la lb ca cb : Nat) (xs ys : List Int) (w : World) (hx : xs.length = la) (hy : ys.length = lb) (ma : la ≤ 9223372036854775807) (mb : lb ≤ 9223372036854775807) (sx : Sl .u8 w a xs) (sy : Sl .u8 w b ys) :
    Calls Ycjm.prog 18 #[.slice a la ca, .slice b lb cb] w fun e w' => e = .returned (.int .i64 (cmp xs ys)) ∧ ∃ n, w' = w.drewN n := by
  have SX : Hid (Sl .u8 w a xs) := sx
  have SY : Hid (Sl .u8 w b ys) := sy
  have HX : Hid (xs.length = la) := hx
  have HY : Hid (ys.length = lb) := hy
  clear sx sy hx hy
  by_cases h1 : la < lb
  · go_enter Ycjm.func18, Ycjm.ntmps18
    go_wp2
    go_ret
    exact ⟨ret_int (cmp_len_lt (by rw [HX.out, HY.out]; exact h1)).symm, 0, rfl⟩
  by_cases h2 : lb < la
  · go_enter Ycjm.func18, Ycjm.ntmps18
    go_wp2
    go_ret
    exact ⟨ret_int (cmp_len_gt (by rw [HX.out, HY.out]; exact h2)).symm, 0, rfl⟩
  obtain rfl : la = lb := by omega
  clear h1 h2
  have HE : Hid (cmp xs ys = cmpN xs ys la) := by show _ = _; rw [cmp_len_eq (by rw [HX.out, HY.out]), HX.out]
  go_enter Ycjm.func18, Ycjm.ntmps18
  go_wp2
  go_loopw [5, 6] (fun r i wr => ∃ (m n : Nat), i = .int .i64 m ∧ m ≤ la ∧ wr = w.drewN n ∧ r = .int .i64 (cmpN xs ys m)) (fun _ i _ => la - (intOf i).toNat)
  case atStart => exact ⟨0, 0, rfl, by omega, rfl, rfl⟩
  case round =>
    obtain ⟨q, n, rfl, hm, hw, rfl⟩ := hrel
    subst hw
    by_cases h0 : q < la
    · obtain ⟨ba, oa, ea, _, hca⟩ := SX.out.at (n := q) (by rw [HX.out]; omega)
      obtain ⟨bb, ob, eb, _, hcb⟩ := SY.out.at (n := q) (by rw [HY.out]; omega)
      subst ea
      subst eb
      have c1 : w.cell? ⟨ba, oa + q, none⟩ = some (.int .u8 (el xs q)) := hca q (by rw [HX.out]; omega)
      have c2 : w.cell? ⟨bb, ob + q, none⟩ = some (.int .u8 (el ys q)) := hcb q (by rw [HY.out]; omega)
      clear hca hcb
      rcases Int.lt_trichotomy (el xs q) (el ys q) with h | h | h
      · have d0 : (el xs q != el ys q) = true := by simp; omega
        go_wp2
        go_quiet (fail)
        go_wp2
        go_quiet (fail)
        go_wp2
        go_roundw
        case rel => exact ⟨q + 1, _, by go_num, by omega, rfl, by rw [cmpN_lt h]⟩
        case measure => simp [intOf]; omega
      · have d0 : (el xs q != el ys q) = false := by simp; omega
        have HQ : Hid (el xs q = el ys q) := h
        clear h
        go_wp2
        go_quiet (fail)
        go_wp2
        go_roundw
        case rel => exact ⟨q + 1, _, by go_num, by omega, rfl, by rw [cmpN_eq HQ.out]⟩
        case measure => simp [intOf]; omega
      · have d0 : (el xs q != el ys q) = true := by simp; omega
        have d1 : ¬ el xs q < el ys q := by omega
        go_wp2
        go_quiet (fail)
        go_wp2
        go_quiet (fail)
        go_wp2
        go_roundw
        case rel => exact ⟨q + 1, _, by go_num, by omega, rfl, by rw [cmpN_gt h]⟩
        case measure => simp [intOf]; omega
    · obtain rfl : q = la := by omega
      go_wp2
      go_ret
      exact ⟨ret_int (by rw [HE.out]), n, rfl⟩

/-! ### the same bytes -/
def sameB (xs ys : List Int) : Bool := decide (xs = ys)
theorem sameB_false {xs ys : List Int} (h : xs ≠ ys) : sameB xs ys = false := decide_eq_false h
theorem sameB_true {xs ys : List Int} (h : xs = ys) : sameB xs ys = true := decide_eq_true h
set_option maxHeartbeats 1000000 in
theorem fsame_any (a b : Option Addr) (la lb ca cb : Nat) (xs ys : List Int) (w : World) (hx : xs.length = la) (hy : ys.length = lb) (ma : la ≤ 9223372036854775807) (mb : lb ≤ 9223372036854775807) (sx : Sl .u8 w a xs) (sy : Sl .u8 w b ys) :
    Calls Ycjm.prog 19 #[.slice a la ca, .slice b lb cb] w fun e w' => e = .returned (.bool (sameB xs ys)) ∧ ∃ n, w' = w.drewN n := by
  have SX : Hid (Sl .u8 w a xs) := sx
  have SY : Hid (Sl .u8 w b ys) := sy
  have HX : Hid (xs.length = la) := hx
  have HY : Hid (ys.length = lb) := hy
  clear sx sy hx hy
  by_cases h1 : la = lb
  · subst h1
    go_enter Ycjm.func19, Ycjm.ntmps19
    go_wp2
    go_loopw [5] (fun i wr => ∃ (m n : Nat), i = .int .i64 m ∧ m ≤ la ∧ wr = w.drewN n ∧ ∀ j, j < m → el xs j = el ys j) (fun i _ => la - (intOf i).toNat)
    case atStart => exact ⟨0, 0, rfl, by omega, rfl, fun j hj => by omega⟩
    case round =>
      obtain ⟨q, n, rfl, hm, hw, hj⟩ := hrel
      subst hw
      have HJ : Hid (∀ j, j < q → el xs j = el ys j) := hj
      clear hj
      by_cases h0 : q < la
      · obtain ⟨ba, oa, ea, _, hca⟩ := SX.out.at (n := q) (by rw [HX.out]; omega)
        obtain ⟨bb, ob, eb, _, hcb⟩ := SY.out.at (n := q) (by rw [HY.out]; omega)
        subst ea
        subst eb
        have c1 : w.cell? ⟨ba, oa + q, none⟩ = some (.int .u8 (el xs q)) := hca q (by rw [HX.out]; omega)
        have c2 : w.cell? ⟨bb, ob + q, none⟩ = some (.int .u8 (el ys q)) := hcb q (by rw [HY.out]; omega)
        clear hca hcb
        by_cases h : el xs q = el ys q
        · have d0 : (el xs q != el ys q) = false := by simp; omega
          have HQ : Hid (el xs q = el ys q) := h
          clear h
          go_wp2
          go_quiet (fail)
          go_wp2
          go_roundw
          case rel =>
            refine ⟨q + 1, _, by go_num, by omega, rfl, fun j hj => ?_⟩
            by_cases e : j = q
            · rw [e]; exact HQ.out
            · exact HJ.out j (by omega)
          case measure => simp [intOf]; omega
        · have d0 : (el xs q != el ys q) = true := by simpa using h
          go_wp2
          go_quiet (fail)
          go_wp2
          go_ret
          exact ⟨ret_bool (sameB_false (fun e => h (by rw [e]))).symm, _, by simp; rfl⟩
      · obtain rfl : q = la := by omega
        go_wp2
        go_ret
        exact ⟨ret_bool (sameB_true (list_ext (by rw [HX.out, HY.out]) (by rw [HX.out]; exact HJ.out))).symm, n, rfl⟩
  · have d0 : ((la : Int) != (lb : Int)) = true := by simp; omega
    go_enter Ycjm.func19, Ycjm.ntmps19
    go_wp2
    go_ret
    exact ⟨ret_bool (sameB_false (fun e => h1 (by rw [← HX.out, ← HY.out, e]))).symm, 0, rfl⟩
end Go.Proofs.Ymbrcj
