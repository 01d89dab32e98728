/-
  DecodeAll: what it answers ('AllOf'), that only one answer fits, and the contract.
-/
import Derived.Test.YmbrckVal
import Derived.Test.YmbrckOwn
namespace Go.Proofs.Ymbrck
open Go.RowKit

/-! ### only one form -/
theorem E_only {b : Int} (hb0 : 0 < b) (hb : b < 128) : ∀ ps : List Int, Prom ps → Bytes ps → val (ps ++ [b]) ≤ 18446744073709551615 → E (val (ps ++ [b])) = ps ++ [b] ∧ 1 ≤ val (ps ++ [b])
  | [], _, _, _ => by
    rw [List.nil_append, val_one (by omega) hb, E_small hb]
    exact ⟨rfl, by omega⟩
  | p :: ps, hp, hy, hv => by
    rw [List.cons_append, val_cons] at hv ⊢
    have hn := val_nonneg (ps ++ [b])
    obtain ⟨e1, e2⟩ := E_only hb0 hb ps (fun x hx => hp x (by simp [hx])) (fun x hx => hy x (by simp [hx])) (by omega)
    have h1 := hp p (by simp)
    have h2 := hy p (by simp)
    have e3 : (p % 128 + 128 * val (ps ++ [b])) / 128 = val (ps ++ [b]) := by omega
    have e4 : (p % 128 + 128 * val (ps ++ [b])) % 128 + 128 = p := by omega
    rw [E_big (by omega) hv, e3, e4, e1]
    exact ⟨rfl, by omega⟩
theorem dec_canon {zs : List Int} (hz : Bytes zs) (h : dc zs = 0) : 0 ≤ dv zs ∧ dv zs ≤ 18446744073709551615 ∧ dn zs = ((E (dv zs)).length : Int) ∧ ∃ t, zs = E (dv zs) ++ t := by
  rcases dec_cases zs hz with ⟨ps, _, _, _, hd⟩ | ⟨ps, b, t, _, _, _, _, hd⟩ | ⟨ps, t, _, _, _, _, hd⟩ | ⟨ps, b, t, he, hp, hl, hb0, hb, h9, h0, hd⟩
  · have := (dvs hd).2.2; omega
  · have := (dvs hd).2.2; omega
  · have := (dvs hd).2.2; omega
  · obtain ⟨e1, e2, _⟩ := dvs hd
    have hbd := val_bound (ps := ps) hl hb0 hb h9
    have hE : E (val (ps ++ [b])) = ps ++ [b] := by
      by_cases hz' : b = 0
      · have : ps = [] := List.eq_nil_of_length_eq_zero (h0 hz')
        subst this
        rw [List.nil_append, val_one hb0 hb, E_small hb]
      · exact (E_only (by omega) hb ps hp (fun x hx => hz x (by rw [he]; simp [hx])) hbd).1
    rw [e1, e2, hE]
    exact ⟨val_nonneg _, hbd, by simp, t, by rw [he]; simp⟩
theorem dec_fail {zs : List Int} (hz : Bytes zs) (h : dc zs ≠ 0) : dec zs 0 0 = (0, 0, dc zs) ∧ 1 ≤ dc zs ∧ dc zs ≤ 3 := by
  rcases dec_cases zs hz with ⟨ps, _, _, _, hd⟩ | ⟨ps, b, t, _, _, _, _, hd⟩ | ⟨ps, t, _, _, _, _, hd⟩ | ⟨ps, b, t, he, hp, hl, hb0, hb, h9, h0, hd⟩
  · have := (dvs hd).2.2; rw [this]; exact ⟨hd, by omega, by omega⟩
  · have := (dvs hd).2.2; rw [this]; exact ⟨hd, by omega, by omega⟩
  · have := (dvs hd).2.2; rw [this]; exact ⟨hd, by omega, by omega⟩
  · exact absurd (dvs hd).2.2 h

/-! ### a list of values, one behind the other -/
def flat (xs : List Int) : List Int := xs.flatMap E
theorem flat_nil : flat [] = [] := rfl
theorem flat_cons (x : Int) (xs : List Int) : flat (x :: xs) = E x ++ flat xs := by simp [flat]
theorem flat_append (xs ys : List Int) : flat (xs ++ ys) = flat xs ++ flat ys := by simp [flat]
theorem flat_snoc (xs : List Int) (x : Int) : flat (xs ++ [x]) = flat xs ++ E x := by simp [flat]
theorem flat_len : ∀ xs : List Int, xs.length ≤ (flat xs).length ∧ (flat xs).length ≤ 10 * xs.length
  | [] => by simp [flat]
  | x :: xs => by
    have h1 := flat_len xs
    have h2 := E_len x
    rw [flat_cons, List.length_append, List.length_cons]; omega
theorem flat_bytes {xs : List Int} (h : Words xs) : Bytes (flat xs) := by
  intro y hy
  obtain ⟨x, hx, hy'⟩ := List.mem_flatMap.1 hy
  exact E_bytes (h x hx).1 (h x hx).2 y hy'
/-- The values xs are read from zs, then the end (code 0) or a fault. -/
def AllOf (zs xs : List Int) (code : Int) : Prop := Words xs ∧ ∃ r, zs = flat xs ++ r ∧ ((r = [] ∧ code = 0) ∨ (r ≠ [] ∧ code ≠ 0 ∧ dec r 0 0 = (0, 0, code)))
theorem allOf_one : ∀ (xs : List Int) {zs ys : List Int} {c c' : Int}, AllOf zs xs c → AllOf zs ys c' → xs = ys ∧ c = c'
  | [], zs, ys, c, c', ⟨_, r, h1, h2⟩, ⟨k0, s, k1, k2⟩ => by
    rw [flat_nil, List.nil_append] at h1
    subst h1
    match ys with
    | [] =>
      rw [flat_nil, List.nil_append] at k1
      subst k1
      refine ⟨rfl, ?_⟩
      rcases h2 with ⟨a, rfl⟩ | ⟨a, _, b⟩ <;> rcases k2 with ⟨a', rfl⟩ | ⟨a', _, b'⟩
      · rfl
      · exact absurd a a'
      · exact absurd a' a
      · rw [b] at b'; simp at b'; exact b'
    | y :: ys =>
      exfalso
      rw [flat_cons, List.append_assoc] at k1
      have hy := k0 y (by simp)
      have hd := dec_E hy.1 hy.2 (flat ys ++ s)
      rw [← k1] at hd
      rcases h2 with ⟨a, _⟩ | ⟨_, hc, b⟩
      · rw [a] at k1
        have := congrArg List.length k1
        have h3 := E_len y
        simp at this; omega
      · rw [hd] at b; simp at b; exact hc b.2.2.symm
  | x :: xs, zs, ys, c, c', ⟨h0, r, h1, h2⟩, ⟨k0, s, k1, k2⟩ => by
    have hx := h0 x (by simp)
    rw [flat_cons, List.append_assoc] at h1
    have hd := dec_E hx.1 hx.2 (flat xs ++ r)
    rw [← h1] at hd
    match ys with
    | [] =>
      exfalso
      rw [flat_nil, List.nil_append] at k1
      subst k1
      rcases k2 with ⟨a, _⟩ | ⟨_, hc, b⟩
      · rw [a] at h1
        have := congrArg List.length h1
        have h3 := E_len x
        simp at this; omega
      · rw [hd] at b; simp at b; exact hc b.2.2.symm
    | y :: ys =>
      have hy := k0 y (by simp)
      rw [flat_cons, List.append_assoc] at k1
      have hd' := dec_E hy.1 hy.2 (flat ys ++ s)
      rw [← k1, hd] at hd'
      simp at hd'
      obtain ⟨rfl, _⟩ := hd'
      have htail : flat xs ++ r = flat ys ++ s := List.append_cancel_left (h1.symm.trans k1)
      obtain ⟨e1, e2⟩ := allOf_one xs (zs := flat xs ++ r) (ys := ys) (c := c) (c' := c') ⟨fun a ha => h0 a (by simp [ha]), r, rfl, h2⟩ ⟨fun a ha => k0 a (by simp [ha]), s, htail, k2⟩
      exact ⟨by rw [e1], e2⟩

/-! ### the contract -/
theorem tup3 {v : Value} {a b c : Int} (h : a = b) : Ending.returned (.tuple #[v, .int .i64 a, .int .i64 c]) = .returned (.tuple #[v, .int .i64 b, .int .i64 c]) := by rw [h]
set_option maxHeartbeats 1000000 in
theorem decodeAll_any (a : Option Addr) (len cap : Nat) (zs : List Int) (w : World) (hl : zs.length = len) (hm : len ≤ 1000000000000) (hc : len ≤ cap) (hz : Bytes zs) (hs : Sl .u8 w a zs) :
    Calls Yckm.prog 12 #[.slice a len cap] w fun e w' => ∃ v xs code, e = .returned (.tuple #[v, .int .i64 ((flat xs).length : Nat), .int .i64 code]) ∧ AllOf zs xs code ∧ (flat xs).length ≤ len ∧ 0 ≤ code ∧ code ≤ 3 ∧ Owns .u64 22 w.heap.size w' v xs ∧ Below w.heap.size w w' := by
  have HS : Hid (Sl .u8 w a zs) := hs
  have HL : Hid (zs.length = len) := hl
  have HZ : Hid (Bytes zs) := hz
  have H0 : Hid (∀ g, (Value.slice none 0 0).ownBlock = some g → g < w.heap.size) := fun g hg => by simp [Value.ownBlock] at hg
  clear hs hl hz
  go_enter Yckm.func12, Yckm.ntmps12
  go_wp2
  go_loopw [5, 6] (fun d p wr => ∃ (xs : List Int) (q : Nat), p = .int .i64 q ∧ q ≤ len ∧ q = (flat xs).length ∧ Words xs ∧ zs = flat xs ++ zs.drop q ∧ Ap .u64 22 w.heap.size w (.slice none 0 0) [] wr d xs) (fun _ p _ => len - (intOf p).toNat)
  case atStart => exact ⟨[], 0, rfl, by omega, rfl, Words.nil, by simp [flat], Ap.start (Owns.nil _ _ _ _)⟩
  case round =>
    obtain ⟨xs, q, rfl, hq, hqf, hw, hzs, hap⟩ := hrel
    have HA : Hid (Ap .u64 22 w.heap.size w (.slice none 0 0) [] wr _ xs) := hap
    have HW : Hid (Words xs) := hw
    have HF : Hid (q = (flat xs).length) := hqf
    have HZS : Hid (zs = flat xs ++ zs.drop q) := hzs
    have hsz : w.heap.size ≤ wr.heap.size := hap.size
    have hxl : xs.length ≤ len := by have := (flat_len xs).1; omega
    clear hap hw hqf hzs
    by_cases hlt : q < len
    · have s0 := run_suf Yckm.underlying29 size8 a len cap q (by omega)
      have HD : Hid ((zs.drop q).length = len - q) := by show _ = _; rw [List.length_drop, HL.out]
      have SD : Hid (Sl .u8 wr (cutAddr a q cap) (zs.drop q)) := (HS.out.later HA.out.belowNil (Nat.le_refl _)).cut (by rw [HL.out]; exact hc)
      have BD : Hid (Bytes (zs.drop q)) := HZ.out.drop q
      by_cases hcode : dc (zs.drop q) = 0
      · obtain ⟨v0, v1, hn, t, ht⟩ := dec_canon BD.out hcode
        have hEl := E_len (dv (zs.drop q))
        have hle : q + (E (dv (zs.drop q))).length ≤ len := by
          have e1 := congrArg List.length ht
          rw [HD.out, List.length_append] at e1
          omega
        have HT : Hid (zs.drop q = E (dv (zs.drop q)) ++ t) := ht
        have HN : Hid (dn (zs.drop q) = ((E (dv (zs.drop q))).length : Int)) := hn
        have HC : Hid (dc (zs.drop q) = 0) := hcode
        clear ht hn hcode
        go_wp2_with fail
        refine (decode_any (cutAddr a q cap) (len - q) (cap - q) (zs.drop q) wr HD.out (by omega) BD.out SD.out).mono ?_
        rintro e w1 ⟨rfl, rfl⟩
        rw [HN.out, HC.out]
        go_wp2_with (at_builtin; refine ap64 _ rfl (.tmp 27) (.tmp 29) rfl rfl (HA.out.owns.alloc _) ?c1 _ _ _ [dv (zs.drop q)] rfl rfl (sl_one _ _ _ _) ?c2 ?c3)
        case c1 => first | omega | (simp; omega)
        case c2 => first | omega | (simp; omega)
        case c3 =>
        intro v' w2 hap
        have HB : Hid (Ap .u64 22 w.heap.size w (.slice none 0 0) [] w2 v' (xs ++ [dv (zs.drop q)])) := (HA.out.alloc _ H0.out).trans hap H0.out
        clear hap
        go_wp2
        go_roundw
        case rel =>
          refine ⟨xs ++ [dv (zs.drop q)], q + (E (dv (zs.drop q))).length, by go_num, hle, by rw [flat_snoc, List.length_append, ← HF.out], HW.out.append (Words.one v0 v1), ?_, HB.out⟩
          rw [flat_snoc, List.append_assoc]
          have e1 : zs.drop (q + (E (dv (zs.drop q))).length) = t := by
            rw [← List.drop_drop]
            generalize hy : dv (zs.drop q) = y
            have h2 := HT.out
            rw [hy] at h2
            rw [h2, List.drop_left]
          rw [e1, ← HT.out]
          exact HZS.out
        case measure => simp [intOf]; omega
      · have hcb : (dc (zs.drop q) != 0) = true := by simpa using hcode
        obtain ⟨hdf, h1, h3⟩ := dec_fail BD.out hcode
        have HDF : Hid (dec (zs.drop q) 0 0 = (0, 0, dc (zs.drop q))) := hdf
        have HC : Hid (dc (zs.drop q) ≠ 0) := hcode
        clear hdf hcode
        go_wp2_with fail
        refine (decode_any (cutAddr a q cap) (len - q) (cap - q) (zs.drop q) wr HD.out (by omega) BD.out SD.out).mono ?_
        rintro e w1 ⟨rfl, rfl⟩
        go_wp2
        go_ret3
        refine ⟨_, xs, dc (zs.drop q), tup3 (congrArg Nat.cast HF.out), ⟨HW.out, zs.drop q, HZS.out, .inr ⟨fun e => ?_, HC.out, HDF.out⟩⟩, by rw [← HF.out]; exact hq, by omega, by omega, HA.out.ownsNew, HA.out.belowNil⟩
        have := congrArg List.length e
        rw [HD.out] at this
        simp at this; omega
    · go_wp2
      go_ret3
      refine ⟨_, xs, 0, tup3 (congrArg Nat.cast HF.out), ⟨HW.out, zs.drop q, HZS.out, .inl ⟨List.drop_eq_nil_of_le (by rw [HL.out]; omega), rfl⟩⟩, by rw [← HF.out]; exact hq, by omega, by omega, HA.out.ownsNew, HA.out.belowNil⟩
end Go.Proofs.Ymbrck
