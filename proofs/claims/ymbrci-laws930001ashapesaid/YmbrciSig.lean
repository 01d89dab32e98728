/-
  Unzigzag, DecodeSigned and its restatement zzs930001aspec: the contracts.
-/
import Derived.Test.YmbrciVal
import Derived.Laws.DeepNot64
namespace Go.Proofs.Ymbrci
open Go.RowKit

def unz (u : Int) : Int := if u % 2 = 0 then u / 2 else -(u / 2) - 1
theorem unz_even {u : Int} (h : u % 2 = 0) : unz u = u / 2 := if_pos h
theorem unz_odd {u : Int} (h : u % 2 = 1) : unz u = -(u / 2) - 1 := if_neg (by omega)
theorem xor_zero {a : Int} (h0 : 0 ≤ a) (h1 : a ≤ 9223372036854775807) : bits .xor .i64 a 0 = a := by
  obtain ⟨n, rfl⟩ := Int.eq_ofNat_of_zero_le h0
  have hb : (BitVec.ofInt 64 (n : Int)).toNat = n := by
    rw [BitVec.ofInt_natCast, BitVec.toNat_ofNat]; exact Nat.mod_eq_of_lt (by omega)
  have hz : BitVec.ofInt 64 0 = 0#64 := by decide
  show IntKind.i64.wrap (((BitVec.ofInt 64 (n : Int)) ^^^ (BitVec.ofInt 64 0)).toNat : Nat) = _
  rw [hz, BitVec.xor_zero, hb, IntKind.wrap_i64]; omega
theorem xor_ones {a : Int} (h0 : 0 ≤ a) (h1 : a ≤ 9223372036854775807) : bits .xor .i64 a (-1) = -a - 1 := by
  obtain ⟨n, rfl⟩ := Int.eq_ofNat_of_zero_le h0
  have h := i64_not n (by omega)
  have hc : bits .xor .i64 (n : Int) (-1) = bits .xor .i64 (-1) (n : Int) := by
    show IntKind.i64.wrap (((BitVec.ofInt 64 (n : Int)) ^^^ (BitVec.ofInt 64 (-1))).toNat : Nat) = IntKind.i64.wrap (((BitVec.ofInt 64 (-1)) ^^^ (BitVec.ofInt 64 (n : Int))).toNat : Nat)
    rw [BitVec.xor_comm]
  rw [hc, h]; omega
set_option maxHeartbeats 1000000 in
theorem unzigzag_any (u : Int) (w : World) (h0 : 0 ≤ u) (h1 : u ≤ 18446744073709551615) :
    Calls Ycim.prog 31 #[.int .u64 u] w fun e w' => e = .returned (.int .i64 (unz u)) ∧ w' = w := by
  have m1 := and_one_u64 u h0 h1
  by_cases hu : u % 2 = 0
  · have m2 : bits .and .u64 u 1 = 0 := by rw [m1, hu]
    have HX : Hid (bits .xor .i64 (u / 2) 0 = u / 2) := xor_zero (by omega) (by omega)
    have HU : Hid (unz u = u / 2) := unz_even hu
    clear m1 hu
    go_enter Ycim.func31, Ycim.ntmps31
    go_wp2
    go_ret
    exact ⟨ret_int (by rw [HU.out]; exact HX.out), rfl⟩
  · have m2 : bits .and .u64 u 1 = 1 := by rw [m1]; omega
    have HX : Hid (bits .xor .i64 (u / 2) (-1) = -(u / 2) - 1) := xor_ones (by omega) (by omega)
    have HU : Hid (unz u = -(u / 2) - 1) := unz_odd (by omega)
    clear m1 hu
    go_enter Ycim.func31, Ycim.ntmps31
    go_wp2
    go_ret
    exact ⟨ret_int (by rw [HU.out]; exact HX.out), rfl⟩

/-! ### DecodeSigned -/
def sv (zs : List Int) : Int := if dc zs = 0 then unz (dv zs) else 0
theorem sv_ok {zs : List Int} (h : dc zs = 0) : sv zs = unz (dv zs) := if_pos h
theorem sv_fail {zs : List Int} (h : dc zs ≠ 0) : sv zs = 0 := if_neg h
theorem dec_bd {zs : List Int} (hz : Bytes zs) : 0 ≤ dv zs ∧ dv zs ≤ 18446744073709551615 ∧ (dc zs ≠ 0 → dn zs = 0) ∧ 0 ≤ dc zs ∧ dc zs ≤ 3 ∧ 0 ≤ dn zs ∧ dn zs ≤ 10 := by
  rcases dec_cases zs hz with ⟨ps, _, _, _, hd⟩ | ⟨ps, b, t, _, _, _, _, hd⟩ | ⟨ps, t, _, _, _, _, hd⟩ | ⟨ps, b, t, he, hp, hl, hb0, hb, h9, h0, hd⟩
  · obtain ⟨e1, e2, e3⟩ := dvs hd; rw [e1, e2, e3]; omega
  · obtain ⟨e1, e2, e3⟩ := dvs hd; rw [e1, e2, e3]; omega
  · obtain ⟨e1, e2, e3⟩ := dvs hd; rw [e1, e2, e3]; omega
  · obtain ⟨e1, e2, e3⟩ := dvs hd
    have hbd := val_bound (ps := ps) hl hb0 hb h9
    have hn := val_nonneg (ps ++ [b])
    rw [e1, e2, e3]; omega
theorem ret3s {zs : List Int} {x y z : Int} (h1 : x = sv zs) (h2 : y = dn zs) (h3 : z = dc zs) : Ending.returned (.tuple #[.int .i64 x, .int .i64 y, .int .i64 z]) = .returned (.tuple #[.int .i64 (sv zs), .int .i64 (dn zs), .int .i64 (dc zs)]) := by rw [h1, h2, h3]
set_option maxHeartbeats 1000000 in
theorem decodeSigned_any (a : Option Addr) (len cap : Nat) (zs : List Int) (w : World) (hl : zs.length = len) (hm : len ≤ 9223372036854775807) (hz : Bytes zs) (hs : Sl .u8 w a zs) :
    Calls Ycim.prog 15 #[.slice a len cap] w fun e w' => e = .returned (.tuple #[.int .i64 (sv zs), .int .i64 (dn zs), .int .i64 (dc zs)]) ∧ w' = w := by
  have HS : Hid (Sl .u8 w a zs) := hs
  have HL : Hid (zs.length = len) := hl
  have HZ : Hid (Bytes zs) := hz
  have hbd := dec_bd hz
  have HBD : Hid (_ ∧ _) := hbd
  clear hs hl hz hbd
  go_enter Ycim.func15, Ycim.ntmps15
  go_wp2_with fail
  refine (decode_any a len cap zs w HL.out hm HZ.out HS.out).mono ?_
  rintro e w1 ⟨rfl, rfl⟩
  by_cases hc : dc zs = 0
  · have HV : Hid (sv zs = unz (dv zs)) := sv_ok hc
    have hcb : (dc zs != 0) = false := by simp [hc]
    have HC : Hid (dc zs = 0) := hc
    clear hc
    go_wp2_with fail
    refine (unzigzag_any (dv zs) _ HBD.out.1 HBD.out.2.1).mono ?_
    rintro e w1 ⟨rfl, rfl⟩
    go_wp2
    go_ret3
    exact ⟨ret3s HV.out.symm rfl HC.out.symm, rfl⟩
  · have HV : Hid (sv zs = 0) := sv_fail hc
    have HN : Hid (dn zs = 0) := HBD.out.2.2.1 hc
    have hcb : (dc zs != 0) = true := by simpa using hc
    clear hc
    go_wp2
    go_ret3
    exact ⟨ret3s HV.out.symm HN.out.symm rfl, rfl⟩

/-! ### the restatement -/
theorem val_back' {zs : List Int} {k m : Nat} (hk : k < zs.length) (hm : m ≤ k) : val ((zs.take (k + 1)).drop m) = el zs m % 128 + 128 * val ((zs.take (k + 1)).drop (m + 1)) := by
  rw [drop_el (xs := zs.take (k + 1)) (by simp; omega), val_cons, el_take (by omega)]
set_option maxHeartbeats 2000000 in
theorem aspec_any (a : Option Addr) (len cap : Nat) (zs : List Int) (w : World) (hl : zs.length = len) (hm : len ≤ 9223372036854775807) (hz : Bytes zs) (hs : Sl .u8 w a zs) :
    Calls Ycim.prog 16 #[.slice a len cap] w fun e w' => e = .returned (.tuple #[.int .i64 (sv zs), .int .i64 (dn zs), .int .i64 (dc zs)]) ∧ w' = w := by
  have HS : Hid (Sl .u8 w a zs) := hs
  have HL : Hid (zs.length = len) := hl
  have HZ : Hid (Bytes zs) := hz
  clear hs hl hz
  go_enter Ycim.func16, Ycim.ntmps16
  go_wp2
  go_loop [5] (fun i => ∃ k : Nat, i = .int .i64 k ∧ k ≤ 9 ∧ k ≤ len ∧ Prom (zs.take k)) (fun i => 9 - (intOf i).toNat)
  case atStart => exact ⟨0, rfl, by omega, by omega, by simpa using Prom.nil⟩
  case round =>
    obtain ⟨k, rfl, hk9, hk, hp⟩ := hrel
    have HP : Hid (Prom (zs.take k)) := hp
    clear hp
    by_cases hlt : k < len
    · have hlk : Hid (k < zs.length) := by show _ < _; rw [HL.out]; exact hlt
      obtain ⟨b, off, ha, _, hc⟩ := HS.out.at (n := k) hlk.out
      subst ha
      have c0 : w.cell? ⟨b, off + k, none⟩ = some (.int .u8 (el zs k)) := hc k hlk.out
      have HC : Hid (∀ i, i < zs.length → w.cell? ⟨b, off + i, none⟩ = some (.int .u8 (el zs i))) := hc
      clear hc
      have hb := HZ.out.el k
      by_cases hgo : k < 9 ∧ 128 ≤ el zs k
      · obtain ⟨h9, h128⟩ := hgo
        go_wp2
        go_round
        case rel => exact ⟨k + 1, by go_num, by omega, by omega, by rw [take_succ_el hlk.out]; exact HP.out.snoc h128⟩
        case measure => simp [intOf]; omega
      · by_cases h9 : k < 9
        · have h128 : ¬ 128 ≤ el zs k := by omega
          have h9' : ¬ k = 9 := by omega
          by_cases h0 : 0 < k ∧ el zs k = 0
          · obtain ⟨h0, h00⟩ := h0
            have h00' : el zs k ≤ 0 := by omega
            obtain ⟨e1, e2, e3⟩ := dvs (table_long hk9 HP.out hlk.out h0 h00)
            have E2 : Hid (dn zs = 0) := e2
            have E3 : Hid (dc zs = 2) := e3
            have E4 : Hid (sv zs = 0) := sv_fail (by rw [e3]; omega)
            clear e1 e2 e3 HP
            go_wp2
            go_ret3
            exact ⟨ret3s E4.out.symm E2.out.symm E3.out.symm, rfl⟩
          · by_cases h00 : 0 < k
            · have hb0 : ¬ el zs k = 0 := by omega
              have hok := table_ok hk9 HP.out hlk.out hb.1 (by omega) (by omega) (by omega)
              obtain ⟨e1, e2, e3⟩ := dvs hok.1
              have hV := hok.2
              have E1 : Hid (dv zs = val (zs.take (k + 1))) := e1
              have E2 : Hid (dn zs = (k : Int) + 1) := e2
              have E3 : Hid (dc zs = 0) := e3
              have E4 : Hid (sv zs = unz (val (zs.take (k + 1)))) := by show _ = _; rw [sv_ok e3, e1]
              clear hok e1 e2 e3 HP
              go_wp2
              go_loop [7, 8] (fun t j => ∃ m : Nat, m ≤ k + 1 ∧ j = .int .i64 ((m : Int) - 1) ∧ t = .int .u64 (val ((zs.take (k + 1)).drop m))) (fun _ j => (intOf j + 1).toNat)
              case atStart => exact ⟨k + 1, by omega, by go_num, by rw [List.drop_eq_nil_of_le (by rw [List.length_take]; omega)]; rfl⟩
              case round =>
                obtain ⟨m, hmk, rfl, rfl⟩ := hrel
                by_cases hm0 : 0 < m
                · obtain ⟨q, rfl⟩ : ∃ q, m = q + 1 := ⟨m - 1, by omega⟩
                  have hq1 : q < zs.length := by have := hlk.out; omega
                  have cq : w.cell? ⟨b, off + q, none⟩ = some (.int .u8 (el zs q)) := HC.out q hq1
                  have hql : q < len := by rw [← HL.out]; exact hq1
                  have hbq := HZ.out.el q
                  have hst := val_back' hlk.out (m := q) (by omega)
                  have hle := val_drop_le (zs.take (k + 1)) q
                  have hnn := val_nonneg ((zs.take (k + 1)).drop (q + 1))
                  rw [hst] at hle
                  have HST : Hid (val ((zs.take (k + 1)).drop q) = el zs q % 128 + 128 * val ((zs.take (k + 1)).drop (q + 1))) := hst
                  clear hst hq1
                  generalize val ((zs.take (k + 1)).drop (q + 1)) = V at *
                  have hVb : V * 128 + el zs q % 128 ≤ 18446744073709551615 := by omega
                  have hVb2 : V * 128 ≤ 18446744073709551615 := by omega
                  go_wp2
                  go_round
                  case rel => exact ⟨q, by omega, by go_num, by rw [HST.out]; go_num⟩
                  case measure => simp [intOf]
                · obtain rfl : m = 0 := by omega
                  rw [List.drop_zero]
                  have hnn := val_nonneg (zs.take (k + 1))
                  generalize val (zs.take (k + 1)) = U at *
                  by_cases hpar : U % 2 = 0
                  · have HU : Hid (unz U = U / 2) := unz_even hpar
                    have hpb : (U % 2 == 0) = true := by simpa using hpar
                    clear hpar
                    go_wp2
                    go_ret3
                    exact ⟨ret3s (by rw [E4.out, HU.out]) (by have h2 := E2.out; omega) E3.out.symm, rfl⟩
                  · have HU : Hid (unz U = -(U / 2) - 1) := unz_odd (by omega)
                    have hpb : (U % 2 == 0) = false := by simpa using hpar
                    clear hpar
                    go_wp2
                    go_ret3
                    exact ⟨ret3s (by rw [E4.out, HU.out]) (by have h2 := E2.out; omega) E3.out.symm, rfl⟩
            · have h000 : k ≤ 0 := by omega
              have hok := table_ok hk9 HP.out hlk.out hb.1 (by omega) (by omega) (by omega)
              obtain ⟨e1, e2, e3⟩ := dvs hok.1
              have hV := hok.2
              have E1 : Hid (dv zs = val (zs.take (k + 1))) := e1
              have E2 : Hid (dn zs = (k : Int) + 1) := e2
              have E3 : Hid (dc zs = 0) := e3
              have E4 : Hid (sv zs = unz (val (zs.take (k + 1)))) := by show _ = _; rw [sv_ok e3, e1]
              clear hok e1 e2 e3 HP
              go_wp2
              go_loop [7, 8] (fun t j => ∃ m : Nat, m ≤ k + 1 ∧ j = .int .i64 ((m : Int) - 1) ∧ t = .int .u64 (val ((zs.take (k + 1)).drop m))) (fun _ j => (intOf j + 1).toNat)
              case atStart => exact ⟨k + 1, by omega, by go_num, by rw [List.drop_eq_nil_of_le (by rw [List.length_take]; omega)]; rfl⟩
              case round =>
                obtain ⟨m, hmk, rfl, rfl⟩ := hrel
                by_cases hm0 : 0 < m
                · obtain ⟨q, rfl⟩ : ∃ q, m = q + 1 := ⟨m - 1, by omega⟩
                  have hq1 : q < zs.length := by have := hlk.out; omega
                  have cq : w.cell? ⟨b, off + q, none⟩ = some (.int .u8 (el zs q)) := HC.out q hq1
                  have hql : q < len := by rw [← HL.out]; exact hq1
                  have hbq := HZ.out.el q
                  have hst := val_back' hlk.out (m := q) (by omega)
                  have hle := val_drop_le (zs.take (k + 1)) q
                  have hnn := val_nonneg ((zs.take (k + 1)).drop (q + 1))
                  rw [hst] at hle
                  have HST : Hid (val ((zs.take (k + 1)).drop q) = el zs q % 128 + 128 * val ((zs.take (k + 1)).drop (q + 1))) := hst
                  clear hst hq1
                  generalize val ((zs.take (k + 1)).drop (q + 1)) = V at *
                  have hVb : V * 128 + el zs q % 128 ≤ 18446744073709551615 := by omega
                  have hVb2 : V * 128 ≤ 18446744073709551615 := by omega
                  go_wp2
                  go_round
                  case rel => exact ⟨q, by omega, by go_num, by rw [HST.out]; go_num⟩
                  case measure => simp [intOf]
                · obtain rfl : m = 0 := by omega
                  rw [List.drop_zero]
                  have hnn := val_nonneg (zs.take (k + 1))
                  generalize val (zs.take (k + 1)) = U at *
                  by_cases hpar : U % 2 = 0
                  · have HU : Hid (unz U = U / 2) := unz_even hpar
                    have hpb : (U % 2 == 0) = true := by simpa using hpar
                    clear hpar
                    go_wp2
                    go_ret3
                    exact ⟨ret3s (by rw [E4.out, HU.out]) (by have h2 := E2.out; omega) E3.out.symm, rfl⟩
                  · have HU : Hid (unz U = -(U / 2) - 1) := unz_odd (by omega)
                    have hpb : (U % 2 == 0) = false := by simpa using hpar
                    clear hpar
                    go_wp2
                    go_ret3
                    exact ⟨ret3s (by rw [E4.out, HU.out]) (by have h2 := E2.out; omega) E3.out.symm, rfl⟩
        · have h9' : 9 ≤ k := by omega
          by_cases h2 : 1 < el zs k
          · have h22 : 2 ≤ el zs k := by omega
            obtain ⟨e1, e2, e3⟩ := dvs (table_over HP.out hlk.out (by omega) h22)
            have E2 : Hid (dn zs = 0) := e2
            have E3 : Hid (dc zs = 3) := e3
            have E4 : Hid (sv zs = 0) := sv_fail (by rw [e3]; omega)
            clear e1 e2 e3 HP
            go_wp2
            go_ret3
            exact ⟨ret3s E4.out.symm E2.out.symm E3.out.symm, rfl⟩
          · by_cases h0 : el zs k = 0
            · have h00' : el zs k ≤ 0 := by omega
              obtain ⟨e1, e2, e3⟩ := dvs (table_long hk9 HP.out hlk.out (by omega) h0)
              have E2 : Hid (dn zs = 0) := e2
              have E3 : Hid (dc zs = 2) := e3
              have E4 : Hid (sv zs = 0) := sv_fail (by rw [e3]; omega)
              clear e1 e2 e3 HP
              go_wp2
              go_ret3
              exact ⟨ret3s E4.out.symm E2.out.symm E3.out.symm, rfl⟩
            · have h00 : 0 < k := by omega
              have hok := table_ok hk9 HP.out hlk.out hb.1 (by omega) (by omega) (by omega)
              obtain ⟨e1, e2, e3⟩ := dvs hok.1
              have hV := hok.2
              have E1 : Hid (dv zs = val (zs.take (k + 1))) := e1
              have E2 : Hid (dn zs = (k : Int) + 1) := e2
              have E3 : Hid (dc zs = 0) := e3
              have E4 : Hid (sv zs = unz (val (zs.take (k + 1)))) := by show _ = _; rw [sv_ok e3, e1]
              clear hok e1 e2 e3 HP
              go_wp2
              go_loop [7, 8] (fun t j => ∃ m : Nat, m ≤ k + 1 ∧ j = .int .i64 ((m : Int) - 1) ∧ t = .int .u64 (val ((zs.take (k + 1)).drop m))) (fun _ j => (intOf j + 1).toNat)
              case atStart => exact ⟨k + 1, by omega, by go_num, by rw [List.drop_eq_nil_of_le (by rw [List.length_take]; omega)]; rfl⟩
              case round =>
                obtain ⟨m, hmk, rfl, rfl⟩ := hrel
                by_cases hm0 : 0 < m
                · obtain ⟨q, rfl⟩ : ∃ q, m = q + 1 := ⟨m - 1, by omega⟩
                  have hq1 : q < zs.length := by have := hlk.out; omega
                  have cq : w.cell? ⟨b, off + q, none⟩ = some (.int .u8 (el zs q)) := HC.out q hq1
                  have hql : q < len := by rw [← HL.out]; exact hq1
                  have hbq := HZ.out.el q
                  have hst := val_back' hlk.out (m := q) (by omega)
                  have hle := val_drop_le (zs.take (k + 1)) q
                  have hnn := val_nonneg ((zs.take (k + 1)).drop (q + 1))
                  rw [hst] at hle
                  have HST : Hid (val ((zs.take (k + 1)).drop q) = el zs q % 128 + 128 * val ((zs.take (k + 1)).drop (q + 1))) := hst
                  clear hst hq1
                  generalize val ((zs.take (k + 1)).drop (q + 1)) = V at *
                  have hVb : V * 128 + el zs q % 128 ≤ 18446744073709551615 := by omega
                  have hVb2 : V * 128 ≤ 18446744073709551615 := by omega
                  go_wp2
                  go_round
                  case rel => exact ⟨q, by omega, by go_num, by rw [HST.out]; go_num⟩
                  case measure => simp [intOf]
                · obtain rfl : m = 0 := by omega
                  rw [List.drop_zero]
                  have hnn := val_nonneg (zs.take (k + 1))
                  generalize val (zs.take (k + 1)) = U at *
                  by_cases hpar : U % 2 = 0
                  · have HU : Hid (unz U = U / 2) := unz_even hpar
                    have hpb : (U % 2 == 0) = true := by simpa using hpar
                    clear hpar
                    go_wp2
                    go_ret3
                    exact ⟨ret3s (by rw [E4.out, HU.out]) (by have h2 := E2.out; omega) E3.out.symm, rfl⟩
                  · have HU : Hid (unz U = -(U / 2) - 1) := unz_odd (by omega)
                    have hpb : (U % 2 == 0) = false := by simpa using hpar
                    clear hpar
                    go_wp2
                    go_ret3
                    exact ⟨ret3s (by rw [E4.out, HU.out]) (by have h2 := E2.out; omega) E3.out.symm, rfl⟩
    · have hkl : k = zs.length := by rw [HL.out]; omega
      have HE := table_end hk9 HP.out hkl
      have HE' : Hid (dec zs 0 0 = (0, 0, 1)) := HE
      clear hkl HE
      by_cases h9 : k < 9
      · have h99 : k ≤ 8 := by omega
        obtain ⟨e1, e2, e3⟩ := dvs HE'.out
        have E2 : Hid (dn zs = 0) := e2
        have E3 : Hid (dc zs = 1) := e3
        have E4 : Hid (sv zs = 0) := sv_fail (by rw [e3]; omega)
        clear e1 e2 e3 HP
        go_wp2
        go_ret3
        exact ⟨ret3s E4.out.symm E2.out.symm E3.out.symm, rfl⟩
      · have h99 : 9 ≤ k := by omega
        obtain ⟨e1, e2, e3⟩ := dvs HE'.out
        have E2 : Hid (dn zs = 0) := e2
        have E3 : Hid (dc zs = 1) := e3
        have E4 : Hid (sv zs = 0) := sv_fail (by rw [e3]; omega)
        clear e1 e2 e3 HP
        go_wp2
        go_ret3
        exact ⟨ret3s E4.out.symm E2.out.symm E3.out.symm, rfl⟩
end Go.Proofs.Ymbrci
