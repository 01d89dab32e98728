/-
  The plain reader zzs930001bread on a shortest form.
-/
import Derived.Test.YmbrciDig
namespace Go.Proofs.Ymbrci
open Go.RowKit

theorem p128_le (n : Nat) (h : n ≤ 9) : (128 : Int) ^ n ≤ 9223372036854775808 ∧ 0 < (128 : Int) ^ n := by
  have h1 := p128_le9 h
  have h2 : 0 < (128 : Nat) ^ n := Nat.pow_pos (by omega)
  rw [icast128]
  omega
theorem val_snoc (ps : List Int) (b : Int) : val (ps ++ [b]) = val ps + b % 128 * 128 ^ ps.length := by
  rw [val_append, val_cons, val_nil]
  congr 2
  omega
theorem wrap_group (ps : List Int) (b : Int) (q : Nat) (hq : ps.length = q) (hn : q ≤ 8 ∨ (q = 9 ∧ b % 128 ≤ 1)) :
    IntKind.u64.wrap (val ps + IntKind.u64.wrap (b % 128 * 2 ^ (7 * q))) = val (ps ++ [b]) := by
  subst hq
  rw [p7]
  have h1 := val_lt ps
  have h2 := val_nonneg ps
  have hp := p128_le ps.length (by omega)
  have h5 : 0 ≤ b % 128 * 128 ^ ps.length := Int.mul_nonneg (by omega) (by omega)
  have h6 : val ps + b % 128 * 128 ^ ps.length ≤ 18446744073709551615 := by
    rcases hn with hn | ⟨hn, hb⟩
    · have h3 : (128 : Nat) ^ ps.length ≤ 128 ^ 8 := Nat.pow_le_pow_right (by omega) hn
      have h4 : (128 : Int) ^ ps.length ≤ 72057594037927936 := by rw [icast128]; omega
      have h7 : b % 128 * 128 ^ ps.length ≤ 127 * 128 ^ ps.length := Int.mul_le_mul_of_nonneg_right (by omega) (by omega)
      omega
    · have h7 : b % 128 * 128 ^ ps.length ≤ 1 * 128 ^ ps.length := Int.mul_le_mul_of_nonneg_right (by omega) (by omega)
      omega
  rw [val_snoc, IntWalk.u64_in (b % 128 * 128 ^ ps.length) ⟨h5, by omega⟩, IntWalk.u64_in _ ⟨by omega, by omega⟩]
theorem ret3b {x x' y y' : Int} {b : Bool} (h1 : x = x') (h2 : y = y') (h3 : b = true) : Ending.returned (.tuple #[.int .u64 x, .int .i64 y, .bool b]) = .returned (.tuple #[.int .u64 x', .int .i64 y', .bool true]) := by rw [h1, h2, h3]

set_option maxHeartbeats 1000000 in
theorem bread_any (a : Option Addr) (len cap pos : Nat) (pre post : List Int) (x : Int) (w : World) (h0 : 0 ≤ x) (h1 : x ≤ 18446744073709551615) (hp : pre.length = pos) (hl : (pre ++ (E x ++ post)).length = len) (hm : len ≤ 1000000) (hs : Sl .u8 w a (pre ++ (E x ++ post))) :
    Calls Ycim.prog 22 #[.slice a len cap, .int .i64 (pos : Int)] w fun e w' => e = .returned (.tuple #[.int .u64 x, .int .i64 ((pos + (E x).length : Nat) : Int), .bool true]) ∧ w' = w := by
  obtain ⟨ps, l, he, hprom, hpb, hl0, hl1, hlz, hp9, hl9, hval⟩ := E_parts x h0 h1
  have hlen : pos + (ps.length + 1) ≤ len := by
    rw [← hl, List.length_append, List.length_append, he, List.length_append, List.length_singleton, hp]; omega
  have HEL : Hid (∀ q, q ≤ ps.length → el (pre ++ (E x ++ post)) (pos + q) = el (ps ++ [l]) q) := fun q hq => by
    rw [← hp, el_at, el_left (by rw [he, List.length_append, List.length_singleton]; omega), he]
  have HXL : Hid ((E x).length = ps.length + 1) := by show _ = _; rw [he, List.length_append, List.length_singleton]
  have HS : Hid (Sl .u8 w a (pre ++ (E x ++ post))) := hs
  have HL : Hid ((pre ++ (E x ++ post)).length = len) := hl
  have HPR : Hid (Prom ps) := hprom
  have HPB : Hid (Bytes ps) := hpb
  have HV : Hid (val (ps ++ [l]) = x) := hval
  have HLZ : Hid (l = 0 → ps = []) := hlz
  clear hs hl he hprom hpb hval hlz hp
  obtain ⟨K, hK⟩ : ∃ K, ps.length = K := ⟨_, rfl⟩
  rw [hK] at hlen hp9 hl9
  have HK : Hid (ps.length = K) := hK
  clear hK
  go_enter Ycim.func22, Ycim.ntmps22
  go_wp2
  go_loop [7, 8, 9] (fun t sh i => ∃ q : Nat, q ≤ K ∧ i = .int .i64 ((pos + q : Nat) : Int) ∧ sh = .int .u64 ((7 * q : Nat) : Int) ∧ t = .int .u64 (val (ps.take q))) (fun _ _ i => len - (intOf i).toNat)
  case atStart => exact ⟨0, by omega, rfl, rfl, rfl⟩
  case round =>
    obtain ⟨q, hq, rfl, rfl, rfl⟩ := hrel
    have hql : pos + q < len := by omega
    obtain ⟨b, off, ha, _, hc⟩ := HS.out.at (n := pos + q) (by rw [HL.out]; exact hql)
    subst ha
    have c0 := hc (pos + q) (by rw [HL.out]; exact hql)
    rw [HEL.out q (by rw [HK.out]; exact hq)] at c0
    have HTL : Hid ((ps.take q).length = q) := by show _ = _; rw [List.length_take, HK.out]; omega
    clear hc
    by_cases hlt : q < K
    · have hel : el (ps ++ [l]) q = el ps q := el_left (by rw [HK.out]; exact hlt)
      rw [hel] at c0
      have hpr : 128 ≤ el ps q := HPR.out _ (el_mem (by rw [HK.out]; exact hlt))
      have hbb := HPB.out.el q
      have hgr := wrap_group (ps.take q) (el ps q) q HTL.out (by omega)
      rw [← take_succ_el (by rw [HK.out]; exact hlt)] at hgr
      have HG : Hid (_ = _) := hgr
      clear hel hgr
      go_wp2
      go_round
      case rel => exact ⟨q + 1, by omega, by go_num, by go_num, by rw [← HG.out]⟩
      case measure => simp [intOf]; omega
    · obtain rfl : q = K := by omega
      have hel : el (ps ++ [l]) q = l := by rw [← HK.out]; exact (el_right (Nat.le_refl _)).trans (by rw [Nat.sub_self]; rfl)
      rw [hel] at c0
      have hgr := wrap_group (ps.take q) l q HTL.out (by omega)
      have htk : ps.take q = ps := List.take_of_length_le (by rw [HK.out]; exact Nat.le_refl _)
      rw [htk, HV.out] at hgr
      rw [htk]
      have HG : Hid (_ = _) := hgr
      clear hel hgr htk
      by_cases hz : q = 0
      · have hz' : q ≤ 0 := by omega
        clear hz
        go_wp2
        go_ret3
        exact ⟨ret3b HG.out (by rw [HXL.out, HK.out]; omega) rfl, rfl⟩
      · have hz' : 0 < q := by omega
        have hlp : 0 < l := by
          by_cases hl' : l = 0
          · have := HLZ.out hl'
            have h2 := HK.out
            rw [this] at h2
            simp at h2; omega
          · omega
        clear hz
        go_wp2
        go_ret3
        exact ⟨ret3b HG.out (by rw [HXL.out, HK.out]; omega) (by simp; omega), rfl⟩
theorem bread_at (a : Option Addr) (len cap pos : Nat) (P : Int) (pre post : List Int) (x : Int) (w : World) (hP : (pos : Int) = P) (h0 : 0 ≤ x) (h1 : x ≤ 18446744073709551615) (hp : pre.length = pos) (hl : (pre ++ (E x ++ post)).length = len) (hm : len ≤ 1000000) (hs : Sl .u8 w a (pre ++ (E x ++ post))) :
    Calls Ycim.prog 22 #[.slice a len cap, .int .i64 P] w fun e w' => e = .returned (.tuple #[.int .u64 x, .int .i64 ((pos + (E x).length : Nat) : Int), .bool true]) ∧ w' = w := by
  subst hP
  exact bread_any a len cap pos pre post x w h0 h1 hp hl hm hs
end Go.Proofs.Ymbrci
