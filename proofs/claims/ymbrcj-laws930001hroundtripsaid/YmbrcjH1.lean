/-
  The helpers of the laws over DecodeAll: zzs930001hbytes, zzs930001hsame, zzs930001hmodel.
-/
import Derived.Test.YmbrcjPass
namespace Go.Proofs.Ymbrcj
open Go.RowKit

/-! ### the same numbers -/
def sameB (xs ys : List Int) : Bool := decide (xs = ys)
theorem sameB_false {xs ys : List Int} (h : xs ≠ ys) : sameB xs ys = false := decide_eq_false h
theorem sameB_true {xs ys : List Int} (h : xs = ys) : sameB xs ys = true := decide_eq_true h
set_option maxHeartbeats 1000000 in
theorem hsame_any (a b : Option Addr) (la lb ca cb : Nat) (xs ys : List Int) (w : World) (hx : xs.length = la) (hy : ys.length = lb) (ma : la ≤ 9223372036854775807) (mb : lb ≤ 9223372036854775807) (sx : Sl .u64 w a xs) (sy : Sl .u64 w b ys) :
    Calls Ycjm.prog 26 #[.slice a la ca, .slice b lb cb] w fun e w' => e = .returned (.bool (sameB xs ys)) ∧ ∃ n, w' = w.drewN n := by
  have SX : Hid (Sl .u64 w a xs) := sx
  have SY : Hid (Sl .u64 w b ys) := sy
  have HX : Hid (xs.length = la) := hx
  have HY : Hid (ys.length = lb) := hy
  clear sx sy hx hy
  by_cases h1 : la = lb
  · subst h1
    go_enter Ycjm.func26, Ycjm.ntmps26
    go_wp2
    go_loopw [5] (fun i wr => ∃ (m n : Nat), i = .int .i64 m ∧ m ≤ la ∧ wr = w.drewN n ∧ ∀ j, j < m → el xs j = el ys j) (fun i _ => la - (intOf i).toNat)
    case atStart => exact ⟨0, 0, rfl, by omega, rfl, fun j hj => by omega⟩
    case round =>
      obtain ⟨q, n, rfl, hm, hw, hj⟩ := hrel
      subst hw
      have HJ : Hid (∀ j, j < q → el xs j = el ys j) := hj
      clear hj
      by_cases h0 : q < la
      · obtain ⟨ba, oa, ea, _, hca⟩ := SX.out.at (n := q) (by rw [HX.out]; omega)
        obtain ⟨bb, ob, eb, _, hcb⟩ := SY.out.at (n := q) (by rw [HY.out]; omega)
        subst ea
        subst eb
        have c1 : w.cell? ⟨ba, oa + q, none⟩ = some (.int .u64 (el xs q)) := hca q (by rw [HX.out]; omega)
        have c2 : w.cell? ⟨bb, ob + q, none⟩ = some (.int .u64 (el ys q)) := hcb q (by rw [HY.out]; omega)
        clear hca hcb
        by_cases h : el xs q = el ys q
        · have d0 : (el xs q != el ys q) = false := by simp; omega
          have HQ : Hid (el xs q = el ys q) := h
          clear h
          go_wp2
          go_quiet (fail)
          go_wp2
          go_roundw
          case rel =>
            refine ⟨q + 1, _, by go_num, by omega, rfl, fun j hj => ?_⟩
            by_cases e : j = q
            · rw [e]; exact HQ.out
            · exact HJ.out j (by omega)
          case measure => simp [intOf]; omega
        · have d0 : (el xs q != el ys q) = true := by simpa using h
          go_wp2
          go_quiet (fail)
          go_wp2
          go_ret
          exact ⟨ret_bool (sameB_false (fun e => h (by rw [e]))).symm, _, by simp; rfl⟩
      · obtain rfl : q = la := by omega
        go_wp2
        go_ret
        exact ⟨ret_bool (sameB_true (list_ext (by rw [HX.out, HY.out]) (by rw [HX.out]; exact HJ.out))).symm, n, rfl⟩
  · have d0 : ((la : Int) != (lb : Int)) = true := by simp; omega
    go_enter Ycjm.func26, Ycjm.ntmps26
    go_wp2
    go_ret
    exact ⟨ret_bool (sameB_false (fun e => h1 (by rw [← HX.out, ← HY.out, e]))).symm, 0, rfl⟩

/-! ### the bytes (whatever they are) -/
theorem or128_bd (b : Int) : 0 ≤ bits .or .u8 b 128 ∧ bits .or .u8 b 128 ≤ 255 := u8_bd (wf_bits .or .u8 b 128)
set_option maxHeartbeats 1000000 in
theorem hbytes_any (a : Option Addr) (len cap : Nat) (m : Int) (zs : List Int) (w : World) (hl : zs.length = len) (hm : len ≤ 1024) (h0 : 0 ≤ m) (h1 : m ≤ 255) (hz : Bytes zs) (hs : Sl .u8 w a zs) :
    Calls Ycjm.prog 23 #[.slice a len cap, .int .u8 m] w fun e w' => ∃ v ys, e = .returned v ∧ ys.length = len ∧ Bytes ys ∧ Owns .u8 5 w.heap.size w' v ys ∧ Below w.heap.size w w' := by
  have HS : Hid (Sl .u8 w a zs) := hs
  have HL : Hid (zs.length = len) := hl
  have HZ : Hid (Bytes zs) := hz
  have H0 : Hid (∀ g, (Value.slice none 0 0).ownBlock = some g → g < w.heap.size) := fun g hg => by simp [Value.ownBlock] at hg
  clear hs hl hz
  go_enter Ycjm.func23, Ycjm.ntmps23
  go_wp2
  go_loopw [5, 6] (fun d i wr => ∃ (ys : List Int) (q : Nat), i = .int .i64 q ∧ q ≤ len ∧ ys.length = q ∧ Bytes ys ∧ Ap .u8 5 w.heap.size w (.slice none 0 0) [] wr d ys) (fun _ i _ => len - (intOf i).toNat)
  case atStart => exact ⟨[], 0, rfl, by omega, rfl, Bytes.nil, Ap.start (Owns.nil _ _ _ _)⟩
  case round =>
    obtain ⟨ys, q, rfl, hq, hyl, hyb, hap⟩ := hrel
    have HA : Hid (Ap .u8 5 w.heap.size w (.slice none 0 0) [] wr _ ys) := hap
    have HY : Hid (ys.length = q) := hyl
    have HB : Hid (Bytes ys) := hyb
    have hsz : w.heap.size ≤ wr.heap.size := hap.size
    clear hap hyl hyb
    by_cases hlt : q < len
    · obtain ⟨b, off, ha, hbl, hc⟩ := HS.out.at (n := q) (by rw [HL.out]; omega)
      subst ha
      have c0 : wr.cell? ⟨b, off + q, none⟩ = some (.int .u8 (el zs q)) := (HA.out.belowNil.cell hbl).trans (hc q (by rw [HL.out]; omega))
      have hbb := HZ.out.el q
      have HOR : Hid (_ ∧ _) := or128_bd (el zs q)
      clear hc
      by_cases r1 : m % 3 = 1
      · have r1' : 1 ≤ m % 3 ∧ m % 3 ≤ 1 := by omega
        clear r1
        by_cases p1 : el zs q % 2 = 1
        · have p1' : 1 ≤ el zs q % 2 := by omega
          clear p1
          go_wp2_with (at_builtin; refine ap8 _ rfl (.tmp 37) (.tmp 39) rfl rfl (HA.out.owns.alloc _) ?c1A _ _ _ [bits .or .u8 (el zs q) 128] rfl rfl (sl_one _ _ _ _) ?c2A ?c3A)
          case c1A => first | omega | (simp; omega)
          case c2A => have hyq := HY.out; first | omega | (simp; omega)
          case c3A =>
            intro v' w1 hap
            have HC : Hid (Ap .u8 5 w.heap.size w (.slice none 0 0) [] w1 v' (ys ++ [bits .or .u8 (el zs q) 128])) := (HA.out.alloc _ H0.out).trans hap H0.out
            clear hap
            go_wp2
            go_roundw
            case rel => exact ⟨ys ++ [bits .or .u8 (el zs q) 128], q + 1, by go_num, by omega, by rw [List.length_append, HY.out]; rfl, HB.out.append (Bytes.one HOR.out.1 HOR.out.2), HC.out⟩
            case measure => simp [intOf]; omega
        · have p1' : el zs q % 2 ≤ 0 := by omega
          clear p1
          go_wp2_with (at_builtin; refine ap8 _ rfl (.tmp 37) (.tmp 39) rfl rfl (HA.out.owns.alloc _) ?c1B _ _ _ [el zs q] rfl rfl (sl_one _ _ _ _) ?c2B ?c3B)
          case c1B => first | omega | (simp; omega)
          case c2B => have hyq := HY.out; first | omega | (simp; omega)
          case c3B =>
            intro v' w1 hap
            have HC : Hid (Ap .u8 5 w.heap.size w (.slice none 0 0) [] w1 v' (ys ++ [el zs q])) := (HA.out.alloc _ H0.out).trans hap H0.out
            clear hap
            go_wp2
            go_roundw
            case rel => exact ⟨ys ++ [el zs q], q + 1, by go_num, by omega, by rw [List.length_append, HY.out]; rfl, HB.out.append (Bytes.one hbb.1 hbb.2), HC.out⟩
            case measure => simp [intOf]; omega
      · by_cases r2 : m % 3 = 2
        · have r2' : 2 ≤ m % 3 := by omega
          clear r1 r2
          by_cases p2 : 1 ≤ el zs q
          · have p2' : 0 < el zs q := by omega
            go_wp2_with (at_builtin; refine ap8 _ rfl (.tmp 37) (.tmp 39) rfl rfl (HA.out.owns.alloc _) ?c1C _ _ _ [bits .or .u8 (el zs q) 128] rfl rfl (sl_one _ _ _ _) ?c2C ?c3C)
            case c1C => first | omega | (simp; omega)
            case c2C => have hyq := HY.out; first | omega | (simp; omega)
            case c3C =>
              intro v' w1 hap
              have HC : Hid (Ap .u8 5 w.heap.size w (.slice none 0 0) [] w1 v' (ys ++ [bits .or .u8 (el zs q) 128])) := (HA.out.alloc _ H0.out).trans hap H0.out
              clear hap
              go_wp2
              go_roundw
              case rel => exact ⟨ys ++ [bits .or .u8 (el zs q) 128], q + 1, by go_num, by omega, by rw [List.length_append, HY.out]; rfl, HB.out.append (Bytes.one HOR.out.1 HOR.out.2), HC.out⟩
              case measure => simp [intOf]; omega
          · have p2' : el zs q ≤ 0 := by omega
            go_wp2_with (at_builtin; refine ap8 _ rfl (.tmp 37) (.tmp 39) rfl rfl (HA.out.owns.alloc _) ?c1D _ _ _ [el zs q] rfl rfl (sl_one _ _ _ _) ?c2D ?c3D)
            case c1D => first | omega | (simp; omega)
            case c2D => have hyq := HY.out; first | omega | (simp; omega)
            case c3D =>
              intro v' w1 hap
              have HC : Hid (Ap .u8 5 w.heap.size w (.slice none 0 0) [] w1 v' (ys ++ [el zs q])) := (HA.out.alloc _ H0.out).trans hap H0.out
              clear hap
              go_wp2
              go_roundw
              case rel => exact ⟨ys ++ [el zs q], q + 1, by go_num, by omega, by rw [List.length_append, HY.out]; rfl, HB.out.append (Bytes.one hbb.1 hbb.2), HC.out⟩
              case measure => simp [intOf]; omega
        · have r2' : m % 3 ≤ 0 := by omega
          clear r1 r2
          go_wp2_with (at_builtin; refine ap8 _ rfl (.tmp 37) (.tmp 39) rfl rfl (HA.out.owns.alloc _) ?c1F _ _ _ [el zs q] rfl rfl (sl_one _ _ _ _) ?c2F ?c3F)
          case c1F => first | omega | (simp; omega)
          case c2F => have hyq := HY.out; first | omega | (simp; omega)
          case c3F =>
            intro v' w1 hap
            have HC : Hid (Ap .u8 5 w.heap.size w (.slice none 0 0) [] w1 v' (ys ++ [el zs q])) := (HA.out.alloc _ H0.out).trans hap H0.out
            clear hap
            go_wp2
            go_roundw
            case rel => exact ⟨ys ++ [el zs q], q + 1, by go_num, by omega, by rw [List.length_append, HY.out]; rfl, HB.out.append (Bytes.one hbb.1 hbb.2), HC.out⟩
            case measure => simp [intOf]; omega
    · go_wp2
      go_ret
      exact ⟨_, ys, rfl, by rw [HY.out]; omega, HB.out, HA.out.ownsNew, HA.out.belowNil⟩

/-! ### the one-pass reader -/
set_option maxHeartbeats 2000000 in
theorem hmodel_any (a : Option Addr) (len cap : Nat) (zs : List Int) (w : World) (hl : zs.length = len) (hm : len ≤ 1000000000000) (hz : Bytes zs) (hs : Sl .u8 w a zs) :
    Calls Ycjm.prog 25 #[.slice a len cap] w fun e w' => ∃ v xs code, e = .returned (.tuple #[v, .int .i64 ((flat xs).length : Nat), .int .i64 code]) ∧ AllOf zs xs code ∧ xs.length ≤ len ∧ Owns .u64 22 w.heap.size w' v xs ∧ Below w.heap.size w w' := by
  have HS : Hid (Sl .u8 w a zs) := hs
  have HL : Hid (zs.length = len) := hl
  have HZ : Hid (Bytes zs) := hz
  have H0 : Hid (∀ g, (Value.slice none 0 0).ownBlock = some g → g < w.heap.size) := fun g hg => by simp [Value.ownBlock] at hg
  clear hs hl hz
  go_enter Ycjm.func25, Ycjm.ntmps25
  go_wp2
  go_loopw [5, 6, 7, 8, 9, 10] (fun d st kk cu sc i wr => ∃ (xs ps : List Int) (s k q : Nat) (S P : Int), st = .int .i64 s ∧ kk = .int .i64 k ∧ cu = .int .u64 S ∧ sc = .int .u64 P ∧ i = .int .i64 q ∧ q ≤ len ∧ k ≤ 9 ∧ s ≤ q ∧ 0 ≤ S ∧ S ≤ 18446744073709551615 ∧ 0 ≤ P ∧ P ≤ 18446744073709551615 ∧ Open zs xs ps q ∧ ps.length = k ∧ S = val ps ∧ P = 128 ^ k ∧ s = (flat xs).length ∧ Ap .u64 22 w.heap.size w (.slice none 0 0) [] wr d xs) (fun _ _ _ _ _ i _ => len - (intOf i).toNat)
  case atStart => exact ⟨[], [], 0, 0, 0, 0, 1, rfl, rfl, rfl, rfl, rfl, by omega, by omega, by omega, by omega, by omega, by omega, by omega, open_start zs, rfl, rfl, rfl, rfl, Ap.start (Owns.nil _ _ _ _)⟩
  case round =>
    obtain ⟨xs, ps, s, k, q, S, P, rfl, rfl, rfl, rfl, rfl, hq, hk9, hsq, hS0, hS1, hP0, hP1, hop, hpk, hSv, hPv, hsf, hap⟩ := hrel
    have HA : Hid (Ap .u64 22 w.heap.size w (.slice none 0 0) [] wr _ xs) := hap
    have HO : Hid (Open zs xs ps q) := hop
    have HPK : Hid (ps.length = k) := hpk
    have HSV : Hid (S = val ps) := hSv
    have HPV : Hid (P = 128 ^ k) := hPv
    have HSF : Hid (s = (flat xs).length) := hsf
    have hsz : w.heap.size ≤ wr.heap.size := hap.size
    have hxl : xs.length ≤ len := by have := (flat_len xs).1; omega
    clear hap hop hpk hSv hPv hsf
    by_cases hlt : q < len
    · have hqz : Hid (q < zs.length) := by show _ < _; rw [HL.out]; exact hlt
      obtain ⟨b, off, ha, hbl, hc⟩ := HS.out.at (n := q) hqz.out
      subst ha
      have c0 : wr.cell? ⟨b, off + q, none⟩ = some (.int .u8 (el zs q)) := (HA.out.belowNil.cell hbl).trans (hc q hqz.out)
      have hbb := HZ.out.el q
      clear hc
      by_cases o1 : k = 9 ∧ 1 < el zs q
      · obtain ⟨o1, o2⟩ := o1
        have hall := open_over HO.out hqz.out (by rw [HPK.out]; exact o1) o2
        have o1' : 9 ≤ k := by omega
        clear o1
        go_wp2
        go_ret3
        exact ⟨_, xs, 3, tup3 (congrArg Nat.cast HSF.out), hall, hxl, HA.out.ownsNew, HA.out.belowNil⟩
      by_cases l1 : 0 < k ∧ el zs q = 0
      · obtain ⟨l1, l2⟩ := l1
        have hall := open_long HO.out hqz.out (by rw [HPK.out]; exact l1) l2
        have l2' : el zs q ≤ 0 := by omega
        clear l2
        by_cases k9 : 9 ≤ k
        · clear o1
          go_wp2
          go_ret3
          exact ⟨_, xs, 2, tup3 (congrArg Nat.cast HSF.out), hall, hxl, HA.out.ownsNew, HA.out.belowNil⟩
        · clear o1
          go_wp2
          go_ret3
          exact ⟨_, xs, 2, tup3 (congrArg Nat.cast HSF.out), hall, hxl, HA.out.ownsNew, HA.out.belowNil⟩
      by_cases h128 : el zs q < 128
      · have hlast := open_last HO.out HZ.out hqz.out h128 (by rw [HPK.out]; omega) (by rw [HPK.out]; omega)
        have hgr := wrap_group ps (el zs q) (by rw [HPK.out]; omega)
        rw [HPK.out, ← HPV.out, ← HSV.out] at hgr
        have HLAST : Hid (_ ∧ _) := hlast
        have HGR : Hid (_ ∧ _) := hgr
        clear hlast hgr
        by_cases k9 : 9 ≤ k
        · have o2 : ¬ 1 < el zs q := by omega
          have o3 : 0 < el zs q := by omega
          clear o1 l1
          go_wp2_with (at_builtin; refine ap64 _ rfl (.tmp 47) (.tmp 49) rfl rfl (HA.out.owns.alloc _) ?d1A _ _ _ [IntKind.u64.wrap (S + IntKind.u64.wrap (el zs q % 128 * P))] rfl rfl (sl_one _ _ _ _) ?d2A ?d3A)
          case d1A => first | omega | (simp; omega)
          case d2A => first | omega | (simp; omega)
          case d3A =>
            intro v' w1 hap
            have HC : Hid (Ap .u64 22 w.heap.size w (.slice none 0 0) [] w1 v' (xs ++ [val (ps ++ [el zs q])])) := by
              have := (HA.out.alloc _ H0.out).trans hap H0.out
              rw [HGR.out.1] at this
              exact this
            clear hap
            go_wp2
            go_roundw
            case rel => exact ⟨xs ++ [val (ps ++ [el zs q])], [], q + 1, 0, q + 1, 0, 1, by go_num, rfl, rfl, rfl, by go_num, by omega, by omega, by omega, by omega, by omega, by omega, by omega, HLAST.out.1, rfl, rfl, rfl, HLAST.out.2.symm, HC.out⟩
            case measure => simp [intOf]; omega
        · by_cases k0 : 0 < k
          · have o3 : 0 < el zs q := by omega
            clear o1 l1
            go_wp2_with (at_builtin; refine ap64 _ rfl (.tmp 47) (.tmp 49) rfl rfl (HA.out.owns.alloc _) ?d1B _ _ _ [IntKind.u64.wrap (S + IntKind.u64.wrap (el zs q % 128 * P))] rfl rfl (sl_one _ _ _ _) ?d2B ?d3B)
            case d1B => first | omega | (simp; omega)
            case d2B => first | omega | (simp; omega)
            case d3B =>
              intro v' w1 hap
              have HC : Hid (Ap .u64 22 w.heap.size w (.slice none 0 0) [] w1 v' (xs ++ [val (ps ++ [el zs q])])) := by
                have := (HA.out.alloc _ H0.out).trans hap H0.out
                rw [HGR.out.1] at this
                exact this
              clear hap
              go_wp2
              go_roundw
              case rel => exact ⟨xs ++ [val (ps ++ [el zs q])], [], q + 1, 0, q + 1, 0, 1, by go_num, rfl, rfl, rfl, by go_num, by omega, by omega, by omega, by omega, by omega, by omega, by omega, HLAST.out.1, rfl, rfl, rfl, HLAST.out.2.symm, HC.out⟩
              case measure => simp [intOf]; omega
          · clear o1 l1
            go_wp2_with (at_builtin; refine ap64 _ rfl (.tmp 47) (.tmp 49) rfl rfl (HA.out.owns.alloc _) ?d1C _ _ _ [IntKind.u64.wrap (S + IntKind.u64.wrap (el zs q % 128 * P))] rfl rfl (sl_one _ _ _ _) ?d2C ?d3C)
            case d1C => first | omega | (simp; omega)
            case d2C => first | omega | (simp; omega)
            case d3C =>
              intro v' w1 hap
              have HC : Hid (Ap .u64 22 w.heap.size w (.slice none 0 0) [] w1 v' (xs ++ [val (ps ++ [el zs q])])) := by
                have := (HA.out.alloc _ H0.out).trans hap H0.out
                rw [HGR.out.1] at this
                exact this
              clear hap
              go_wp2
              go_roundw
              case rel => exact ⟨xs ++ [val (ps ++ [el zs q])], [], q + 1, 0, q + 1, 0, 1, by go_num, rfl, rfl, rfl, by go_num, by omega, by omega, by omega, by omega, by omega, by omega, by omega, HLAST.out.1, rfl, rfl, rfl, HLAST.out.2.symm, HC.out⟩
              case measure => simp [intOf]; omega
      · have hm8 : k ≤ 8 := by omega
        have hmore := open_more HO.out HZ.out hqz.out (by rw [HPK.out]; exact hm8) (by omega)
        have hgr := wrap_group ps (el zs q) (by rw [HPK.out]; omega)
        rw [HPK.out, ← HPV.out, ← HSV.out] at hgr
        have HM : Hid (Open zs xs (ps ++ [el zs q]) (q + 1)) := hmore
        have HGR : Hid (_ ∧ _) := hgr
        have h128' : 128 ≤ el zs q := by omega
        clear hmore hgr o1 l1
        by_cases k0 : 0 < k
        · have k00 : 1 ≤ k := by omega
          go_wp2
          go_roundw
          case rel => exact ⟨xs, ps ++ [el zs q], s, k + 1, q + 1, _, _, rfl, by go_num, rfl, rfl, by go_num, by omega, by omega, by omega, (wrap_bd _).1, (wrap_bd _).2, (wrap_bd _).1, (wrap_bd _).2, HM.out, by rw [List.length_append, HPK.out]; rfl, HGR.out.1, by rw [HPV.out]; exact wrap_place k (by omega), HSF.out, HA.out⟩
          case measure => simp [intOf]; omega
        · have k00 : k ≤ 0 := by omega
          go_wp2
          go_roundw
          case rel => exact ⟨xs, ps ++ [el zs q], s, k + 1, q + 1, _, _, rfl, by go_num, rfl, rfl, by go_num, by omega, by omega, by omega, (wrap_bd _).1, (wrap_bd _).2, (wrap_bd _).1, (wrap_bd _).2, HM.out, by rw [List.length_append, HPK.out]; rfl, HGR.out.1, by rw [HPV.out]; exact wrap_place k (by omega), HSF.out, HA.out⟩
          case measure => simp [intOf]; omega
    · by_cases k0 : 0 < k
      · have hall := (open_end HO.out (by rw [HL.out]; omega)).1 (by rw [HPK.out]; exact k0)
        go_wp2
        go_ret3
        exact ⟨_, xs, 1, tup3 (congrArg Nat.cast HSF.out), hall, hxl, HA.out.ownsNew, HA.out.belowNil⟩
      · have hall := (open_end HO.out (by rw [HL.out]; omega)).2 (by rw [HPK.out]; omega)
        go_wp2
        go_ret3
        exact ⟨_, xs, 0, tup3 (congrArg Nat.cast HSF.out), hall, hxl, HA.out.ownsNew, HA.out.belowNil⟩
end Go.Proofs.Ymbrcj
