/-
  zzs930001dcopy and zzs930001dwant.
-/
import Derived.Test.YmbrciFlat
import Derived.Test.YmbrciDig
namespace Go.Proofs.Ymbrci
open Go.RowKit

theorem mk0 (w : World) {ops : Array Oper} {rest : List Oper} {o : Oper} {a : Act} {Q : Exit → Act → World → Prop} (hgd : o.guard = none) (l c : Operand) (hop : o.op = Op.makeSlice 22 l c)
    {base : Nat} (C : Int) (n : Nat) (hl : a.eval l = .int .i64 0) (hc : a.eval c = .int .i64 C) (hC : C = (n : Int)) (hbd : n ≤ 1000000000000) (hb : base ≤ w.heap.size)
    (hK : ∀ w', Owns .u8 5 base w' (.slice (some ⟨w.heap.size, 0, none⟩) 0 n) [] → Below w.heap.size w w' → wpList Ycim.prog ops Q rest (a.put o.dst (.slice (some ⟨w.heap.size, 0, none⟩) 0 n)) w') : wpList Ycim.prog ops Q (o :: rest) a w := by
  obtain ⟨i0, hi, hz0, hz1, hz2⟩ := info_parts info8
  exact wpList_make_own w hgd l c 22 hop base 5 i0 _ 1 Ycim.underlying22 hi hz0 hz1 .i64 .i64 C n hl hc hC (by rw [hz2]; omega) (by unfold maxLen; omega) hb fun w' h1 h2 => hK w' h1 (grown_below h2)

def CopyPost (w : World) (a : Option Addr) (xs : List Int) (e : Ending) (w' : World) : Prop :=
  ∃ v, e = .returned v ∧ Owns .u8 5 w.heap.size w' v xs ∧ Below w.heap.size w w' ∧ ∃ p n c, v = .slice p n c ∧ p.isNone = a.isNone
set_option maxHeartbeats 2000000 in
theorem dcopy_any (a : Option Addr) (n c : Nat) (xs : List Int) (w : World) (hn : xs.length = n) (mn : n ≤ 1000000000) (hs : Sl .u8 w a xs) (hz : a = none → n = 0 ∧ c = 0) :
    Calls Ycim.prog 28 #[.slice a n c] w fun e w' => CopyPost w a xs e w' := by
  have HN : Hid (xs.length = n) := hn
  have HS : Hid (Sl .u8 w a xs) := hs
  clear hn hs
  have hnl := fun w => Lib.run_eql_slice_nil (P := Ycim.prog) w 22 5 a n c 0 0 Ycim.underlying22
  by_cases ha : a = none
  · obtain ⟨rfl, rfl⟩ := hz ha
    subst ha
    have : xs = [] := List.eq_nil_of_length_eq_zero HN.out
    subst this
    clear hz HN HS
    go_enter Ycim.func28, Ycim.ntmps28
    go_wp2
    go_ret
    exact ⟨_, rfl, Owns.nil _ _ _ _, Below.refl _ _, none, 0, 0, rfl, rfl⟩
  · have hi : a.isNone = false := by cases a; · exact absurd rfl ha
                                     · rfl
    rw [hi] at hnl
    have HI : Hid (a.isNone = false) := hi
    clear hz ha hi
    go_enter Ycim.func28, Ycim.ntmps28
    go_wp2_with (at_make; refine mk8 _ rfl (.tmp 8) (.tmp 8) rfl (base := w.heap.size) _ _ n rfl rfl ?m1 ?m1b ?m2 (Nat.le_refl _) ?m3)
    case m1 => rfl
    case m1b => rfl
    case m2 => omega
    case m3 =>
    intro w1 hown hbel
    have O1 : Hid (Owns .u8 5 w.heap.size w1 (.slice (some ⟨w.heap.size, 0, none⟩) n n) (List.replicate n 0)) := hown
    have B1 : Hid (Below w.heap.size w w1) := hbel
    clear hown hbel hnl
    go_wp2
    go_loopw [4] (fun i wr => ∃ (q : Nat) (zs : List Int), i = .int .i64 q ∧ q ≤ n ∧ zs.length = n ∧ Owns .u8 5 w.heap.size wr (.slice (some ⟨w.heap.size, 0, none⟩) n n) zs ∧ Below w.heap.size w wr ∧ ∀ j, j < q → el zs j = el xs j) (fun i _ => n - (intOf i).toNat)
    case atStart => exact ⟨0, List.replicate n 0, rfl, by omega, List.length_replicate, O1.out, B1.out, fun j hj => by omega⟩
    case round =>
      clear O1 B1
      obtain ⟨q, zs, rfl, hq, hzl, ho, hbe, hj⟩ := hrel
      have HO : Hid (Owns .u8 5 w.heap.size wr (.slice (some ⟨w.heap.size, 0, none⟩) n n) zs) := ho
      have HB : Hid (Below w.heap.size w wr) := hbe
      have HJ : Hid (∀ j, j < q → el zs j = el xs j) := hj
      have HZ : Hid (zs.length = n) := hzl
      clear ho hbe hj hzl
      by_cases hlt : q < n
      · have SX := HS.out.later HB.out (Nat.le_refl _)
        obtain ⟨ba, oa, ea, _, hca⟩ := SX.at (n := q) (by rw [HN.out]; omega)
        subst ea
        have k1 : wr.cell? ⟨ba, oa + q, none⟩ = some (.int .u8 (el xs q)) := hca q (by rw [HN.out]; omega)
        have k2 : wr.cell? ⟨w.heap.size, q, none⟩ = some (.int .u8 (el zs q)) := (HO.out.at (by rw [HZ.out]; exact hlt)).1
        have k3 : wr.frozen? ⟨w.heap.size, q, none⟩ = false := (HO.out.at (by rw [HZ.out]; exact hlt)).2
        clear hca SX
        go_wp2
        go_roundw
        case rel => exact ⟨q + 1, zs.set q (el xs q), by go_num, by omega, by rw [List.length_set, HZ.out], HO.out.set _ _, HB.out.setCell (Nat.le_refl _) _, fun j hj => by
          by_cases e : j = q
          · rw [e, el_set_same _ (by rw [HZ.out]; exact hlt)]
          · rw [el_set_other _ e]; exact HJ.out j (by omega)⟩
        case measure => simp [intOf]; omega
      · obtain rfl : q = n := by omega
        go_wp2
        go_ret
        have e1 : zs = xs := list_ext (by rw [HZ.out, HN.out]) (by rw [HZ.out]; exact HJ.out)
        exact ⟨_, rfl, by rw [← e1]; exact HO.out, HB.out, _, _, _, rfl, HI.out.symm⟩
theorem and127b {c : Int} (h₀ : 0 ≤ c) (h₁ : c ≤ 255) : bits .and .u8 c 127 = c % 128 := by
  rw [u8_and c 127 h₀ (by omega) (by omega) (by omega), show (127 : Int).toNat = 127 from rfl, nat_mask7]
  omega
theorem E_digit_last {x : Int} {n i : Nat} (h0 : 0 ≤ x) (h1 : x ≤ 18446744073709551615) (hn : (E x).length = n) (hi : i < n) : el (E x) i = x / 2 ^ (7 * i) % 128 + (if i + 1 < n then 128 else 0) := by
  subst hn; exact E_digit x h0 h1 i hi

set_option maxRecDepth 100000 in
set_option maxHeartbeats 4000000 in
theorem dwant_any (a b : Option Addr) (n c m d : Nat) (ds xs : List Int) (w : World) (hn : ds.length = n) (mn : n ≤ 1024) (hm : xs.length = m) (mm : m ≤ 1024) (hs : Sl .u8 w a ds) (hx : Sl .u64 w b xs) (hw : Words xs) :
    Calls Ycim.prog 30 #[.slice a n c, .slice b m d] w fun e w' => ∃ v, e = .returned v ∧ Owns .u8 5 w.heap.size w' v (ds ++ flat xs) ∧ Below w.heap.size w w' := by
  have HN : Hid (ds.length = n) := hn
  have HM : Hid (xs.length = m) := hm
  have HS : Hid (Sl .u8 w a ds) := hs
  have HX : Hid (Sl .u64 w b xs) := hx
  have HW : Hid (Words xs) := hw
  clear hn hm hs hx hw
  go_enter Ycim.func30, Ycim.ntmps30
  go_wp2_with (at_make; refine mk0 _ rfl (.const (.int .i64 0)) (.tmp 16) rfl (base := w.heap.size) _ (n + 10 * m) rfl rfl ?m1 ?m2 (Nat.le_refl _) ?m3)
  case m1 => omega
  case m2 => omega
  case m3 =>
  intro w1 hown hbel
  have O1 : Hid (Owns .u8 5 w.heap.size w1 (.slice (some ⟨w.heap.size, 0, none⟩) 0 (n + 10 * m)) []) := hown
  have B1 : Hid (Below w.heap.size w w1) := hbel
  clear hown hbel
  go_wp2
  go_loopw [5, 6] (fun v i wr => ∃ (q : Nat), i = .int .i64 q ∧ q ≤ n ∧ Owns .u8 5 w.heap.size wr v (ds.take q) ∧ Below w.heap.size w wr) (fun _ i _ => n - (intOf i).toNat)
  case atStart => exact ⟨0, rfl, by omega, by rw [List.take_zero]; exact O1.out, B1.out⟩
  case round =>
    clear O1 B1
    obtain ⟨q, rfl, hq, ho, hbe⟩ := hrel
    have HO : Hid (Owns .u8 5 w.heap.size wr u5 (ds.take q)) := ho
    have HB : Hid (Below w.heap.size w wr) := hbe
    have hsz := hbe.size
    clear ho hbe
    by_cases hlt : q < n
    · have SX := HS.out.later HB.out (Nat.le_refl _)
      obtain ⟨ba, oa, ea, _, hca⟩ := SX.at (n := q) (by rw [HN.out]; omega)
      subst ea
      have k1 : wr.cell? ⟨ba, oa + q, none⟩ = some (.int .u8 (el ds q)) := hca q (by rw [HN.out]; omega)
      clear hca SX
      go_wp2_with (at_builtin; refine ap8 _ rfl (.tmp 24) (.tmp 29) rfl rfl (HO.out.alloc _) ?c1 _ _ _ [el ds q] rfl rfl (sl_one _ _ _ _) ?c2 ?c3)
      case c1 => first | omega | (simp; omega)
      case c2 => first | omega | (simp; omega)
      case c3 =>
        intro v' w2 hap
        have H2 : Hid (Owns .u8 5 w.heap.size w2 v' (ds.take (q + 1))) := by
          have := hap.owns
          rwa [← take_succ_el (by rw [HN.out]; exact hlt)] at this
        have H3 : Hid (Below w.heap.size w w2) := (HB.out.alloc hsz _).trans (hap.below (HO.out.alloc _) (by simp; omega))
        clear hap HO HB k1
        go_wp2
        go_roundw
        case rel => exact ⟨q + 1, by go_num, by omega, H2.out, H3.out⟩
        case measure => simp [intOf]; omega
    · obtain rfl : q = n := by omega
      have H1 : Hid (Owns .u8 5 w.heap.size wr u5 ds) := by have := HO.out; rwa [List.take_of_length_le (by rw [HN.out]; exact Nat.le_refl _)] at this
      clear HO
      obtain ⟨w3, hw3⟩ : ∃ w3 : World, w3 = wr := ⟨_, rfl⟩
      rw [← hw3] at H1 HB ⊢
      obtain ⟨v3, hv3⟩ : ∃ v3 : Value, v3 = u5 := ⟨_, rfl⟩
      rw [← hv3] at H1 ⊢
      clear hw3 hv3 hsz
      go_wp2
      go_loopw [5, 7] (fun v i wr => ∃ (p : Nat), i = .int .i64 p ∧ p ≤ m ∧ Owns .u8 5 w.heap.size wr v (ds ++ flat (xs.take p)) ∧ Below w.heap.size w wr) (fun _ i _ => m - (intOf i).toNat)
      case atStart => exact ⟨0, rfl, by omega, by rw [List.take_zero, flat_nil, List.append_nil]; exact H1.out, HB.out⟩
      case round =>
        clear H1 HB
        obtain ⟨p, rfl, hp, ho, hbe⟩ := hrel
        have HO : Hid (Owns .u8 5 w.heap.size wr u5 (ds ++ flat (xs.take p))) := ho
        have HB : Hid (Below w.heap.size w wr) := hbe
        clear ho hbe
        by_cases hlt : p < m
        · have hxb := HW.out.el p
          have HXP : Hid (flat (xs.take (p + 1)) = flat (xs.take p) ++ E (el xs p)) := flat_take_succ (by rw [HM.out]; exact hlt)
          have HPL : Hid ((flat (xs.take p)).length ≤ 10 * p) := flat_take_len xs p
          have HC : Hid (∃ ba oa, b = some ⟨ba, oa, none⟩ ∧ ∀ w', Below w.heap.size w w' → w'.cell? ⟨ba, oa + p, none⟩ = some (.int .u64 (el xs p))) := by
            obtain ⟨ba, oa, ea, hbl, hca⟩ := HX.out.at (n := p) (by rw [HM.out]; omega)
            exact ⟨ba, oa, ea, fun w' hb' => (hb'.cell (p := ⟨ba, oa + p, none⟩) hbl).trans (hca p (by rw [HM.out]; omega))⟩
          obtain ⟨x, hxx⟩ : ∃ x, el xs p = x := ⟨_, rfl⟩
          rw [hxx] at hxb HXP HC
          obtain ⟨hx0, hx1⟩ := hxb
          have hl := E_len x
          have HWD : Hid (∀ n, 1 ≤ n → (n < (E x).length ↔ (128 : Int) ^ n ≤ x)) := E_wide x hx0 hx1
          obtain ⟨L, hL⟩ : ∃ L, (E x).length = L := ⟨_, rfl⟩
          rw [hL] at hl HWD
          have HL : Hid ((E x).length = L) := hL
          clear hxx hL
          obtain ⟨w4, hw4⟩ : ∃ w4 : World, w4 = wr := ⟨_, rfl⟩
          rw [← hw4] at HO HB ⊢
          obtain ⟨v4, hv4⟩ : ∃ v4 : Value, v4 = u5 := ⟨_, rfl⟩
          rw [← hv4] at HO ⊢
          clear hw4 hv4
          obtain ⟨ba, oa, rfl, hcc⟩ := HC.out
          have HC2 : Hid (∀ w', Below w.heap.size w w' → w'.cell? ⟨ba, oa + p, none⟩ = some (.int .u64 x)) := hcc
          clear HC hcc
          go_wp2
          go_loopw [8] (fun i wr => ∃ k : Nat, i = .int .u64 k ∧ 1 ≤ k ∧ k ≤ L ∧ Owns .u8 5 w.heap.size wr v4 (ds ++ flat (xs.take p)) ∧ Below w.heap.size w wr) (fun i _ => 10 - (intOf i).toNat)
          case atStart => exact ⟨1, rfl, by omega, by omega, HO.out, HB.out⟩
          case round =>
            clear HO HB
            obtain ⟨k, rfl, hk1, hkL, ho, hbe⟩ := hrel
            have HO : Hid (Owns .u8 5 w.heap.size wr v4 (ds ++ flat (xs.take p))) := ho
            have HB : Hid (Below w.heap.size w wr) := hbe
            clear ho hbe
            have hiff := HWD.out k hk1
            have k1 := HC2.out wr HB.out
            by_cases hkl : k < L
            · have hsh : (x / 2 ^ (7 * k) != 0) = true := by rw [shr_ne x k hx0]; simpa using hiff.1 hkl
              have h10 : k < 10 := by omega
              clear hiff
              go_wp2
              go_roundw
              case rel => exact ⟨k + 1, by go_num, by omega, by omega, HO.out, HB.out⟩
              case measure => simp [intOf]; omega
            · obtain rfl : k = L := by omega
              have hsh : (x / 2 ^ (7 * k) != 0) = false := by rw [shr_ne x k hx0]; simp; omega
              clear hiff
              obtain ⟨w5, hw5⟩ : ∃ w5 : World, w5 = wr := ⟨_, rfl⟩
              rw [← hw5] at HO HB k1 ⊢
              clear hw5
              by_cases h10 : k < 10
              · go_wp2
                clear hsh
                go_loopw [5, 9] (fun v i wr => ∃ j : Nat, i = .int .u64 j ∧ j ≤ k ∧ Owns .u8 5 w.heap.size wr v (ds ++ flat (xs.take p) ++ (E x).take j) ∧ Below w.heap.size w wr) (fun _ i _ => k - (intOf i).toNat)
                case atStart => exact ⟨0, rfl, by omega, by rw [List.take_zero, List.append_nil]; exact HO.out, HB.out⟩
                case round =>
                  clear HO HB k1
                  obtain ⟨j, rfl, hj, ho, hbe⟩ := hrel
                  have HO : Hid (Owns .u8 5 w.heap.size wr u5 (ds ++ flat (xs.take p) ++ (E x).take j)) := ho
                  have HB : Hid (Below w.heap.size w wr) := hbe
                  have hsz := hbe.size
                  have k1 := HC2.out wr hbe
                  clear ho hbe
                  have HLL : Hid ((ds ++ flat (xs.take p) ++ (E x).take j).length ≤ q + 10 * p + j) := by
                    show _ ≤ _
                    rw [List.length_append, List.length_append, HN.out, List.length_take]; have := HPL.out; omega
                  by_cases hjk : j < k
                  · have hd := E_digit_last hx0 hx1 HL.out hjk
                    have hq0 : 0 ≤ x / 2 ^ (7 * j) := Int.ediv_nonneg hx0 (by rw [p7]; have := p128_pos j; omega)
                    have hq1 : x / 2 ^ (7 * j) ≤ 18446744073709551615 := Int.le_trans (Int.ediv_le_self _ hx0) hx1
                    have m1 := and127b (c := x / 2 ^ (7 * j) % 256) (by omega) (by omega)
                    have m3 : x / 2 ^ (7 * j) % 256 % 128 = x / 2 ^ (7 * j) % 128 := by omega
                    rw [m3] at m1
                    clear m3
                    have m2 : (x / 2 ^ (7 * j) % 128 + 128) % 256 = x / 2 ^ (7 * j) % 128 + 128 := by omega
                    by_cases hlast : j + 1 < k
                    · rw [if_pos hlast] at hd
                      have HD : Hid (el (E x) j = x / 2 ^ (7 * j) % 128 + 128) := hd
                      clear hd
                      go_wp2_with (at_builtin; refine ap8 _ rfl (.tmp 71) (.tmp 73) rfl rfl (HO.out.alloc _) ?e1A _ _ _ [_] rfl rfl (sl_one _ _ _ _) ?e2A ?e3A)
                      case e1A => first | omega | (simp; omega)
                      case e2A => have := HLL.out; rw [List.length_singleton]; omega
                      case e3A =>
                        intro v' w6 hap
                        rw [← HD.out, ← List.append_assoc] at hap
                        have H2 : Hid (Owns .u8 5 w.heap.size w6 v' (ds ++ flat (xs.take p) ++ (E x).take (j + 1))) := by
                          have := hap.owns
                          rw [take_succ_el (by rw [HL.out]; exact hjk)]
                          simp only [List.append_assoc] at this ⊢
                          exact this
                        have H3 : Hid (Below w.heap.size w w6) := (HB.out.alloc hsz _).trans (hap.below (HO.out.alloc _) (by simp; omega))
                        clear hap HO HB k1
                        go_wp2
                        go_roundw
                        case rel => exact ⟨j + 1, by go_num, by omega, H2.out, H3.out⟩
                        case measure => simp [intOf]; omega
                    · rw [if_neg hlast, Int.add_zero] at hd
                      have HD : Hid (el (E x) j = x / 2 ^ (7 * j) % 128) := hd
                      clear hd
                      go_wp2_with (at_builtin; refine ap8 _ rfl (.tmp 71) (.tmp 73) rfl rfl (HO.out.alloc _) ?f1A _ _ _ [_] rfl rfl (sl_one _ _ _ _) ?f2A ?f3A)
                      case f1A => first | omega | (simp; omega)
                      case f2A => have := HLL.out; rw [List.length_singleton]; omega
                      case f3A =>
                        intro v' w6 hap
                        rw [← HD.out, ← List.append_assoc] at hap
                        have H2 : Hid (Owns .u8 5 w.heap.size w6 v' (ds ++ flat (xs.take p) ++ (E x).take (j + 1))) := by
                          have := hap.owns
                          rw [take_succ_el (by rw [HL.out]; exact hjk)]
                          simp only [List.append_assoc] at this ⊢
                          exact this
                        have H3 : Hid (Below w.heap.size w w6) := (HB.out.alloc hsz _).trans (hap.below (HO.out.alloc _) (by simp; omega))
                        clear hap HO HB k1
                        go_wp2
                        go_roundw
                        case rel => exact ⟨j + 1, by go_num, by omega, H2.out, H3.out⟩
                        case measure => simp [intOf]; omega
                  · obtain rfl : j = k := by omega
                    clear k1
                    go_wp2
                    go_roundw
                    case rel => exact ⟨p + 1, by go_num, by omega, by rw [HXP.out, ← List.append_assoc]; have := HO.out; rwa [List.take_of_length_le (l := E x) (by rw [HL.out]; exact Nat.le_refl _)] at this, HB.out⟩
                    case measure => simp [intOf]; omega
              · go_wp2
                clear hsh
                go_loopw [5, 9] (fun v i wr => ∃ j : Nat, i = .int .u64 j ∧ j ≤ k ∧ Owns .u8 5 w.heap.size wr v (ds ++ flat (xs.take p) ++ (E x).take j) ∧ Below w.heap.size w wr) (fun _ i _ => k - (intOf i).toNat)
                case atStart => exact ⟨0, rfl, by omega, by rw [List.take_zero, List.append_nil]; exact HO.out, HB.out⟩
                case round =>
                  clear HO HB k1
                  obtain ⟨j, rfl, hj, ho, hbe⟩ := hrel
                  have HO : Hid (Owns .u8 5 w.heap.size wr u5 (ds ++ flat (xs.take p) ++ (E x).take j)) := ho
                  have HB : Hid (Below w.heap.size w wr) := hbe
                  have hsz := hbe.size
                  have k1 := HC2.out wr hbe
                  clear ho hbe
                  have HLL : Hid ((ds ++ flat (xs.take p) ++ (E x).take j).length ≤ q + 10 * p + j) := by
                    show _ ≤ _
                    rw [List.length_append, List.length_append, HN.out, List.length_take]; have := HPL.out; omega
                  by_cases hjk : j < k
                  · have hd := E_digit_last hx0 hx1 HL.out hjk
                    have hq0 : 0 ≤ x / 2 ^ (7 * j) := Int.ediv_nonneg hx0 (by rw [p7]; have := p128_pos j; omega)
                    have hq1 : x / 2 ^ (7 * j) ≤ 18446744073709551615 := Int.le_trans (Int.ediv_le_self _ hx0) hx1
                    have m1 := and127b (c := x / 2 ^ (7 * j) % 256) (by omega) (by omega)
                    have m3 : x / 2 ^ (7 * j) % 256 % 128 = x / 2 ^ (7 * j) % 128 := by omega
                    rw [m3] at m1
                    clear m3
                    have m2 : (x / 2 ^ (7 * j) % 128 + 128) % 256 = x / 2 ^ (7 * j) % 128 + 128 := by omega
                    by_cases hlast : j + 1 < k
                    · rw [if_pos hlast] at hd
                      have HD : Hid (el (E x) j = x / 2 ^ (7 * j) % 128 + 128) := hd
                      clear hd
                      go_wp2_with (at_builtin; refine ap8 _ rfl (.tmp 71) (.tmp 73) rfl rfl (HO.out.alloc _) ?e1B _ _ _ [_] rfl rfl (sl_one _ _ _ _) ?e2B ?e3B)
                      case e1B => first | omega | (simp; omega)
                      case e2B => have := HLL.out; rw [List.length_singleton]; omega
                      case e3B =>
                        intro v' w6 hap
                        rw [← HD.out, ← List.append_assoc] at hap
                        have H2 : Hid (Owns .u8 5 w.heap.size w6 v' (ds ++ flat (xs.take p) ++ (E x).take (j + 1))) := by
                          have := hap.owns
                          rw [take_succ_el (by rw [HL.out]; exact hjk)]
                          simp only [List.append_assoc] at this ⊢
                          exact this
                        have H3 : Hid (Below w.heap.size w w6) := (HB.out.alloc hsz _).trans (hap.below (HO.out.alloc _) (by simp; omega))
                        clear hap HO HB k1
                        go_wp2
                        go_roundw
                        case rel => exact ⟨j + 1, by go_num, by omega, H2.out, H3.out⟩
                        case measure => simp [intOf]; omega
                    · rw [if_neg hlast, Int.add_zero] at hd
                      have HD : Hid (el (E x) j = x / 2 ^ (7 * j) % 128) := hd
                      clear hd
                      go_wp2_with (at_builtin; refine ap8 _ rfl (.tmp 71) (.tmp 73) rfl rfl (HO.out.alloc _) ?f1B _ _ _ [_] rfl rfl (sl_one _ _ _ _) ?f2B ?f3B)
                      case f1B => first | omega | (simp; omega)
                      case f2B => have := HLL.out; rw [List.length_singleton]; omega
                      case f3B =>
                        intro v' w6 hap
                        rw [← HD.out, ← List.append_assoc] at hap
                        have H2 : Hid (Owns .u8 5 w.heap.size w6 v' (ds ++ flat (xs.take p) ++ (E x).take (j + 1))) := by
                          have := hap.owns
                          rw [take_succ_el (by rw [HL.out]; exact hjk)]
                          simp only [List.append_assoc] at this ⊢
                          exact this
                        have H3 : Hid (Below w.heap.size w w6) := (HB.out.alloc hsz _).trans (hap.below (HO.out.alloc _) (by simp; omega))
                        clear hap HO HB k1
                        go_wp2
                        go_roundw
                        case rel => exact ⟨j + 1, by go_num, by omega, H2.out, H3.out⟩
                        case measure => simp [intOf]; omega
                  · obtain rfl : j = k := by omega
                    clear k1
                    go_wp2
                    go_roundw
                    case rel => exact ⟨p + 1, by go_num, by omega, by rw [HXP.out, ← List.append_assoc]; have := HO.out; rwa [List.take_of_length_le (l := E x) (by rw [HL.out]; exact Nat.le_refl _)] at this, HB.out⟩
                    case measure => simp [intOf]; omega
        · obtain rfl : p = m := by omega
          go_wp2
          go_ret
          exact ⟨_, rfl, by have := HO.out; rwa [List.take_of_length_le (by rw [HM.out]; exact Nat.le_refl _)] at this, HB.out⟩
end Go.Proofs.Ymbrci
