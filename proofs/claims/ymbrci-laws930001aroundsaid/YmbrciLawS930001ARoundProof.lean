/-
  'Rows.LawS930001ARoundSaid': the guide's shell at this function, its walk filled.
-/
import Derived.Test.YmbrciRows
import Derived.WalkKit
import Derived.ProofKit
import Derived.OpenShut
import Derived.ShutString
import Derived.ChangeOld
import Derived.Below
import Derived.Test.YmbrciSig
import Derived.Test.YmbrciOwn
namespace Go.Proofs.Ymbrci.lawS930001ARound
open Go.ChangeShapes Go.WideShapes Go.ChangeAt Go.RowKit
open Go.ChangeMaps (open_string shut_string)
set_option linter.unusedVariables false

theorem own : ownKnob Ycim.prog.godebug = none := by kernel_rfl
theorem laidOut : laidOutB Ycim.prog = true := by kernel_rfl

/-- WHAT THE WALK IS TOLD OF A SLICE OF INTEGERS THAT CAME IN: it is nil; or it leads to a row of 'cap' cells, the numbers 'zs' (the first 'len' are its elements, the rest its spare room), each fitting its kind. -/
def IsRow (k : IntKind) (w : World) (a : Option Addr) (len cap : Nat) (zs : List Int) : Prop :=
  (a = none ∧ len = 0 ∧ cap = 0 ∧ zs = []) ∨
  ∃ x, a = some x ∧ len ≤ cap ∧ cap ≤ maxLen ∧ zs.length = cap ∧ (∀ i, i < zs.length → w.cell? (x.add i) = some (.int k (zs.getD i 0))) ∧ ∀ n ∈ zs, (Lit.int k n).wf = true

theorem wrap64_bd (n : Int) : -9223372036854775808 ≤ wrap64 n ∧ wrap64 n ≤ 9223372036854775807 := i64_bd (wrap64_wf n)

set_option maxHeartbeats 4000000 in
theorem walk (a0 : Int) (a1 : Int) (a2 : Option Addr) (len2 cap2 : Nat) (z2 : List Int) (w : World) (w0 : (Lit.int .i64 a0).wf = true) (w1 : (Lit.int .u8 a1).wf = true) (w2 : IsRow .u8 w a2 len2 cap2 z2) :
    Calls Ycim.prog 4 #[.int .i64 a0, .int .u8 a1, .slice a2 len2 cap2] w fun e w' => e = .returned (.bool true) ∧ Below w.heap.size w w' := by
  obtain ⟨ts, ht, htc, mt, st, wt, _⟩ := sl_of_row w2
  have hx0 := i64_bd w0
  have hx1 := u8_bd w1
  clear w0 w1 w2
  by_cases hbig : 1024 < len2
  · go_enter Ycim.func4, Ycim.ntmps4
    go_wp2
    go_ret
    exact ⟨rfl, Below.refl _ _⟩
  obtain ⟨x, hx⟩ : ∃ x, wrap64 (a0 * 2 ^ (a1 % 64).toNat) = x := ⟨_, rfl⟩
  have hxb : -9223372036854775808 ≤ x ∧ x ≤ 9223372036854775807 := by rw [← hx]; exact wrap64_bd _
  have ST : Hid (Sl .u8 w a2 ts) := st
  have HT : Hid (ts.length = len2) := ht
  have BT : Hid (Bytes ts) := bytes_of_wf wt
  have H0 : Hid (∀ g, (Value.slice none 0 0).ownBlock = some g → g < w.heap.size) := fun g hg => by simp [Value.ownBlock] at hg
  have d1 : decide (1024 < len2) = false := decide_eq_false hbig
  have d2 : decide ((1024 : Int) < (len2 : Int)) = false := decide_eq_false (by omega)
  clear st ht wt htc mt
  by_cases hneg : 0 ≤ x
  · have hneg' : -1 < x := by omega
    go_enter Ycim.func4, Ycim.ntmps4
    go_wp2
    try rw [hx]
    obtain ⟨U, hU⟩ : ∃ U, U = x * 2 := ⟨_, rfl⟩
    rw [← hU]
    have hU0 : 0 ≤ U := by omega
    have hU1 : U ≤ 18446744073709551615 := by omega
    have HX : Hid (unz U = x) := by show _ = _; rw [unz_even (by omega)]; omega
    clear hx hU d1 d2
    go_loopw [8, 9] (fun t d wr => ∃ (y : Int) (ks : List Int), t = .int .u64 y ∧ 0 ≤ y ∧ y ≤ 18446744073709551615 ∧ Ap .u8 5 w.heap.size w (.slice none 0 0) [] wr d ks ∧ E U = ks ++ E y) (fun t _ _ => (intOf t).toNat)
    case atStart => exact ⟨U, [], rfl, hU0, hU1, Ap.start (Owns.nil _ _ _ _), rfl⟩
    case round =>
    obtain ⟨y, ks, rfl, hy0, hy1, hap, he⟩ := hrel
    have hlen := E_len U
    rw [he] at hlen
    rw [List.length_append] at hlen
    have hkl : ks.length ≤ 10 := by omega
    have HE : Hid (E U = ks ++ E y) := he
    have HA : Hid (Ap .u8 5 w.heap.size w (.slice none 0 0) [] wr u9 ks) := hap
    have hsz : w.heap.size ≤ wr.heap.size := hap.size
    clear hlen he hap
    by_cases hlt : 128 ≤ y
    · go_wp2_with (at_builtin; refine ap8 _ rfl (.tmp 40) (.tmp 45) rfl rfl (HA.out.owns.alloc _) ?c1A _ _ _ [y % 128 + 128] rfl rfl (sl_one _ _ _ _) ?c2A ?c3A)
      case c1A => first | omega | (simp; omega)
      case c2A => first | omega | (simp; omega)
      case c3A =>
        intro v' w1 hap
        have HB : Hid (Ap .u8 5 w.heap.size w (.slice none 0 0) [] w1 v' (ks ++ [y % 128 + 128])) := (HA.out.alloc _ H0.out).trans hap H0.out
        clear hap
        go_wp2
        go_roundw
        case rel => exact ⟨y / 128, ks ++ [y % 128 + 128], by go_num, by omega, by omega, HB.out, by rw [HE.out, E_big hlt hy1]; simp⟩
        case measure => simp [intOf]; omega
    · go_wp2_with (at_builtin; refine ap8 _ rfl (.tmp 49) (.tmp 52) rfl rfl (HA.out.owns.alloc _) ?d1A _ _ _ [y] rfl rfl (sl_one _ _ _ _) ?d2A ?d3A)
      case d1A => first | omega | (simp; omega)
      case d2A => first | omega | (simp; omega)
      case d3A =>
      intro v' w1 hap
      have hEx : E U = ks ++ [y] := by rw [HE.out, E_small (by omega)]
      have HB : Hid (Ap .u8 5 w.heap.size w (.slice none 0 0) [] w1 v' (E U)) := by
        show Ap _ _ _ _ _ _ _ _ _
        rw [hEx]
        exact (HA.out.alloc _ H0.out).trans hap H0.out
      clear hap hEx HE HA hsz hkl hlt hy0 hy1
      obtain ⟨p, c, hv, hc, mc, sp, _⟩ := HB.out.owns.shape
      rw [List.nil_append] at hv hc sp
      have hl := E_len U
      have BE : Hid (Bytes (E U)) := E_bytes hU0 hU1
      have HP : Hid (∀ k, k < (E U).length → dec ((E U).take k) 0 0 = (0, 0, 1)) := fun k hk => dec_E_pre hU0 hU1 hk
      have HD : Hid (dec (E U ++ ts) 0 0 = (U, ((E U).length : Int), 0)) := dec_E hU0 hU1 ts
      obtain ⟨n, hn⟩ : ∃ n, (E U).length = n := ⟨_, rfl⟩
      rw [hn] at hv hc hl
      subst hv
      have HN : Hid ((E U).length = n) := hn
      have S1 : Hid (Sl .u8 w1 p (E U)) := sp
      clear sp hn
      go_wp2
      go_loop [11] (fun i => ∃ k : Nat, i = .int .i64 k ∧ k ≤ n) (fun i => n - (intOf i).toNat)
      case atStart => exact ⟨0, rfl, by omega⟩
      case round =>
      obtain ⟨k, rfl, hk⟩ := hrel
      by_cases hkn : k < n
      · have s0 := run_pre Ycim.underlying22 size8 p n c k (by omega)
        have HK : Hid (((E U).take k).length = k) := by show _ = _; rw [List.length_take, HN.out]; omega
        obtain ⟨e1, e2, e3⟩ := dvs (HP.out k (by rw [HN.out]; exact hkn))
        have E1 : Hid (sv ((E U).take k) = 0) := sv_fail (by rw [e3]; omega)
        have E2 : Hid (dn ((E U).take k) = 0) := e2
        have E3 : Hid (dc ((E U).take k) = 1) := e3
        clear e1 e2 e3
        go_wp2_with fail
        refine (decodeSigned_any p k c ((E U).take k) w1 HK.out (by omega) (BE.out.take k) (S1.out.pre k)).mono ?_
        rintro e w2 ⟨rfl, rfl⟩
        rw [E1.out, E2.out, E3.out]
        go_wp2
        go_round
        case rel => exact ⟨k + 1, by go_num, by omega⟩
        case measure => simp [intOf]; omega
      · clear S1 HP
        obtain ⟨w0, hw0⟩ : ∃ w0 : World, w0 = w1 := ⟨_, rfl⟩
        rw [← hw0] at HB ⊢
        clear hw0
        go_wp2
        go_loopw [9, 15] (fun d i wr => ∃ q : Nat, i = .int .i64 q ∧ q ≤ len2 ∧ Ap .u8 5 w.heap.size w (.slice none 0 0) [] wr d (E U ++ ts.take q)) (fun _ i _ => len2 - (intOf i).toNat)
        case atStart => exact ⟨0, rfl, by omega, by simpa using HB.out⟩
        case round =>
        obtain ⟨q, rfl, hq, hap⟩ := hrel
        have HA : Hid (Ap .u8 5 w.heap.size w (.slice none 0 0) [] wr u9 (E U ++ ts.take q)) := hap
        have hsz : w.heap.size ≤ wr.heap.size := hap.size
        clear hap HB
        by_cases hql : q < len2
        · obtain ⟨b, off, ha, hbl, hcc⟩ := ST.out.at (n := q) (by rw [HT.out]; omega)
          subst ha
          have c0 : wr.cell? ⟨b, off + q, none⟩ = some (.int .u8 (el ts q)) := (HA.out.belowNil.cell hbl).trans (hcc q (by rw [HT.out]; omega))
          clear hcc
          go_wp2_with (at_builtin; refine ap8 _ rfl (.tmp 85) (.tmp 90) rfl rfl (HA.out.owns.alloc _) ?j1A _ _ _ [el ts q] rfl rfl (sl_one _ _ _ _) ?j2A ?j3A)
          case j1A => first | omega | (simp; omega)
          case j2A => rw [List.nil_append, List.length_append, HN.out]; simp; omega
          case j3A =>
            intro v' w1 hap
            have HC : Hid (Ap .u8 5 w.heap.size w (.slice none 0 0) [] w1 v' (E U ++ ts.take (q + 1))) := by
              have := (HA.out.alloc _ H0.out).trans hap H0.out
              show Ap _ _ _ _ _ _ _ _ _
              rw [take_succ_el (by rw [HT.out]; omega), ← List.append_assoc]
              exact this
            clear hap
            go_wp2
            go_roundw
            case rel => exact ⟨q + 1, by go_num, by omega, HC.out⟩
            case measure => simp [intOf]; omega
        · have hfull : ts.take q = ts := List.take_of_length_le (by rw [HT.out]; omega)
          have HA2 := HA.out
          rw [hfull] at HA2
          obtain ⟨p', c', hv, hc', mc', sp', _⟩ := HA2.owns.shape
          rw [List.nil_append] at hv hc' sp'
          have hnl : (E U ++ ts).length = n + len2 := by rw [List.length_append, HN.out, HT.out]
          rw [hnl] at hv hc'
          subst hv
          have HNL : Hid ((E U ++ ts).length = n + len2) := hnl
          have S2 : Hid (Sl .u8 wr p' (E U ++ ts)) := sp'
          have B2 : Hid (Below w.heap.size w wr) := HA2.belowNil
          obtain ⟨e1, e2, e3⟩ := dvs HD.out
          have E1 : Hid (sv (E U ++ ts) = x) := by show _ = _; rw [sv_ok e3, e1]; exact HX.out
          have E2 : Hid (dn (E U ++ ts) = (n : Int)) := by show _ = _; rw [e2, HN.out]
          have E3 : Hid (dc (E U ++ ts) = 0) := e3
          clear sp' HA HA2 hfull hnl e1 e2 e3
          go_wp2_with fail
          refine (decodeSigned_any p' (n + len2) c' (E U ++ ts) wr HNL.out (by omega) (BE.out.append BT.out) S2.out).mono ?_
          rintro e w3 ⟨rfl, rfl⟩
          rw [E1.out, E2.out, E3.out]
          go_wp2
          go_ret
          exact ⟨ret_bool (by simp), B2.out⟩
  · have hneg' : x < 0 := by omega
    go_enter Ycim.func4, Ycim.ntmps4
    go_wp2
    try rw [hx]
    obtain ⟨U, hU⟩ : ∃ U, U = -(x + 1) * 2 + 1 := ⟨_, rfl⟩
    rw [← hU]
    have hU0 : 0 ≤ U := by omega
    have hU1 : U ≤ 18446744073709551615 := by omega
    have HX : Hid (unz U = x) := by show _ = _; rw [unz_odd (by omega)]; omega
    clear hx hU d1 d2
    go_loopw [8, 9] (fun t d wr => ∃ (y : Int) (ks : List Int), t = .int .u64 y ∧ 0 ≤ y ∧ y ≤ 18446744073709551615 ∧ Ap .u8 5 w.heap.size w (.slice none 0 0) [] wr d ks ∧ E U = ks ++ E y) (fun t _ _ => (intOf t).toNat)
    case atStart => exact ⟨U, [], rfl, hU0, hU1, Ap.start (Owns.nil _ _ _ _), rfl⟩
    case round =>
    obtain ⟨y, ks, rfl, hy0, hy1, hap, he⟩ := hrel
    have hlen := E_len U
    rw [he] at hlen
    rw [List.length_append] at hlen
    have hkl : ks.length ≤ 10 := by omega
    have HE : Hid (E U = ks ++ E y) := he
    have HA : Hid (Ap .u8 5 w.heap.size w (.slice none 0 0) [] wr u9 ks) := hap
    have hsz : w.heap.size ≤ wr.heap.size := hap.size
    clear hlen he hap
    by_cases hlt : 128 ≤ y
    · go_wp2_with (at_builtin; refine ap8 _ rfl (.tmp 40) (.tmp 45) rfl rfl (HA.out.owns.alloc _) ?c1B _ _ _ [y % 128 + 128] rfl rfl (sl_one _ _ _ _) ?c2B ?c3B)
      case c1B => first | omega | (simp; omega)
      case c2B => first | omega | (simp; omega)
      case c3B =>
        intro v' w1 hap
        have HB : Hid (Ap .u8 5 w.heap.size w (.slice none 0 0) [] w1 v' (ks ++ [y % 128 + 128])) := (HA.out.alloc _ H0.out).trans hap H0.out
        clear hap
        go_wp2
        go_roundw
        case rel => exact ⟨y / 128, ks ++ [y % 128 + 128], by go_num, by omega, by omega, HB.out, by rw [HE.out, E_big hlt hy1]; simp⟩
        case measure => simp [intOf]; omega
    · go_wp2_with (at_builtin; refine ap8 _ rfl (.tmp 49) (.tmp 52) rfl rfl (HA.out.owns.alloc _) ?d1B _ _ _ [y] rfl rfl (sl_one _ _ _ _) ?d2B ?d3B)
      case d1B => first | omega | (simp; omega)
      case d2B => first | omega | (simp; omega)
      case d3B =>
      intro v' w1 hap
      have hEx : E U = ks ++ [y] := by rw [HE.out, E_small (by omega)]
      have HB : Hid (Ap .u8 5 w.heap.size w (.slice none 0 0) [] w1 v' (E U)) := by
        show Ap _ _ _ _ _ _ _ _ _
        rw [hEx]
        exact (HA.out.alloc _ H0.out).trans hap H0.out
      clear hap hEx HE HA hsz hkl hlt hy0 hy1
      obtain ⟨p, c, hv, hc, mc, sp, _⟩ := HB.out.owns.shape
      rw [List.nil_append] at hv hc sp
      have hl := E_len U
      have BE : Hid (Bytes (E U)) := E_bytes hU0 hU1
      have HP : Hid (∀ k, k < (E U).length → dec ((E U).take k) 0 0 = (0, 0, 1)) := fun k hk => dec_E_pre hU0 hU1 hk
      have HD : Hid (dec (E U ++ ts) 0 0 = (U, ((E U).length : Int), 0)) := dec_E hU0 hU1 ts
      obtain ⟨n, hn⟩ : ∃ n, (E U).length = n := ⟨_, rfl⟩
      rw [hn] at hv hc hl
      subst hv
      have HN : Hid ((E U).length = n) := hn
      have S1 : Hid (Sl .u8 w1 p (E U)) := sp
      clear sp hn
      go_wp2
      go_loop [11] (fun i => ∃ k : Nat, i = .int .i64 k ∧ k ≤ n) (fun i => n - (intOf i).toNat)
      case atStart => exact ⟨0, rfl, by omega⟩
      case round =>
      obtain ⟨k, rfl, hk⟩ := hrel
      by_cases hkn : k < n
      · have s0 := run_pre Ycim.underlying22 size8 p n c k (by omega)
        have HK : Hid (((E U).take k).length = k) := by show _ = _; rw [List.length_take, HN.out]; omega
        obtain ⟨e1, e2, e3⟩ := dvs (HP.out k (by rw [HN.out]; exact hkn))
        have E1 : Hid (sv ((E U).take k) = 0) := sv_fail (by rw [e3]; omega)
        have E2 : Hid (dn ((E U).take k) = 0) := e2
        have E3 : Hid (dc ((E U).take k) = 1) := e3
        clear e1 e2 e3
        go_wp2_with fail
        refine (decodeSigned_any p k c ((E U).take k) w1 HK.out (by omega) (BE.out.take k) (S1.out.pre k)).mono ?_
        rintro e w2 ⟨rfl, rfl⟩
        rw [E1.out, E2.out, E3.out]
        go_wp2
        go_round
        case rel => exact ⟨k + 1, by go_num, by omega⟩
        case measure => simp [intOf]; omega
      · clear S1 HP
        obtain ⟨w0, hw0⟩ : ∃ w0 : World, w0 = w1 := ⟨_, rfl⟩
        rw [← hw0] at HB ⊢
        clear hw0
        go_wp2
        go_loopw [9, 15] (fun d i wr => ∃ q : Nat, i = .int .i64 q ∧ q ≤ len2 ∧ Ap .u8 5 w.heap.size w (.slice none 0 0) [] wr d (E U ++ ts.take q)) (fun _ i _ => len2 - (intOf i).toNat)
        case atStart => exact ⟨0, rfl, by omega, by simpa using HB.out⟩
        case round =>
        obtain ⟨q, rfl, hq, hap⟩ := hrel
        have HA : Hid (Ap .u8 5 w.heap.size w (.slice none 0 0) [] wr u9 (E U ++ ts.take q)) := hap
        have hsz : w.heap.size ≤ wr.heap.size := hap.size
        clear hap HB
        by_cases hql : q < len2
        · obtain ⟨b, off, ha, hbl, hcc⟩ := ST.out.at (n := q) (by rw [HT.out]; omega)
          subst ha
          have c0 : wr.cell? ⟨b, off + q, none⟩ = some (.int .u8 (el ts q)) := (HA.out.belowNil.cell hbl).trans (hcc q (by rw [HT.out]; omega))
          clear hcc
          go_wp2_with (at_builtin; refine ap8 _ rfl (.tmp 85) (.tmp 90) rfl rfl (HA.out.owns.alloc _) ?j1B _ _ _ [el ts q] rfl rfl (sl_one _ _ _ _) ?j2B ?j3B)
          case j1B => first | omega | (simp; omega)
          case j2B => rw [List.nil_append, List.length_append, HN.out]; simp; omega
          case j3B =>
            intro v' w1 hap
            have HC : Hid (Ap .u8 5 w.heap.size w (.slice none 0 0) [] w1 v' (E U ++ ts.take (q + 1))) := by
              have := (HA.out.alloc _ H0.out).trans hap H0.out
              show Ap _ _ _ _ _ _ _ _ _
              rw [take_succ_el (by rw [HT.out]; omega), ← List.append_assoc]
              exact this
            clear hap
            go_wp2
            go_roundw
            case rel => exact ⟨q + 1, by go_num, by omega, HC.out⟩
            case measure => simp [intOf]; omega
        · have hfull : ts.take q = ts := List.take_of_length_le (by rw [HT.out]; omega)
          have HA2 := HA.out
          rw [hfull] at HA2
          obtain ⟨p', c', hv, hc', mc', sp', _⟩ := HA2.owns.shape
          rw [List.nil_append] at hv hc' sp'
          have hnl : (E U ++ ts).length = n + len2 := by rw [List.length_append, HN.out, HT.out]
          rw [hnl] at hv hc'
          subst hv
          have HNL : Hid ((E U ++ ts).length = n + len2) := hnl
          have S2 : Hid (Sl .u8 wr p' (E U ++ ts)) := sp'
          have B2 : Hid (Below w.heap.size w wr) := HA2.belowNil
          obtain ⟨e1, e2, e3⟩ := dvs HD.out
          have E1 : Hid (sv (E U ++ ts) = x) := by show _ = _; rw [sv_ok e3, e1]; exact HX.out
          have E2 : Hid (dn (E U ++ ts) = (n : Int)) := by show _ = _; rw [e2, HN.out]
          have E3 : Hid (dc (E U ++ ts) = 0) := e3
          clear sp' HA HA2 hfull hnl e1 e2 e3
          go_wp2_with fail
          refine (decodeSigned_any p' (n + len2) c' (E U ++ ts) wr HNL.out (by omega) (BE.out.append BT.out) S2.out).mono ?_
          rintro e w3 ⟨rfl, rfl⟩
          rw [E1.out, E2.out, E3.out]
          go_wp2
          go_ret
          exact ⟨ret_bool (by simp), B2.out⟩

/-! ### the row's step -/
set_option maxRecDepth 100000 in
theorem lifted (os : Os) (started : os.Started) (H : Type) (enc : TypeId × Value → H) :
    ReturnsInHanded {} Ycim.checked os 4 .any (Rows.lawS930001ARoundSpec.pre6 enc Ycim.prog Ycim.f4 Rows.lawS930001ARoundRow.domain false) (Rows.lawS930001ARoundSpec.post enc Ycim.prog Ycim.f4 false true false false) := by
  refine returnsInHanded_of_change (C := Ycim.checked) own started (by kernel_rfl) Ycim.func4
    (ChangeSpec.witness6 (enc := enc) (C := Ycim.checked) false ⟨#[], #[.int .i64 0, .int .u8 0, .slice none 0 0], []⟩ 8 (by kernel_rfl) (by kernel_rfl) (by kernel_rfl) (by kernel_rfl)) ?_
  intro W base args ds gs before hval0 hW hcnd _
  have hval : ∀ (j : Nat) t v, Ycim.f4.params[j]? = some t → args[j]? = some v → Value.okWide Ycim.prog W .any base t v := hval0
  have hW' := hW
  obtain ⟨p, q, hA0, hV, rfl, hfz, hnd⟩ := hW
  have hA : DataW.TrodAll enc Ycim.prog W 0 (fun _ => true) true Ycim.f4.params.toList args.toList ds p := hA0
  rw [Ycim.params4] at hA hval
  obtain ⟨v0, vs0, d0, ds0, p0, q0, hargs, rfl, rfl, h0, r0⟩ := trodAll_cons hA
  obtain ⟨v1, vs1, d1, ds1, p1, q1, rfl, rfl, rfl, h1, r1⟩ := trodAll_cons r0
  obtain ⟨v2, vs2, d2, ds2, p2, q2, rfl, rfl, rfl, h2, r2⟩ := trodAll_cons r1
  obtain ⟨rfl, rfl, rfl⟩ := trodAll_nil r2
  obtain rfl : args = #[v0, v1, v2] := by cases args; simp_all
  obtain ⟨rfl, rfl⟩ := trodVars_none hV
  obtain ⟨a0, rfl, rfl, rfl, w0⟩ := open_int Ycim.underlying2 (hval 0 2 v0 rfl rfl) h0
  obtain ⟨a1, rfl, rfl, rfl, w1⟩ := open_int Ycim.underlying5 (hval 1 5 v1 rfl rfl) h1
  obtain ⟨a2, len2, cap2, rfl⟩ := okWide_slice Ycim.underlying22 (hval 2 22 v2 rfl rfl)
  have k2 := h2
  have lt2 : ∀ x ∈ p2, x.block < W.heap.size := by obtain ⟨m, hm⟩ := k2; exact DataW.trod_lt m _ _ _ hm
  obtain ⟨z2, w2⟩ : ∃ zs, IsRow .u8 W a2 len2 cap2 zs := by
    obtain ⟨fuel, hf⟩ := h2
    rcases open_ints Ycim.underlying22 Ycim.underlying5 (by kernel_rfl) hf with ⟨hcs, _⟩ | ⟨x, l, c, zs, hcs, _, hl, hm, hz, _, hcell, hwz⟩
    · simp [Value.cells] at hcs
      obtain ⟨rfl, rfl, rfl⟩ := hcs
      exact ⟨[], .inl ⟨rfl, rfl, rfl, rfl⟩⟩
    · simp [Value.cells] at hcs
      obtain ⟨rfl, rfl, rfl⟩ := hcs
      exact ⟨zs, .inr ⟨_, rfl, hl, hm, by simpa using hz, hcell, hwz⟩⟩
  clear hA0 hval0
  refine (walk a0 a1 a2 len2 cap2 z2 W w0 w1 w2).mono fun e W' ⟨he, bel⟩ => ?_
  subst he
  exact ⟨_, rfl, _, _, _, [], _, [], hW', trodAll_mk1 (shut_bool Ycim.underlying4 _), (trodAll_cons_mk (shut_int Ycim.underlying2 w0) (trodAll_cons_mk (shut_int Ycim.underlying5 w1) (trodAll_cons_mk (Below.trod laidOut (by kernel_rfl) (of_decide_eq_true (by kernel_rfl)) k2 bel lt2) trodAll_mk0))), rfl, bel.frame _, fun h => by cases h⟩

theorem over : Rows.lawS930001ARoundRow.holds Ycim.pinned (OpenSpec.ofChange Rows.lawS930001ARoundSpec) :=
  OpenClaim.holds_of_wide 4 Ycim.f4 rfl rfl rfl rfl rfl rfl rfl ⟨rfl, rfl, rfl, rfl, rfl⟩ rfl rfl rfl rfl rfl (by kernel_rfl) Ycim.func4 (by kernel_rfl)
    (of_decide_eq_true (by kernel_rfl)) (by unfold Func.isWrapper; first | (rw [if_pos (by decide +kernel)]; kernel_rfl) | (rw [if_neg (by decide +kernel)]; exact ⟨rfl, rfl⟩))
    (fun os started H enc _ => lifted os started H enc)

/-- ████ THE STATEMENT ████ -/
theorem proved : Rows.LawS930001ARoundSaid := over
#print axioms proved
end Go.Proofs.Ymbrci.lawS930001ARound
