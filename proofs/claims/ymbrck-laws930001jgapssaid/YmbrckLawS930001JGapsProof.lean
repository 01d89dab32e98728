/-
  'Rows.LawS930001JGapsSaid': the guide's shell at this function, its walk filled.
-/
import Derived.Test.YmbrckRows
import Derived.WalkKit
import Derived.ProofKit
import Derived.OpenShut
import Derived.ShutString
import Derived.ChangeOld
import Derived.Below
import Derived.Test.YmbrckJ2
namespace Go.Proofs.Ymbrck.lawS930001JGaps
open Go.ChangeShapes Go.WideShapes Go.ChangeAt Go.RowKit
open Go.ChangeMaps (open_string shut_string)
set_option linter.unusedVariables false

theorem own : ownKnob Yckm.prog.godebug = none := by kernel_rfl
theorem laidOut : laidOutB Yckm.prog = true := by kernel_rfl

/-- WHAT THE WALK IS TOLD OF A SLICE OF INTEGERS THAT CAME IN: it is nil; or it leads to a row of 'cap' cells, the numbers 'zs' (the first 'len' are its elements, the rest its spare room), each fitting its kind. -/
def IsRow (k : IntKind) (w : World) (a : Option Addr) (len cap : Nat) (zs : List Int) : Prop :=
  (a = none ∧ len = 0 ∧ cap = 0 ∧ zs = []) ∨
  ∃ x, a = some x ∧ len ≤ cap ∧ cap ≤ maxLen ∧ zs.length = cap ∧ (∀ i, i < zs.length → w.cell? (x.add i) = some (.int k (zs.getD i 0))) ∧ ∀ n ∈ zs, (Lit.int k n).wf = true



set_option maxHeartbeats 8000000 in
theorem walk (a0 : Option Addr) (len0 cap0 : Nat) (z0 : List Int) (a1 : Int) (a2 : Int) (w : World) (w0 : IsRow .u64 w a0 len0 cap0 z0) (w1 : (Lit.int .u64 a1).wf = true) (w2 : (Lit.int .u8 a2).wf = true) :
    Calls Yckm.prog 6 #[.slice a0 len0 cap0, .int .u64 a1, .int .u8 a2] w fun e w' => e = .returned (.bool true) ∧ Below w.heap.size w w' := by
  obtain ⟨zs, hl, hc, mc, sz, wz, _⟩ := sl_of_row w0
  have hx1 := u64_bd w1
  have hx2 := u8_bd w2
  clear w0 w1 w2
  by_cases hbig : 512 < len0
  · go_enter Yckm.func6, Yckm.ntmps6
    go_wp2
    go_ret
    exact ⟨rfl, Below.refl _ _⟩
  have SZ : Hid (Sl .u64 w a0 zs) := sz
  have HL : Hid (zs.length = len0) := hl
  have BZ : Hid (Words zs) := words_of_wf wz
  obtain ⟨gs, hgs⟩ : ∃ gs, gs = gps zs a1 := ⟨_, rfl⟩
  have HGL : Hid (gs.length = len0) := by show _ = _; rw [hgs, gps_len, hl]
  have HGE : Hid (∀ i, i < len0 → el gs i = gp zs a1 i) := fun i hi => by rw [hgs]; exact gps_el zs a1 (by omega)
  have HGW : Hid (Words gs) := by rw [hgs]; exact gps_words BZ.out a1
  have HGB : Hid (∀ i, 0 ≤ gp zs a1 i ∧ gp zs a1 i ≤ 18446744073709551615) := gp_bd BZ.out a1
  have H0 : Hid (∀ g, (Value.slice none 0 0).ownBlock = some g → g < w.heap.size) := fun g hg => by simp [Value.ownBlock] at hg
  clear sz hl wz mc hc hgs
  go_enter Yckm.func6, Yckm.ntmps6
  go_wp2
  go_loopw [7, 8, 9, 10] (fun d ro fi i wr => ∃ (q : Nat) (R : Int) (fit : Bool), ro = .int .u64 R ∧ fi = .bool fit ∧ i = .int .i64 q ∧ q ≤ len0 ∧ 0 ≤ R ∧ R ≤ 18446744073709551615 ∧ Room gs q R fit ∧ Ap .u8 5 w.heap.size w (.slice none 0 0) [] wr d (flat (gs.take q))) (fun _ _ _ i _ => len0 - (intOf i).toNat)
  case atStart => exact ⟨0, 18446744073709551615, true, rfl, rfl, rfl, by omega, by omega, by omega, room_start gs, by simpa [flat] using Ap.start (Owns.nil _ _ _ _)⟩
  case round =>
    obtain ⟨q, R, fit, rfl, rfl, rfl, hq, hR0, hR1, hroom, hap⟩ := hrel
    have HA : Hid (Ap .u8 5 w.heap.size w (.slice none 0 0) [] wr u7 (flat (gs.take q))) := hap
    have HR : Hid (Room gs q R fit) := hroom
    have hsz : w.heap.size ≤ wr.heap.size := hap.size
    have HFL : Hid ((flat (gs.take q)).length ≤ 5120) := by
      have h1 := (flat_len (gs.take q)).2
      have h2 : (gs.take q).length ≤ 512 := by rw [List.length_take, HGL.out]; omega
      show _ ≤ _
      omega
    clear hap hroom
    by_cases hlt : q < len0
    · have SW : Hid (Sl .u64 wr a0 zs) := SZ.out.later HA.out.belowNil (Nat.le_refl _)
      have hgb := HGB.out q
      have HG : Hid (el gs q = gp zs a1 q) := HGE.out q hlt
      go_wp2_with fail
      refine (jgap_any a0 len0 cap0 zs a1 q wr HL.out hx1.1 hx1.2 BZ.out hlt (by omega) SW.out).mono ?_
      rintro e w1 ⟨rfl, rfl⟩
      generalize gp zs a1 q = g at hgb HG ⊢
      go_wp2_with fail
      refine (hput_any _ (flat (gs.take q)) g _ w.heap.size hgb.1 hgb.2 HA.out.owns hsz (by have := HFL.out; omega)).mono ?_
      rintro e w2 ⟨v2, rfl, hap⟩
      have HC : Hid (Ap .u8 5 w.heap.size w (.slice none 0 0) [] w2 v2 (flat (gs.take (q + 1)))) := by
        show Ap _ _ _ _ _ _ _ _ _
        rw [flat_take_succ (xs := gs) (by rw [HGL.out]; exact hlt), HG.out]
        exact HA.out.trans hap H0.out
      clear hap
      by_cases hov : R < g
      · have HR2 : Hid (∀ R', Room gs (q + 1) R' false) := fun R' => room_over HR.out (by rw [HG.out]; exact hgb.1) (by rw [HG.out]; exact hov)
        obtain ⟨nx, hnx⟩ : ∃ nx, IntKind.u64.wrap (R - g) = nx := ⟨_, rfl⟩
        have hnb : 0 ≤ nx ∧ nx ≤ 18446744073709551615 := by rw [← hnx]; exact wrap_bd _
        go_wp2
        go_roundw
        case rel => exact ⟨q + 1, nx, false, rfl, rfl, by go_num, by omega, by omega, by omega, HR2.out nx, HC.out⟩
        case measure => simp [intOf]; omega
      · have HR2 : Hid (Room gs (q + 1) (R - g) fit) := by
          have := room_fits HR.out (by rw [HG.out]; exact hgb.1) (by rw [HG.out]; omega)
          rwa [HG.out] at this
        go_wp2
        go_roundw
        case rel => exact ⟨q + 1, R - g, fit, rfl, rfl, by go_num, by omega, by omega, by omega, HR2.out, HC.out⟩
        case measure => simp [intOf]; omega
    · obtain rfl : q = len0 := by omega
      have hfull : gs.take q = gs := List.take_of_length_le (by rw [HGL.out]; omega)
      have HA2 := HA.out
      rw [hfull] at HA2
      have HFL2 := HFL.out
      rw [hfull] at HFL2
      clear HA HFL hfull
      have HA : Hid (Ap .u8 5 w.heap.size w (.slice none 0 0) [] wr u7 (flat gs)) := HA2
      obtain ⟨N, hN'⟩ : ∃ N, (flat gs).length = N := ⟨_, rfl⟩
      rw [hN'] at HFL2
      have HN : Hid ((flat gs).length = N) := hN'
      clear HA2 hN'
      have hsix : a2 % 6 = 1 ∨ a2 % 6 = 2 ∨ a2 % 6 = 3 ∨ ¬ (1 ≤ a2 % 6 ∧ a2 % 6 ≤ 3) := by omega
      cases fit with
      | true =>
        rcases hsix with hf | hf | hf | hf
        · have hf1 : 1 ≤ a2 % 6 := by omega
          have hf2 : a2 % 6 ≤ 1 := by omega
          clear hf
          go_wp2_with (at_builtin; refine ap8 _ rfl (.tmp 45) (.tmp 46) rfl rfl (HA.out.owns.alloc _) ?e1T1 _ _ _ [128] rfl rfl (sl_one _ _ _ _) ?e2T1 ?e3T1)
          case e1T1 => first | omega | (simp; omega)
          case e2T1 => have hN' := HN.out; simp; omega
          case e3T1 =>
          intro v1 w2 hap
          have HB : Hid (Ap .u8 5 w.heap.size w (.slice none 0 0) [] w2 v1 (flat gs ++ [128])) := (HA.out.alloc _ H0.out).trans hap H0.out
          clear hap
          obtain ⟨pS, cS, hvS, hcS, mcS, spS, _⟩ := HB.out.owns.shape
          rw [List.nil_append] at hvS hcS spS
          obtain ⟨L, hL⟩ : ∃ L, (flat gs ++ [128]).length = L := ⟨_, rfl⟩
          have hL2 : L ≤ 6000 := by rw [← hL, List.length_append, HN.out]; simp; omega
          rw [hL] at hvS hcS
          subst hvS
          have HLL : Hid ((flat gs ++ [128]).length = L) := hL
          have SL : Hid (Sl .u8 w2 pS (flat gs ++ [128])) := spS
          have BY : Hid (Bytes (flat gs ++ [128])) := (flat_bytes HGW.out).append (fun x hx => by simp at hx; omega)
          have BL : Hid (Below w.heap.size w w2) := HB.out.belowNil
          clear spS HB HA hL
          go_wp2_with fail
          refine (decodeSorted_any pS L cS (flat gs ++ [128]) w2 HLL.out (by omega) hcS BY.out SL.out).mono ?_
          rintro e w5 ⟨v5, code, ys, rfl, hans, hnil, hown, hyl, hbel⟩
          obtain rfl : code = 1 := ans_fault (fault1 HGW.out) (by omega) hans
          have hv5 := hnil (by omega)
          subst hv5
          have B5 : Hid (Below w.heap.size w w5) := BL.out.trans (hbel.mono BL.out.size)
          clear hans hnil hown hbel hyl
          have hnl := fun w => Lib.run_eql_slice_nil (P := Yckm.prog) w 24 22 none 0 0 0 0 Yckm.underlying24
          go_wp2
          go_ret
          exact ⟨rfl, B5.out⟩
        · have hf1 : 2 ≤ a2 % 6 := by omega
          have hf2 : a2 % 6 ≤ 2 := by omega
          clear hf
          go_wp2_with (at_builtin; refine ap8 _ rfl (.tmp 50) (.tmp 51) rfl rfl (HA.out.owns.alloc _) ?e1T2 _ _ _ [133, 0] rfl rfl (sl_two _ _ _ _ _) ?e2T2 ?e3T2)
          case e1T2 => first | omega | (simp; omega)
          case e2T2 => have hN' := HN.out; simp; omega
          case e3T2 =>
          intro v1 w2 hap
          have HB : Hid (Ap .u8 5 w.heap.size w (.slice none 0 0) [] w2 v1 (flat gs ++ [133, 0])) := (HA.out.alloc _ H0.out).trans hap H0.out
          clear hap
          obtain ⟨pS, cS, hvS, hcS, mcS, spS, _⟩ := HB.out.owns.shape
          rw [List.nil_append] at hvS hcS spS
          obtain ⟨L, hL⟩ : ∃ L, (flat gs ++ [133, 0]).length = L := ⟨_, rfl⟩
          have hL2 : L ≤ 6000 := by rw [← hL, List.length_append, HN.out]; simp; omega
          rw [hL] at hvS hcS
          subst hvS
          have HLL : Hid ((flat gs ++ [133, 0]).length = L) := hL
          have SL : Hid (Sl .u8 w2 pS (flat gs ++ [133, 0])) := spS
          have BY : Hid (Bytes (flat gs ++ [133, 0])) := (flat_bytes HGW.out).append (fun x hx => by simp at hx; omega)
          have BL : Hid (Below w.heap.size w w2) := HB.out.belowNil
          clear spS HB HA hL
          go_wp2_with fail
          refine (decodeSorted_any pS L cS (flat gs ++ [133, 0]) w2 HLL.out (by omega) hcS BY.out SL.out).mono ?_
          rintro e w5 ⟨v5, code, ys, rfl, hans, hnil, hown, hyl, hbel⟩
          obtain rfl : code = 2 := ans_fault (fault2 HGW.out) (by omega) hans
          have hv5 := hnil (by omega)
          subst hv5
          have B5 : Hid (Below w.heap.size w w5) := BL.out.trans (hbel.mono BL.out.size)
          clear hans hnil hown hbel hyl
          have hnl := fun w => Lib.run_eql_slice_nil (P := Yckm.prog) w 24 22 none 0 0 0 0 Yckm.underlying24
          go_wp2
          go_ret
          exact ⟨rfl, B5.out⟩
        · have hf1 : 3 ≤ a2 % 6 := by omega
          have hf2 : a2 % 6 ≤ 3 := by omega
          clear hf
          go_wp2_with (at_builtin; refine ap8 _ rfl (.tmp 55) (.tmp 56) rfl rfl (HA.out.owns.alloc _) ?e1T3 _ _ _ ten rfl rfl (sl_ten _ _) ?e2T3 ?e3T3)
          case e1T3 => first | omega | (simp; omega)
          case e2T3 => have hN' := HN.out; simp [ten]; omega
          case e3T3 =>
          intro v1 w2 hap
          have HB : Hid (Ap .u8 5 w.heap.size w (.slice none 0 0) [] w2 v1 (flat gs ++ ten)) := (HA.out.alloc _ H0.out).trans hap H0.out
          clear hap
          obtain ⟨pS, cS, hvS, hcS, mcS, spS, _⟩ := HB.out.owns.shape
          rw [List.nil_append] at hvS hcS spS
          obtain ⟨L, hL⟩ : ∃ L, (flat gs ++ ten).length = L := ⟨_, rfl⟩
          have hL2 : L ≤ 6000 := by rw [← hL, List.length_append, HN.out]; simp [ten]; omega
          rw [hL] at hvS hcS
          subst hvS
          have HLL : Hid ((flat gs ++ ten).length = L) := hL
          have SL : Hid (Sl .u8 w2 pS (flat gs ++ ten)) := spS
          have BY : Hid (Bytes (flat gs ++ ten)) := (flat_bytes HGW.out).append (fun x hx => by simp [ten] at hx; omega)
          have BL : Hid (Below w.heap.size w w2) := HB.out.belowNil
          clear spS HB HA hL
          go_wp2_with fail
          refine (decodeSorted_any pS L cS (flat gs ++ ten) w2 HLL.out (by omega) hcS BY.out SL.out).mono ?_
          rintro e w5 ⟨v5, code, ys, rfl, hans, hnil, hown, hyl, hbel⟩
          obtain rfl : code = 3 := ans_fault (fault3 HGW.out) (by omega) hans
          have hv5 := hnil (by omega)
          subst hv5
          have B5 : Hid (Below w.heap.size w w5) := BL.out.trans (hbel.mono BL.out.size)
          clear hans hnil hown hbel hyl
          have hnl := fun w => Lib.run_eql_slice_nil (P := Yckm.prog) w 24 22 none 0 0 0 0 Yckm.underlying24
          go_wp2
          go_ret
          exact ⟨rfl, B5.out⟩
        · obtain ⟨pS, cS, hvS, hcS, mcS, spS, _⟩ := HA.out.owns.shape
          rw [List.nil_append, HN.out] at hvS hcS
          rw [List.nil_append] at spS
          subst hvS
          have SL : Hid (Sl .u8 wr pS (flat gs)) := spS
          have BY : Hid (Bytes (flat gs)) := flat_bytes HGW.out
          have BL : Hid (Below w.heap.size w wr) := HA.out.belowNil
          have b1 : (a2 % 6 == 1) = false := by simp; omega
          have b2 : (a2 % 6 == 2) = false := by simp; omega
          have b3 : (a2 % 6 == 3) = false := by simp; omega
          clear spS HA hf
          go_wp2_with fail
          refine (decodeSorted_any pS N cS (flat gs) wr HN.out (by omega) hcS BY.out SL.out).mono ?_
          rintro e w5 ⟨v5, code, ys, rfl, hans, hnil, hown, hyl, hbel⟩
          rcases ans_plain HGW.out HGL.out HR.out hans with ⟨hh, _⟩ | ⟨_, rfl, hyn, htot, hye⟩
          · exact absurd hh (by simp)
          have o5 := hown rfl
          obtain ⟨p5, c5, hv5, hc5, mc5, s5, _⟩ := o5.shape
          rw [hyn] at hv5 hc5
          subst hv5
          have X5 : Hid (Sl .u64 w5 p5 ys) := s5
          have B5 : Hid (Below w.heap.size w w5) := BL.out.trans (hbel.mono BL.out.size)
          have Z5 : Hid (Sl .u64 w5 a0 zs) := SZ.out.later B5.out (Nat.le_refl _)
          have HYN : Hid (ys.length = q) := hyn
          have HYE : Hid (∀ j, j < q → el ys j = ps gs (j + 1)) := hye
          have HTOT : Hid (ps gs q ≤ 18446744073709551615) := htot
          clear hans hnil hown hbel hyl o5 s5 hyn hye htot
          have dn : ((q : Int) != (q : Int)) = false := by simp
          go_wp2
          go_loopw [15, 16] (fun pv i wr => ∃ (j : Nat) (PV : Int), pv = .int .u64 PV ∧ i = .int .i64 j ∧ j ≤ q ∧ PV = ps gs j ∧ Sl .u64 wr p5 ys ∧ Sl .u64 wr a0 zs ∧ Below w.heap.size w wr) (fun _ i _ => q - (intOf i).toNat)
          case atStart => exact ⟨0, 0, rfl, rfl, by omega, rfl, X5.out, Z5.out, B5.out⟩
          case round =>
            clear X5 Z5 B5
            obtain ⟨j, PV, rfl, rfl, hj, hPV, hX, hZ, hB⟩ := hrel
            have X5 : Hid (Sl .u64 wr p5 ys) := hX
            have Z5 : Hid (Sl .u64 wr a0 zs) := hZ
            have B5 : Hid (Below w.heap.size w wr) := hB
            clear hX hZ hB
            by_cases hjl : j < q
            · obtain ⟨ba, oa, ea, _, hca⟩ := X5.out.at (n := j) (by rw [HYN.out]; exact hjl)
              subst ea
              obtain ⟨NX, hNX⟩ : ∃ NX, NX = ps gs (j + 1) := ⟨_, rfl⟩
              have k1 : wr.cell? ⟨ba, oa + j, none⟩ = some (.int .u64 NX) := by rw [hNX, ← HYE.out j hjl]; exact hca j (by rw [HYN.out]; exact hjl)
              have hg : el gs j = gp zs a1 j := HGE.out j hjl
              have hstep : NX = PV + gp zs a1 j := by rw [hNX, hPV, ps, hg]
              have hgb := HGB.out j
              have h0 : 0 ≤ PV := by rw [hPV]; exact ps_nonneg HGW.out j
              have h1 : NX ≤ 18446744073709551615 := by
                have h2 : ps gs (j + 1) ≤ ps gs q := ps_le HGW.out (by omega)
                have h3 := HTOT.out
                omega
              have HP : Hid (PV = ps gs j) := hPV
              have HNX : Hid (NX = ps gs (j + 1)) := hNX
              have d1 : decide (NX < PV) = false := decide_eq_false (by omega)
              have d2 : (NX - PV != gp zs a1 j) = false := by simp; omega
              have d3 : NX - PV ≤ 18446744073709551615 := by omega
              have d4 : 0 ≤ NX - PV := by omega
              have hNP : PV ≤ NX := by omega
              clear hca hg hstep hPV hNX
              go_wp2
              go_quiet ((go_at_call 10; exact Calls.quiet_of_same (jgap_any a0 q cap0 zs a1 j _ HL.out hx1.1 hx1.2 BZ.out hjl (by omega) (Z5.out.any fun _ => rfl))))
              go_wp2
              go_roundw
              case rel => exact ⟨j + 1, NX, rfl, by go_num, by omega, HNX.out, X5.out.drewN _, Z5.out.drewN _, below_drewN B5.out _⟩
              case measure => simp [intOf]; omega
            · go_wp2
              go_ret
              exact ⟨rfl, B5.out⟩
      | false =>
        rcases hsix with hf | hf | hf | hf
        · have hf1 : 1 ≤ a2 % 6 := by omega
          have hf2 : a2 % 6 ≤ 1 := by omega
          clear hf
          go_wp2_with (at_builtin; refine ap8 _ rfl (.tmp 45) (.tmp 46) rfl rfl (HA.out.owns.alloc _) ?e1F1 _ _ _ [128] rfl rfl (sl_one _ _ _ _) ?e2F1 ?e3F1)
          case e1F1 => first | omega | (simp; omega)
          case e2F1 => have hN' := HN.out; simp; omega
          case e3F1 =>
          intro v1 w2 hap
          have HB : Hid (Ap .u8 5 w.heap.size w (.slice none 0 0) [] w2 v1 (flat gs ++ [128])) := (HA.out.alloc _ H0.out).trans hap H0.out
          clear hap
          obtain ⟨pS, cS, hvS, hcS, mcS, spS, _⟩ := HB.out.owns.shape
          rw [List.nil_append] at hvS hcS spS
          obtain ⟨L, hL⟩ : ∃ L, (flat gs ++ [128]).length = L := ⟨_, rfl⟩
          have hL2 : L ≤ 6000 := by rw [← hL, List.length_append, HN.out]; simp; omega
          rw [hL] at hvS hcS
          subst hvS
          have HLL : Hid ((flat gs ++ [128]).length = L) := hL
          have SL : Hid (Sl .u8 w2 pS (flat gs ++ [128])) := spS
          have BY : Hid (Bytes (flat gs ++ [128])) := (flat_bytes HGW.out).append (fun x hx => by simp at hx; omega)
          have BL : Hid (Below w.heap.size w w2) := HB.out.belowNil
          clear spS HB HA hL
          go_wp2_with fail
          refine (decodeSorted_any pS L cS (flat gs ++ [128]) w2 HLL.out (by omega) hcS BY.out SL.out).mono ?_
          rintro e w5 ⟨v5, code, ys, rfl, hans, hnil, hown, hyl, hbel⟩
          obtain rfl : code = 1 := ans_fault (fault1 HGW.out) (by omega) hans
          have hv5 := hnil (by omega)
          subst hv5
          have B5 : Hid (Below w.heap.size w w5) := BL.out.trans (hbel.mono BL.out.size)
          clear hans hnil hown hbel hyl
          have hnl := fun w => Lib.run_eql_slice_nil (P := Yckm.prog) w 24 22 none 0 0 0 0 Yckm.underlying24
          go_wp2
          go_ret
          exact ⟨rfl, B5.out⟩
        · have hf1 : 2 ≤ a2 % 6 := by omega
          have hf2 : a2 % 6 ≤ 2 := by omega
          clear hf
          go_wp2_with (at_builtin; refine ap8 _ rfl (.tmp 50) (.tmp 51) rfl rfl (HA.out.owns.alloc _) ?e1F2 _ _ _ [133, 0] rfl rfl (sl_two _ _ _ _ _) ?e2F2 ?e3F2)
          case e1F2 => first | omega | (simp; omega)
          case e2F2 => have hN' := HN.out; simp; omega
          case e3F2 =>
          intro v1 w2 hap
          have HB : Hid (Ap .u8 5 w.heap.size w (.slice none 0 0) [] w2 v1 (flat gs ++ [133, 0])) := (HA.out.alloc _ H0.out).trans hap H0.out
          clear hap
          obtain ⟨pS, cS, hvS, hcS, mcS, spS, _⟩ := HB.out.owns.shape
          rw [List.nil_append] at hvS hcS spS
          obtain ⟨L, hL⟩ : ∃ L, (flat gs ++ [133, 0]).length = L := ⟨_, rfl⟩
          have hL2 : L ≤ 6000 := by rw [← hL, List.length_append, HN.out]; simp; omega
          rw [hL] at hvS hcS
          subst hvS
          have HLL : Hid ((flat gs ++ [133, 0]).length = L) := hL
          have SL : Hid (Sl .u8 w2 pS (flat gs ++ [133, 0])) := spS
          have BY : Hid (Bytes (flat gs ++ [133, 0])) := (flat_bytes HGW.out).append (fun x hx => by simp at hx; omega)
          have BL : Hid (Below w.heap.size w w2) := HB.out.belowNil
          clear spS HB HA hL
          go_wp2_with fail
          refine (decodeSorted_any pS L cS (flat gs ++ [133, 0]) w2 HLL.out (by omega) hcS BY.out SL.out).mono ?_
          rintro e w5 ⟨v5, code, ys, rfl, hans, hnil, hown, hyl, hbel⟩
          obtain rfl : code = 2 := ans_fault (fault2 HGW.out) (by omega) hans
          have hv5 := hnil (by omega)
          subst hv5
          have B5 : Hid (Below w.heap.size w w5) := BL.out.trans (hbel.mono BL.out.size)
          clear hans hnil hown hbel hyl
          have hnl := fun w => Lib.run_eql_slice_nil (P := Yckm.prog) w 24 22 none 0 0 0 0 Yckm.underlying24
          go_wp2
          go_ret
          exact ⟨rfl, B5.out⟩
        · have hf1 : 3 ≤ a2 % 6 := by omega
          have hf2 : a2 % 6 ≤ 3 := by omega
          clear hf
          go_wp2_with (at_builtin; refine ap8 _ rfl (.tmp 55) (.tmp 56) rfl rfl (HA.out.owns.alloc _) ?e1F3 _ _ _ ten rfl rfl (sl_ten _ _) ?e2F3 ?e3F3)
          case e1F3 => first | omega | (simp; omega)
          case e2F3 => have hN' := HN.out; simp [ten]; omega
          case e3F3 =>
          intro v1 w2 hap
          have HB : Hid (Ap .u8 5 w.heap.size w (.slice none 0 0) [] w2 v1 (flat gs ++ ten)) := (HA.out.alloc _ H0.out).trans hap H0.out
          clear hap
          obtain ⟨pS, cS, hvS, hcS, mcS, spS, _⟩ := HB.out.owns.shape
          rw [List.nil_append] at hvS hcS spS
          obtain ⟨L, hL⟩ : ∃ L, (flat gs ++ ten).length = L := ⟨_, rfl⟩
          have hL2 : L ≤ 6000 := by rw [← hL, List.length_append, HN.out]; simp [ten]; omega
          rw [hL] at hvS hcS
          subst hvS
          have HLL : Hid ((flat gs ++ ten).length = L) := hL
          have SL : Hid (Sl .u8 w2 pS (flat gs ++ ten)) := spS
          have BY : Hid (Bytes (flat gs ++ ten)) := (flat_bytes HGW.out).append (fun x hx => by simp [ten] at hx; omega)
          have BL : Hid (Below w.heap.size w w2) := HB.out.belowNil
          clear spS HB HA hL
          go_wp2_with fail
          refine (decodeSorted_any pS L cS (flat gs ++ ten) w2 HLL.out (by omega) hcS BY.out SL.out).mono ?_
          rintro e w5 ⟨v5, code, ys, rfl, hans, hnil, hown, hyl, hbel⟩
          obtain rfl : code = 3 := ans_fault (fault3 HGW.out) (by omega) hans
          have hv5 := hnil (by omega)
          subst hv5
          have B5 : Hid (Below w.heap.size w w5) := BL.out.trans (hbel.mono BL.out.size)
          clear hans hnil hown hbel hyl
          have hnl := fun w => Lib.run_eql_slice_nil (P := Yckm.prog) w 24 22 none 0 0 0 0 Yckm.underlying24
          go_wp2
          go_ret
          exact ⟨rfl, B5.out⟩
        · obtain ⟨pS, cS, hvS, hcS, mcS, spS, _⟩ := HA.out.owns.shape
          rw [List.nil_append, HN.out] at hvS hcS
          rw [List.nil_append] at spS
          subst hvS
          have SL : Hid (Sl .u8 wr pS (flat gs)) := spS
          have BY : Hid (Bytes (flat gs)) := flat_bytes HGW.out
          have BL : Hid (Below w.heap.size w wr) := HA.out.belowNil
          have b1 : (a2 % 6 == 1) = false := by simp; omega
          have b2 : (a2 % 6 == 2) = false := by simp; omega
          have b3 : (a2 % 6 == 3) = false := by simp; omega
          clear spS HA hf
          go_wp2_with fail
          refine (decodeSorted_any pS N cS (flat gs) wr HN.out (by omega) hcS BY.out SL.out).mono ?_
          rintro e w5 ⟨v5, code, ys, rfl, hans, hnil, hown, hyl, hbel⟩
          rcases ans_plain HGW.out HGL.out HR.out hans with ⟨_, rfl⟩ | ⟨hh, _⟩
          rotate_left
          · exact absurd hh (by simp)
          have hv5 := hnil (by omega)
          subst hv5
          have B5 : Hid (Below w.heap.size w w5) := BL.out.trans (hbel.mono BL.out.size)
          clear hans hnil hown hbel hyl
          have hnl := fun w => Lib.run_eql_slice_nil (P := Yckm.prog) w 24 22 none 0 0 0 0 Yckm.underlying24
          go_wp2
          go_ret
          exact ⟨rfl, B5.out⟩

/-! ### the row's step -/
set_option maxRecDepth 100000 in
theorem lifted (os : Os) (started : os.Started) (H : Type) (enc : TypeId × Value → H) :
    ReturnsInHanded {} Yckm.checked os 6 .any (Rows.lawS930001JGapsSpec.pre6 enc Yckm.prog Yckm.f6 Rows.lawS930001JGapsRow.domain false) (Rows.lawS930001JGapsSpec.post enc Yckm.prog Yckm.f6 false true false false) := by
  refine returnsInHanded_of_change (C := Yckm.checked) own started (by kernel_rfl) Yckm.func6
    (ChangeSpec.witness6 (enc := enc) (C := Yckm.checked) false ⟨#[], #[.slice none 0 0, .int .u64 0, .int .u8 0], []⟩ 8 (by kernel_rfl) (by kernel_rfl) (by kernel_rfl) (by kernel_rfl)) ?_
  intro W base args ds gs before hval0 hW hcnd _
  have hval : ∀ (j : Nat) t v, Yckm.f6.params[j]? = some t → args[j]? = some v → Value.okWide Yckm.prog W .any base t v := hval0
  have hW' := hW
  obtain ⟨p, q, hA0, hV, rfl, hfz, hnd⟩ := hW
  have hA : DataW.TrodAll enc Yckm.prog W 0 (fun _ => true) true Yckm.f6.params.toList args.toList ds p := hA0
  rw [Yckm.params6] at hA hval
  obtain ⟨v0, vs0, d0, ds0, p0, q0, hargs, rfl, rfl, h0, r0⟩ := trodAll_cons hA
  obtain ⟨v1, vs1, d1, ds1, p1, q1, rfl, rfl, rfl, h1, r1⟩ := trodAll_cons r0
  obtain ⟨v2, vs2, d2, ds2, p2, q2, rfl, rfl, rfl, h2, r2⟩ := trodAll_cons r1
  obtain ⟨rfl, rfl, rfl⟩ := trodAll_nil r2
  obtain rfl : args = #[v0, v1, v2] := by cases args; simp_all
  obtain ⟨rfl, rfl⟩ := trodVars_none hV
  obtain ⟨a0, len0, cap0, rfl⟩ := okWide_slice Yckm.underlying24 (hval 0 24 v0 rfl rfl)
  have k0 := h0
  have lt0 : ∀ x ∈ p0, x.block < W.heap.size := by obtain ⟨m, hm⟩ := k0; exact DataW.trod_lt m _ _ _ hm
  obtain ⟨z0, w0⟩ : ∃ zs, IsRow .u64 W a0 len0 cap0 zs := by
    obtain ⟨fuel, hf⟩ := h0
    rcases open_ints Yckm.underlying24 Yckm.underlying22 (by kernel_rfl) hf with ⟨hcs, _⟩ | ⟨x, l, c, zs, hcs, _, hl, hm, hz, _, hcell, hwz⟩
    · simp [Value.cells] at hcs
      obtain ⟨rfl, rfl, rfl⟩ := hcs
      exact ⟨[], .inl ⟨rfl, rfl, rfl, rfl⟩⟩
    · simp [Value.cells] at hcs
      obtain ⟨rfl, rfl, rfl⟩ := hcs
      exact ⟨zs, .inr ⟨_, rfl, hl, hm, by simpa using hz, hcell, hwz⟩⟩
  obtain ⟨a1, rfl, rfl, rfl, w1⟩ := open_int Yckm.underlying22 (hval 1 22 v1 rfl rfl) h1
  obtain ⟨a2, rfl, rfl, rfl, w2⟩ := open_int Yckm.underlying5 (hval 2 5 v2 rfl rfl) h2
  clear hA0 hval0
  refine (walk a0 len0 cap0 z0 a1 a2 W w0 w1 w2).mono fun e W' ⟨he, bel⟩ => ?_
  subst he
  exact ⟨_, rfl, _, _, _, [], _, [], hW', trodAll_mk1 (shut_bool Yckm.underlying4 _), (trodAll_cons_mk (Below.trod laidOut (by kernel_rfl) (of_decide_eq_true (by kernel_rfl)) k0 bel lt0) (trodAll_cons_mk (shut_int Yckm.underlying22 w1) (trodAll_cons_mk (shut_int Yckm.underlying5 w2) trodAll_mk0))), rfl, bel.frame _, fun h => by cases h⟩

theorem over : Rows.lawS930001JGapsRow.holds Yckm.pinned (OpenSpec.ofChange Rows.lawS930001JGapsSpec) :=
  OpenClaim.holds_of_wide 6 Yckm.f6 rfl rfl rfl rfl rfl rfl rfl ⟨rfl, rfl, rfl, rfl, rfl⟩ rfl rfl rfl rfl rfl (by kernel_rfl) Yckm.func6 (by kernel_rfl)
    (of_decide_eq_true (by kernel_rfl)) (by unfold Func.isWrapper; first | (rw [if_pos (by decide +kernel)]; kernel_rfl) | (rw [if_neg (by decide +kernel)]; exact ⟨rfl, rfl⟩))
    (fun os started H enc _ => lifted os started H enc)

/-- ████ THE STATEMENT ████ -/
theorem proved : Rows.LawS930001JGapsSaid := over
#print axioms proved
end Go.Proofs.Ymbrck.lawS930001JGaps
