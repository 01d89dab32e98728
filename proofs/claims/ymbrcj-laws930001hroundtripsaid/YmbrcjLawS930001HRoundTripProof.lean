/-
  'Rows.LawS930001HRoundTripSaid': the guide's shell at this function, its walk filled.
-/
import Derived.Test.YmbrcjRows
import Derived.WalkKit
import Derived.ProofKit
import Derived.OpenShut
import Derived.ShutString
import Derived.ChangeOld
import Derived.Below
import Derived.Test.YmbrcjH1
import Derived.Test.YmbrcjPut
namespace Go.Proofs.Ymbrcj.lawS930001HRoundTrip
open Go.ChangeShapes Go.WideShapes Go.ChangeAt Go.RowKit
open Go.ChangeMaps (open_string shut_string)
set_option linter.unusedVariables false

theorem own : ownKnob Ycjm.prog.godebug = none := by kernel_rfl
theorem laidOut : laidOutB Ycjm.prog = true := by kernel_rfl

/-- WHAT THE WALK IS TOLD OF A SLICE OF INTEGERS THAT CAME IN: it is nil; or it leads to a row of 'cap' cells, the numbers 'zs' (the first 'len' are its elements, the rest its spare room), each fitting its kind. -/
def IsRow (k : IntKind) (w : World) (a : Option Addr) (len cap : Nat) (zs : List Int) : Prop :=
  (a = none ∧ len = 0 ∧ cap = 0 ∧ zs = []) ∨
  ∃ x, a = some x ∧ len ≤ cap ∧ cap ≤ maxLen ∧ zs.length = cap ∧ (∀ i, i < zs.length → w.cell? (x.add i) = some (.int k (zs.getD i 0))) ∧ ∀ n ∈ zs, (Lit.int k n).wf = true

def shl (s : Nat) (vs : List Int) : List Int := vs.map fun y => IntKind.u64.wrap (y * 2 ^ s)
theorem shl_len (s : Nat) (vs : List Int) : (shl s vs).length = vs.length := by simp [shl]
theorem shl_words (s : Nat) (vs : List Int) : Words (shl s vs) := fun x hx => by
  obtain ⟨y, _, rfl⟩ := List.mem_map.1 hx
  exact wrap_bd _
theorem shl_el (s : Nat) {vs : List Int} {i : Nat} (h : i < vs.length) : el (shl s vs) i = IntKind.u64.wrap (el vs i * 2 ^ s) := by
  rw [el_lt (by rw [shl_len]; exact h), el_lt h]; simp [shl]
theorem flat_take_succ {xs : List Int} {q : Nat} (h : q < xs.length) : flat (xs.take (q + 1)) = flat (xs.take q) ++ E (el xs q) := by
  rw [take_succ_el h, flat_snoc]
def nines : List Int := [128, 128, 128, 128, 128, 128, 128, 128, 128]
theorem nines_take {q : Nat} (h : q < 9) : nines.take (q + 1) = nines.take q ++ [128] := by
  rw [take_succ_el h]
  congr 2
  have : q = 0 ∨ q = 1 ∨ q = 2 ∨ q = 3 ∨ q = 4 ∨ q = 5 ∨ q = 6 ∨ q = 7 ∨ q = 8 := by omega
  rcases this with rfl | rfl | rfl | rfl | rfl | rfl | rfl | rfl | rfl <;> rfl
theorem nines_prom : Prom nines := fun x hx => by simp [nines] at hx; omega
theorem nines_bytes : Bytes nines := fun x hx => by simp [nines] at hx; omega
theorem fault1 {ws : List Int} (h : Words ws) : AllOf (flat ws ++ [128]) ws 1 := ⟨h, [128], rfl, .inr ⟨by simp, by omega, dec_trunc (fun x hx => by simp at hx; omega) (by simp)⟩⟩
theorem fault2 {ws : List Int} (h : Words ws) (js : List Int) : AllOf (flat ws ++ ([133, 0] ++ js)) ws 2 := ⟨h, _, rfl, .inr ⟨by simp, by omega, dec_long' (ps := [133]) (fun x hx => by simp at hx; omega) (by simp) (by simp) js⟩⟩
theorem fault3 {ws : List Int} (h : Words ws) (js : List Int) : AllOf (flat ws ++ (nines ++ (2 :: js))) ws 3 := ⟨h, _, rfl, .inr ⟨by simp [nines], by omega, dec_over' nines_prom rfl (by omega) js⟩⟩
theorem fault0 {ws : List Int} (h : Words ws) : AllOf (flat ws) ws 0 := ⟨h, [], by simp, .inl ⟨rfl, rfl⟩⟩

set_option maxHeartbeats 4000000 in
theorem walk (a0 : Option Addr) (len0 cap0 : Nat) (z0 : List Int) (a1 : Int) (a2 : Int) (a3 : Option Addr) (len3 cap3 : Nat) (z3 : List Int) (w : World) (w0 : IsRow .u64 w a0 len0 cap0 z0) (w1 : (Lit.int .u8 a1).wf = true) (w2 : (Lit.int .u8 a2).wf = true) (w3 : IsRow .u8 w a3 len3 cap3 z3) :
    Calls Ycjm.prog 13 #[.slice a0 len0 cap0, .int .u8 a1, .int .u8 a2, .slice a3 len3 cap3] w fun e w' => e = .returned (.bool true) ∧ Below w.heap.size w w' := by
  obtain ⟨vs, hv, hvc, mv, sv, wv, _⟩ := sl_of_row w0
  obtain ⟨js, hj, hjc, mj, sj, wj, _⟩ := sl_of_row w3
  have hx1 := u8_bd w1
  have hx2 := u8_bd w2
  clear w0 w1 w2 w3
  by_cases hbig : 1024 < len0
  · go_enter Ycjm.func13, Ycjm.ntmps13
    go_wp2
    go_ret
    exact ⟨rfl, Below.refl _ _⟩
  by_cases hbig2 : 1024 < len3
  · go_enter Ycjm.func13, Ycjm.ntmps13
    go_wp2
    go_ret
    exact ⟨rfl, Below.refl _ _⟩
  have SV : Hid (Sl .u64 w a0 vs) := sv
  have HV : Hid (vs.length = len0) := hv
  have SJ : Hid (Sl .u8 w a3 js) := sj
  have HJ : Hid (js.length = len3) := hj
  have BJ : Hid (Bytes js) := bytes_of_wf wj
  clear sv hv hvc mv wv sj hj hjc mj wj
  obtain ⟨s, hs⟩ : ∃ s : Nat, (a1 % 64).toNat = s := ⟨_, rfl⟩
  have HWL : Hid ((shl s vs).length = len0) := by show _ = _; rw [shl_len, HV.out]
  have HWW : Hid (Words (shl s vs)) := shl_words s vs
  have d1 : decide (1024 < len0) = false := decide_eq_false hbig
  have d2 : decide (1024 < len3) = false := decide_eq_false hbig2
  have d3 : decide ((1024 : Int) < (len0 : Int)) = false := decide_eq_false (by omega)
  have d4 : decide ((1024 : Int) < (len3 : Int)) = false := decide_eq_false (by omega)
  go_enter Ycjm.func13, Ycjm.ntmps13
  go_wp2
  clear d1 d2 d3 d4
  go_loopw [9, 10, 11] (fun dW dS i wr => ∃ q : Nat, i = .int .i64 q ∧ q ≤ len0 ∧ Two w wr dW dS ((shl s vs).take q) (flat ((shl s vs).take q))) (fun _ _ i _ => len0 - (intOf i).toNat)
  case atStart => exact ⟨0, rfl, by omega, by simpa [flat] using Two.start w⟩
  case round =>
    obtain ⟨q, rfl, hq, htwo⟩ := hrel
    have HT : Hid (Two w wr _ _ ((shl s vs).take q) (flat ((shl s vs).take q))) := htwo
    have hsz : w.heap.size ≤ wr.heap.size := htwo.below.size
    have htl : Hid (((shl s vs).take q).length ≤ 1024) := by show _ ≤ _; rw [List.length_take, HWL.out]; omega
    have hfl : Hid ((flat ((shl s vs).take q)).length ≤ 10240) := by
      have := (flat_len ((shl s vs).take q)).2
      have := htl.out
      show _ ≤ _
      omega
    clear htwo
    by_cases hlt : q < len0
    · obtain ⟨b, off, ha, hbl, hc⟩ := SV.out.at (n := q) (by rw [HV.out]; omega)
      subst ha
      have c0 : wr.cell? ⟨b, off + q, none⟩ = some (.int .u64 (el vs q)) := (HT.out.below.cell hbl).trans (hc q (by rw [HV.out]; omega))
      have hbx := wrap_bd (el vs q * 2 ^ s)
      have HEL : Hid (el (shl s vs) q = IntKind.u64.wrap (el vs q * 2 ^ s)) := shl_el s (by rw [HV.out]; exact hlt)
      clear hc
      go_wp2_with (at_builtin; refine ap64 _ rfl (.tmp 42) (.tmp 44) rfl rfl (HT.out.words.alloc _) ?c1 _ _ _ [IntKind.u64.wrap (el vs q * 2 ^ s)] rfl rfl (sl_one _ _ _ _) ?c2 ?c3)
      case c1 => first | omega | (simp; omega)
      case c2 => have := htl.out; rw [List.length_singleton]; omega
      case c3 =>
        intro v1 w1 hap
        have H1 : Hid (Two w w1 v1 u10 ((shl s vs).take (q + 1)) (flat ((shl s vs).take q))) := by
          have := (HT.out.alloc _).addW hap
          show Two _ _ _ _ _ _
          rw [take_succ_el (xs := shl s vs) (by rw [HWL.out]; exact hlt), HEL.out]
          exact this
        have hz1 : w.heap.size ≤ w1.heap.size := H1.out.below.size
        clear hap HT
        go_wp2_with fail
        refine (hput_any _ (flat ((shl s vs).take q)) _ w1 w.heap.size hbx.1 hbx.2 H1.out.bytes hz1 (by have := hfl.out; omega)).mono ?_
        rintro e w2 ⟨v2, rfl, hap⟩
        have H2 : Hid (Two w w2 v1 v2 ((shl s vs).take (q + 1)) (flat ((shl s vs).take (q + 1)))) := by
          have := H1.out.addS hap
          show Two _ _ _ _ _ _
          rw [flat_take_succ (xs := shl s vs) (by rw [HWL.out]; exact hlt), HEL.out]
          exact this
        clear hap H1
        go_wp2
        go_roundw
        case rel => exact ⟨q + 1, by go_num, by omega, H2.out⟩
        case measure => simp [intOf]; omega
    · have hfull : (shl s vs).take q = shl s vs := List.take_of_length_le (by rw [HWL.out]; omega)
      obtain ⟨pW, cW, hvW, hcW, mcW, spW, _⟩ := HT.out.words.shape
      obtain ⟨pS, cS, hvS, hcS, mcS, spS, _⟩ := HT.out.bytes.shape
      rw [hfull] at hvW hvS hcW hcS
      rw [HWL.out] at hvW hcW
      have HT0 := HT.out
      rw [hfull, hvW, hvS] at HT0
      subst hvW
      subst hvS
      obtain ⟨N, hN'⟩ : ∃ N, (flat (shl s vs)).length = N := ⟨_, rfl⟩
      rw [hN'] at HT0 hcS ⊢
      have HN : Hid ((flat (shl s vs)).length = N) := hN'
      have hN : N ≤ 10240 := by
        have := (flat_len (shl s vs)).2
        rw [HWL.out] at this; omega
      clear HT hfl htl hfull spW spS hN'
      have HT : Hid (Two w wr (.slice pW len0 cW) (.slice pS N cS) (shl s vs) (flat (shl s vs))) := HT0
      clear HT0
      obtain ⟨w1, hw1⟩ : ∃ w1 : World, w1 = wr := ⟨_, rfl⟩
      rw [← hw1] at HT hsz ⊢
      clear hw1
      have hf4 : a2 % 4 = 0 ∨ a2 % 4 = 1 ∨ a2 % 4 = 2 ∨ a2 % 4 = 3 := by omega
      rcases hf4 with hf | hf | hf | hf
      · have hf' : a2 % 4 ≤ 0 := by omega
        clear hf
        have SF : Hid (Sl .u8 w1 pS (flat (shl s vs))) := HT.out.bytes.sl.2.2.2
        have BF : Hid (Bytes (flat (shl s vs))) := flat_bytes HWW.out
        go_wp2_with fail
        refine (decodeAll_any pS N cS (flat (shl s vs)) _ HN.out (by omega) hcS BF.out SF.out).mono ?_
        rintro e wF ⟨vF, xs, code, rfl, hall, hfl, hc0, hc3, hown, hbel⟩
        obtain ⟨rfl, rfl⟩ := allOf_one xs hall (fault0 HWW.out)
        obtain ⟨pG, cG, hvG, hcG, mcG, spG, _⟩ := hown.shape
        subst hvG
        rw [HN.out, HWL.out]
        have XG : Hid (Sl .u64 wF pG (shl s vs)) := spG
        have XW : Hid (Sl .u64 wF pW (shl s vs)) := (HT.out.words.sl.2.2.2).later hbel (Nat.le_refl _)
        have B9 : Hid (Below w.heap.size w wF) := HT.out.below.trans (hbel.mono HT.out.below.size)
        clear hall hown hbel spG HT
        go_wp2_with fail
        refine (hsame_any pG pW len0 len0 cG cW (shl s vs) (shl s vs) wF HWL.out HWL.out (by omega) (by omega) XG.out XW.out).mono ?_
        rintro e wH ⟨rfl, hq⟩
        rw [sameB_true rfl]
        have B10 : Hid (Below w.heap.size w wH) := drews hq B9.out
        clear hq
        go_wp2
        go_ret
        exact ⟨ret_bool (by simp), B10.out⟩
      · have hf1 : 1 ≤ a2 % 4 := by omega
        have hf2 : a2 % 4 ≤ 1 := by omega
        clear hf
        go_wp2_with (at_builtin; refine ap8 _ rfl (.tmp 55) (.tmp 56) rfl rfl (HT.out.bytes.alloc _) ?e1 _ _ _ [128] rfl rfl (sl_one _ _ _ _) ?e2 ?e3)
        case e1 => first | omega | (simp; omega)
        case e2 => rw [HN.out]; simp; omega
        case e3 =>
        intro v1 w2 hap
        have HT2 : Hid (Two w w2 (.slice pW len0 cW) v1 (shl s vs) (flat (shl s vs) ++ [128])) := (HT.out.alloc _).addS hap
        clear hap HT
        have HT := HT2
        clear HT2
        obtain ⟨pF, cF, hvF, hcF, mcF, spF, _⟩ := HT.out.bytes.shape
        have hlF : (flat (shl s vs) ++ [128]).length ≤ 20000 := by rw [List.length_append, HN.out]; simp; omega
        have HLF : Hid (∃ L, (flat (shl s vs) ++ [128]).length = L ∧ L ≤ 20000) := ⟨_, rfl, hlF⟩
        obtain ⟨L, hL, hL2⟩ := HLF.out
        rw [hL] at hvF hcF
        subst hvF
        have HL : Hid ((flat (shl s vs) ++ [128]).length = L) := hL
        have SF : Hid (Sl .u8 _ pF (flat (shl s vs) ++ [128])) := spF
        have BF : Hid (Bytes (flat (shl s vs) ++ [128])) := (flat_bytes HWW.out).append (Bytes.one (by omega) (by omega))
        clear spF hlF HLF hL
        go_wp2_with fail
        refine (decodeAll_any pF L cF (flat (shl s vs) ++ [128]) _ HL.out (by omega) hcF BF.out SF.out).mono ?_
        rintro e wF ⟨vF, xs, code, rfl, hall, hfl, hc0, hc3, hown, hbel⟩
        obtain ⟨rfl, rfl⟩ := allOf_one xs hall (fault1 HWW.out)
        obtain ⟨pG, cG, hvG, hcG, mcG, spG, _⟩ := hown.shape
        subst hvG
        rw [HN.out, HWL.out]
        have XG : Hid (Sl .u64 wF pG (shl s vs)) := spG
        have XW : Hid (Sl .u64 wF pW (shl s vs)) := (HT.out.words.sl.2.2.2).later hbel (Nat.le_refl _)
        have B9 : Hid (Below w.heap.size w wF) := HT.out.below.trans (hbel.mono HT.out.below.size)
        clear hall hown hbel spG HT
        go_wp2_with fail
        refine (hsame_any pG pW len0 len0 cG cW (shl s vs) (shl s vs) wF HWL.out HWL.out (by omega) (by omega) XG.out XW.out).mono ?_
        rintro e wH ⟨rfl, hq⟩
        rw [sameB_true rfl]
        have B10 : Hid (Below w.heap.size w wH) := drews hq B9.out
        clear hq
        go_wp2
        go_ret
        exact ⟨ret_bool (by simp), B10.out⟩
      · have hf1 : 2 ≤ a2 % 4 := by omega
        have hf2 : a2 % 4 ≤ 2 := by omega
        clear hf
        go_wp2_with (at_builtin; refine ap8 _ rfl (.tmp 60) (.tmp 61) rfl rfl (HT.out.bytes.alloc _) ?f1 _ _ _ [133, 0] rfl rfl (sl_two _ _ _ _ _) ?f2 ?f3)
        case f1 => first | omega | (simp; omega)
        case f2 => rw [HN.out]; simp; omega
        case f3 =>
        intro v1 w2 hap
        have HT2 : Hid (Two w w2 (.slice pW len0 cW) v1 (shl s vs) (flat (shl s vs) ++ [133, 0])) := (HT.out.alloc _).addS hap
        clear hap HT
        have HT := HT2
        clear HT2
        go_wp2
        go_loopw [10, 16] (fun d i wr => ∃ q : Nat, i = .int .i64 q ∧ q ≤ len3 ∧ Two w wr (.slice pW len0 cW) d (shl s vs) (flat (shl s vs) ++ ([133, 0] ++ js.take q))) (fun _ i _ => len3 - (intOf i).toNat)
        case atStart => exact ⟨0, rfl, by omega, by simpa using HT.out⟩
        case round =>
          obtain ⟨q, rfl, hq, htwo⟩ := hrel
          clear HT
          have HT : Hid (Two w wr (.slice pW len0 cW) _ (shl s vs) (flat (shl s vs) ++ ([133, 0] ++ js.take q))) := htwo
          have hsz : w.heap.size ≤ wr.heap.size := htwo.below.size
          clear htwo
          by_cases hlt : q < len3
          · obtain ⟨b, off, ha, hbl, hc⟩ := SJ.out.at (n := q) (by rw [HJ.out]; omega)
            subst ha
            have c0 : wr.cell? ⟨b, off + q, none⟩ = some (.int .u8 (el js q)) := (HT.out.below.cell hbl).trans (hc q (by rw [HJ.out]; omega))
            clear hc
            go_wp2_with (at_builtin; refine ap8 _ rfl (.tmp 84) (.tmp 89) rfl rfl (HT.out.bytes.alloc _) ?j1A _ _ _ [el js q] rfl rfl (sl_one _ _ _ _) ?j2A ?j3A)
            case j1A => first | omega | (simp; omega)
            case j2A => rw [List.length_append, HN.out]; have hN' := hN; simp; omega
            case j3A =>
              intro v' w1 hap
              have HC : Hid (Two w w1 (.slice pW len0 cW) v' (shl s vs) (flat (shl s vs) ++ ([133, 0] ++ js.take (q + 1)))) := by
                have := (HT.out.alloc _).addS hap
                show Two _ _ _ _ _ _
                rw [take_succ_el (by rw [HJ.out]; omega)]
                simpa using this
              clear hap
              go_wp2
              go_roundw
              case rel => exact ⟨q + 1, by go_num, by omega, HC.out⟩
              case measure => simp [intOf]; omega
          · have HT2 : Hid (Two w wr (.slice pW len0 cW) u10 (shl s vs) (flat (shl s vs) ++ ([133, 0] ++ js))) := by
              have := HT.out
              rw [List.take_of_length_le (by rw [HJ.out]; omega)] at this
              exact this
            clear HT
            have HT := HT2
            clear HT2
            obtain ⟨pF, cF, hvF, hcF, mcF, spF, _⟩ := HT.out.bytes.shape
            have hlF : (flat (shl s vs) ++ ([133, 0] ++ js)).length ≤ 20000 := by rw [List.length_append, List.length_append, HN.out, HJ.out]; simp; omega
            have HLF : Hid (∃ L, (flat (shl s vs) ++ ([133, 0] ++ js)).length = L ∧ L ≤ 20000) := ⟨_, rfl, hlF⟩
            obtain ⟨L, hL, hL2⟩ := HLF.out
            rw [hL] at hvF hcF
            subst hvF
            have HL : Hid ((flat (shl s vs) ++ ([133, 0] ++ js)).length = L) := hL
            have SF : Hid (Sl .u8 _ pF (flat (shl s vs) ++ ([133, 0] ++ js))) := spF
            have BF : Hid (Bytes (flat (shl s vs) ++ ([133, 0] ++ js))) := (flat_bytes HWW.out).append (Bytes.append (fun x hx => by simp at hx; omega) BJ.out)
            clear spF hlF HLF hL
            go_wp2_with fail
            refine (decodeAll_any pF L cF (flat (shl s vs) ++ ([133, 0] ++ js)) _ HL.out (by omega) hcF BF.out SF.out).mono ?_
            rintro e wF ⟨vF, xs, code, rfl, hall, hfl, hc0, hc3, hown, hbel⟩
            obtain ⟨rfl, rfl⟩ := allOf_one xs hall (fault2 HWW.out js)
            obtain ⟨pG, cG, hvG, hcG, mcG, spG, _⟩ := hown.shape
            subst hvG
            rw [HN.out, HWL.out]
            have XG : Hid (Sl .u64 wF pG (shl s vs)) := spG
            have XW : Hid (Sl .u64 wF pW (shl s vs)) := (HT.out.words.sl.2.2.2).later hbel (Nat.le_refl _)
            have B9 : Hid (Below w.heap.size w wF) := HT.out.below.trans (hbel.mono HT.out.below.size)
            clear hall hown hbel spG HT
            go_wp2_with fail
            refine (hsame_any pG pW len0 len0 cG cW (shl s vs) (shl s vs) wF HWL.out HWL.out (by omega) (by omega) XG.out XW.out).mono ?_
            rintro e wH ⟨rfl, hq⟩
            rw [sameB_true rfl]
            have B10 : Hid (Below w.heap.size w wH) := drews hq B9.out
            clear hq
            go_wp2
            go_ret
            exact ⟨ret_bool (by simp), B10.out⟩
      · have hf1 : 3 ≤ a2 % 4 := by omega
        have hf2 : a2 % 4 ≤ 3 := by omega
        have b1 : (a2 % 4 == 1) = false := by simp; omega
        have b2 : (a2 % 4 == 2) = false := by simp; omega
        have b3 : (a2 % 4 == 3) = true := by simp; omega
        have b4 : decide (2 ≤ a2 % 4) = true := by simp; omega
        clear hf
        go_wp2
        go_loopw [10, 15] (fun d i wr => ∃ q : Nat, i = .int .i64 q ∧ q ≤ 9 ∧ Two w wr (.slice pW len0 cW) d (shl s vs) (flat (shl s vs) ++ nines.take q)) (fun _ i _ => 9 - (intOf i).toNat)
        case atStart => exact ⟨0, rfl, by omega, by simpa using HT.out⟩
        case round =>
        obtain ⟨q9, rfl, hq9, htwo⟩ := hrel
        clear HT
        have HT : Hid (Two w wr (.slice pW len0 cW) _ (shl s vs) (flat (shl s vs) ++ nines.take q9)) := htwo
        have hszr : w.heap.size ≤ wr.heap.size := htwo.below.size
        have hnl : Hid ((nines.take q9).length ≤ 9) := by show _ ≤ _; rw [List.length_take]; omega
        clear htwo
        by_cases hlt9 : q9 < 9
        · go_wp2_with (at_builtin; refine ap8 _ rfl (.tmp 69) (.tmp 70) rfl rfl (HT.out.bytes.alloc _) ?g1 _ _ _ [128] rfl rfl (sl_one _ _ _ _) ?g2 ?g3)
          case g1 => first | omega | (simp; omega)
          case g2 => have := hnl.out; rw [List.length_append, HN.out, List.length_singleton]; omega
          case g3 =>
          intro v1 w2 hap
          have HC : Hid (Two w w2 (.slice pW len0 cW) v1 (shl s vs) (flat (shl s vs) ++ nines.take (q9 + 1))) := by
            have := (HT.out.alloc _).addS hap
            show Two _ _ _ _ _ _
            rw [nines_take hlt9, ← List.append_assoc]
            exact this
          clear hap
          go_wp2
          go_roundw
          case rel => exact ⟨q9 + 1, by go_num, by omega, HC.out⟩
          case measure => simp [intOf]; omega
        · have e9 : nines.take q9 = nines := List.take_of_length_le (by show 9 ≤ _; omega)
          have HT2 := HT.out
          rw [e9] at HT2
          clear HT
          have HT : Hid (Two w wr (.slice pW len0 cW) _ (shl s vs) (flat (shl s vs) ++ nines)) := HT2
          clear HT2 e9 hnl
          go_wp2_with (at_builtin; refine ap8 _ rfl (.tmp 72) (.tmp 73) rfl rfl (HT.out.bytes.alloc _) ?h1 _ _ _ [2] rfl rfl (sl_one _ _ _ _) ?h2 ?h3)
          case h1 => first | omega | (simp; omega)
          case h2 => rw [List.length_append, HN.out]; simp [nines]; omega
          case h3 =>
          intro v1 w2 hap
          have HT2 : Hid (Two w w2 (.slice pW len0 cW) v1 (shl s vs) (flat (shl s vs) ++ (nines ++ [2]))) := by
            have := (HT.out.alloc _).addS hap
            show Two _ _ _ _ _ _
            rw [← List.append_assoc]
            exact this
          clear hap HT
          have HT := HT2
          clear HT2
          obtain ⟨w3, hw3⟩ : ∃ w3 : World, w3 = w2 := ⟨_, rfl⟩
          rw [← hw3] at HT ⊢
          clear hw3
          go_wp2
          go_loopw [10, 16] (fun d i wr => ∃ q : Nat, i = .int .i64 q ∧ q ≤ len3 ∧ Two w wr (.slice pW len0 cW) d (shl s vs) (flat (shl s vs) ++ ((nines ++ [2]) ++ js.take q))) (fun _ i _ => len3 - (intOf i).toNat)
          case atStart => exact ⟨0, rfl, by omega, by simpa using HT.out⟩
          case round =>
            obtain ⟨q, rfl, hq, htwo⟩ := hrel
            clear HT
            have HT : Hid (Two w wr (.slice pW len0 cW) _ (shl s vs) (flat (shl s vs) ++ ((nines ++ [2]) ++ js.take q))) := htwo
            have hsz : w.heap.size ≤ wr.heap.size := htwo.below.size
            clear htwo
            by_cases hlt : q < len3
            · obtain ⟨b, off, ha, hbl, hc⟩ := SJ.out.at (n := q) (by rw [HJ.out]; omega)
              subst ha
              have c0 : wr.cell? ⟨b, off + q, none⟩ = some (.int .u8 (el js q)) := (HT.out.below.cell hbl).trans (hc q (by rw [HJ.out]; omega))
              clear hc
              go_wp2_with (at_builtin; refine ap8 _ rfl (.tmp 84) (.tmp 89) rfl rfl (HT.out.bytes.alloc _) ?j1B _ _ _ [el js q] rfl rfl (sl_one _ _ _ _) ?j2B ?j3B)
              case j1B => first | omega | (simp; omega)
              case j2B => rw [List.length_append, HN.out]; have hN' := hN; simp [nines]; omega
              case j3B =>
                intro v' w1 hap
                have HC : Hid (Two w w1 (.slice pW len0 cW) v' (shl s vs) (flat (shl s vs) ++ ((nines ++ [2]) ++ js.take (q + 1)))) := by
                  have := (HT.out.alloc _).addS hap
                  show Two _ _ _ _ _ _
                  rw [take_succ_el (by rw [HJ.out]; omega)]
                  simpa using this
                clear hap
                go_wp2
                go_roundw
                case rel => exact ⟨q + 1, by go_num, by omega, HC.out⟩
                case measure => simp [intOf]; omega
            · have HT2 : Hid (Two w wr (.slice pW len0 cW) u10 (shl s vs) (flat (shl s vs) ++ ((nines ++ [2]) ++ js))) := by
                have := HT.out
                rw [List.take_of_length_le (by rw [HJ.out]; omega)] at this
                exact this
              clear HT
              have HT := HT2
              clear HT2
              obtain ⟨pF, cF, hvF, hcF, mcF, spF, _⟩ := HT.out.bytes.shape
              have hlF : (flat (shl s vs) ++ (nines ++ [2] ++ js)).length ≤ 20000 := by rw [List.length_append, List.length_append, HN.out, HJ.out]; simp [nines]; omega
              have HLF : Hid (∃ L, (flat (shl s vs) ++ (nines ++ [2] ++ js)).length = L ∧ L ≤ 20000) := ⟨_, rfl, hlF⟩
              obtain ⟨L, hL, hL2⟩ := HLF.out
              rw [hL] at hvF hcF
              subst hvF
              have HL : Hid ((flat (shl s vs) ++ (nines ++ [2] ++ js)).length = L) := hL
              have SF : Hid (Sl .u8 _ pF (flat (shl s vs) ++ (nines ++ [2] ++ js))) := spF
              have BF : Hid (Bytes (flat (shl s vs) ++ (nines ++ [2] ++ js))) := (flat_bytes HWW.out).append ((nines_bytes.append (Bytes.one (by omega) (by omega))).append BJ.out)
              clear spF hlF HLF hL
              go_wp2_with fail
              refine (decodeAll_any pF L cF (flat (shl s vs) ++ (nines ++ [2] ++ js)) _ HL.out (by omega) hcF BF.out SF.out).mono ?_
              rintro e wF ⟨vF, xs, code, rfl, hall, hfl, hc0, hc3, hown, hbel⟩
              obtain ⟨rfl, rfl⟩ := allOf_one xs hall (by have := fault3 HWW.out js; rw [show nines ++ [2] ++ js = nines ++ (2 :: js) by simp]; exact this)
              obtain ⟨pG, cG, hvG, hcG, mcG, spG, _⟩ := hown.shape
              subst hvG
              rw [HN.out, HWL.out]
              have XG : Hid (Sl .u64 wF pG (shl s vs)) := spG
              have XW : Hid (Sl .u64 wF pW (shl s vs)) := (HT.out.words.sl.2.2.2).later hbel (Nat.le_refl _)
              have B9 : Hid (Below w.heap.size w wF) := HT.out.below.trans (hbel.mono HT.out.below.size)
              clear hall hown hbel spG HT
              go_wp2_with fail
              refine (hsame_any pG pW len0 len0 cG cW (shl s vs) (shl s vs) wF HWL.out HWL.out (by omega) (by omega) XG.out XW.out).mono ?_
              rintro e wH ⟨rfl, hq⟩
              rw [sameB_true rfl]
              have B10 : Hid (Below w.heap.size w wH) := drews hq B9.out
              clear hq
              go_wp2
              go_ret
              exact ⟨ret_bool (by simp), B10.out⟩

/-! ### the row's step -/
set_option maxRecDepth 100000 in
theorem lifted (os : Os) (started : os.Started) (H : Type) (enc : TypeId × Value → H) :
    ReturnsInHanded {} Ycjm.checked os 13 .any (Rows.lawS930001HRoundTripSpec.pre6 enc Ycjm.prog Ycjm.f13 Rows.lawS930001HRoundTripRow.domain false) (Rows.lawS930001HRoundTripSpec.post enc Ycjm.prog Ycjm.f13 false true false false) := by
  refine returnsInHanded_of_change (C := Ycjm.checked) own started (by kernel_rfl) Ycjm.func13
    (ChangeSpec.witness6 (enc := enc) (C := Ycjm.checked) false ⟨#[], #[.slice none 0 0, .int .u8 0, .int .u8 0, .slice none 0 0], []⟩ 8 (by kernel_rfl) (by kernel_rfl) (by kernel_rfl) (by kernel_rfl)) ?_
  intro W base args ds gs before hval0 hW hcnd _
  have hval : ∀ (j : Nat) t v, Ycjm.f13.params[j]? = some t → args[j]? = some v → Value.okWide Ycjm.prog W .any base t v := hval0
  have hW' := hW
  obtain ⟨p, q, hA0, hV, rfl, hfz, hnd⟩ := hW
  have hA : DataW.TrodAll enc Ycjm.prog W 0 (fun _ => true) true Ycjm.f13.params.toList args.toList ds p := hA0
  rw [Ycjm.params13] at hA hval
  obtain ⟨v0, vs0, d0, ds0, p0, q0, hargs, rfl, rfl, h0, r0⟩ := trodAll_cons hA
  obtain ⟨v1, vs1, d1, ds1, p1, q1, rfl, rfl, rfl, h1, r1⟩ := trodAll_cons r0
  obtain ⟨v2, vs2, d2, ds2, p2, q2, rfl, rfl, rfl, h2, r2⟩ := trodAll_cons r1
  obtain ⟨v3, vs3, d3, ds3, p3, q3, rfl, rfl, rfl, h3, r3⟩ := trodAll_cons r2
  obtain ⟨rfl, rfl, rfl⟩ := trodAll_nil r3
  obtain rfl : args = #[v0, v1, v2, v3] := by cases args; simp_all
  obtain ⟨rfl, rfl⟩ := trodVars_none hV
  obtain ⟨a0, len0, cap0, rfl⟩ := okWide_slice Ycjm.underlying38 (hval 0 38 v0 rfl rfl)
  have k0 := h0
  have lt0 : ∀ x ∈ p0, x.block < W.heap.size := by obtain ⟨m, hm⟩ := k0; exact DataW.trod_lt m _ _ _ hm
  obtain ⟨z0, w0⟩ : ∃ zs, IsRow .u64 W a0 len0 cap0 zs := by
    obtain ⟨fuel, hf⟩ := h0
    rcases open_ints Ycjm.underlying38 Ycjm.underlying22 (by kernel_rfl) hf with ⟨hcs, _⟩ | ⟨x, l, c, zs, hcs, _, hl, hm, hz, _, hcell, hwz⟩
    · simp [Value.cells] at hcs
      obtain ⟨rfl, rfl, rfl⟩ := hcs
      exact ⟨[], .inl ⟨rfl, rfl, rfl, rfl⟩⟩
    · simp [Value.cells] at hcs
      obtain ⟨rfl, rfl, rfl⟩ := hcs
      exact ⟨zs, .inr ⟨_, rfl, hl, hm, by simpa using hz, hcell, hwz⟩⟩
  obtain ⟨a1, rfl, rfl, rfl, w1⟩ := open_int Ycjm.underlying5 (hval 1 5 v1 rfl rfl) h1
  obtain ⟨a2, rfl, rfl, rfl, w2⟩ := open_int Ycjm.underlying5 (hval 2 5 v2 rfl rfl) h2
  obtain ⟨a3, len3, cap3, rfl⟩ := okWide_slice Ycjm.underlying23 (hval 3 23 v3 rfl rfl)
  have k3 := h3
  have lt3 : ∀ x ∈ p3, x.block < W.heap.size := by obtain ⟨m, hm⟩ := k3; exact DataW.trod_lt m _ _ _ hm
  obtain ⟨z3, w3⟩ : ∃ zs, IsRow .u8 W a3 len3 cap3 zs := by
    obtain ⟨fuel, hf⟩ := h3
    rcases open_ints Ycjm.underlying23 Ycjm.underlying5 (by kernel_rfl) hf with ⟨hcs, _⟩ | ⟨x, l, c, zs, hcs, _, hl, hm, hz, _, hcell, hwz⟩
    · simp [Value.cells] at hcs
      obtain ⟨rfl, rfl, rfl⟩ := hcs
      exact ⟨[], .inl ⟨rfl, rfl, rfl, rfl⟩⟩
    · simp [Value.cells] at hcs
      obtain ⟨rfl, rfl, rfl⟩ := hcs
      exact ⟨zs, .inr ⟨_, rfl, hl, hm, by simpa using hz, hcell, hwz⟩⟩
  clear hA0 hval0
  refine (walk a0 len0 cap0 z0 a1 a2 a3 len3 cap3 z3 W w0 w1 w2 w3).mono fun e W' ⟨he, bel⟩ => ?_
  subst he
  exact ⟨_, rfl, _, _, _, [], _, [], hW', trodAll_mk1 (shut_bool Ycjm.underlying4 _), (trodAll_cons_mk (Below.trod laidOut (by kernel_rfl) (of_decide_eq_true (by kernel_rfl)) k0 bel lt0) (trodAll_cons_mk (shut_int Ycjm.underlying5 w1) (trodAll_cons_mk (shut_int Ycjm.underlying5 w2) (trodAll_cons_mk (Below.trod laidOut (by kernel_rfl) (of_decide_eq_true (by kernel_rfl)) k3 bel lt3) trodAll_mk0)))), rfl, bel.frame _, fun h => by cases h⟩

theorem over : Rows.lawS930001HRoundTripRow.holds Ycjm.pinned (OpenSpec.ofChange Rows.lawS930001HRoundTripSpec) :=
  OpenClaim.holds_of_wide 13 Ycjm.f13 rfl rfl rfl rfl rfl rfl rfl ⟨rfl, rfl, rfl, rfl, rfl⟩ rfl rfl rfl rfl rfl (by kernel_rfl) Ycjm.func13 (by kernel_rfl)
    (of_decide_eq_true (by kernel_rfl)) (by unfold Func.isWrapper; first | (rw [if_pos (by decide +kernel)]; kernel_rfl) | (rw [if_neg (by decide +kernel)]; exact ⟨rfl, rfl⟩))
    (fun os started H enc _ => lifted os started H enc)

/-- ████ THE STATEMENT ████ -/
theorem proved : Rows.LawS930001HRoundTripSaid := over
#print axioms proved
end Go.Proofs.Ymbrcj.lawS930001HRoundTrip
