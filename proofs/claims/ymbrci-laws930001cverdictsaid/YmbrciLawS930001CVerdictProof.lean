/-
  'Rows.LawS930001CVerdictSaid': the guide's shell at this function, its walk filled.
-/
import Derived.Test.YmbrciRows
import Derived.WalkKit
import Derived.ProofKit
import Derived.OpenShut
import Derived.ShutString
import Derived.ChangeOld
import Derived.Below
import Derived.Test.YmbrciCLib
namespace Go.Proofs.Ymbrci.lawS930001CVerdict
open Go.ChangeShapes Go.WideShapes Go.ChangeAt Go.RowKit
open Go.ChangeMaps (open_string shut_string)
set_option linter.unusedVariables false

theorem own : ownKnob Ycim.prog.godebug = none := by kernel_rfl
theorem laidOut : laidOutB Ycim.prog = true := by kernel_rfl

/-- WHAT THE WALK IS TOLD OF A SLICE OF INTEGERS THAT CAME IN: it is nil; or it leads to a row of 'cap' cells, the numbers 'zs' (the first 'len' are its elements, the rest its spare room), each fitting its kind. -/
def IsRow (k : IntKind) (w : World) (a : Option Addr) (len cap : Nat) (zs : List Int) : Prop :=
  (a = none ∧ len = 0 ∧ cap = 0 ∧ zs = []) ∨
  ∃ x, a = some x ∧ len ≤ cap ∧ cap ≤ maxLen ∧ zs.length = cap ∧ (∀ i, i < zs.length → w.cell? (x.add i) = some (.int k (zs.getD i 0))) ∧ ∀ n ∈ zs, (Lit.int k n).wf = true

/-- What the loop that looks for the greatest value keeps. -/
def VInv (xs : List Int) (q : Nat) (T : Int) (b : Bool) : Prop := (b = true ↔ ∀ j, j + 1 < q → el xs j ≤ el xs (j + 1)) ∧ (b = true → T = prv xs q)
theorem VInv.start (xs : List Int) : VInv xs 0 0 true := ⟨⟨fun _ j hj => by omega, fun _ => rfl⟩, fun _ => rfl⟩
theorem VInv.up {xs : List Int} {q : Nat} {T : Int} {b : Bool} (h : VInv xs q T b) (hge : T ≤ el xs q) : VInv xs (q + 1) (el xs q) b := by
  refine ⟨⟨fun hb j hj => ?_, fun hall => h.1.2 fun j hj => hall j (by omega)⟩, fun _ => (prv_succ xs q).symm⟩
  by_cases e : j + 1 = q
  · have h1 := h.2 hb
    unfold prv at h1
    rw [if_neg (by omega)] at h1
    rw [e, show j = q - 1 by omega, ← h1]; exact hge
  · exact h.1.1 hb j (by omega)
theorem VInv.down {xs : List Int} (hw : Words xs) {q : Nat} {T : Int} {b : Bool} (h : VInv xs q T b) (hlt : el xs q < T) : VInv xs (q + 1) T false := by
  refine ⟨⟨fun hb => absurd hb Bool.false_ne_true, fun hall => ?_⟩, fun hb => absurd hb Bool.false_ne_true⟩
  exfalso
  have h1 := h.2 (h.1.2 fun j hj => hall j (by omega))
  unfold prv at h1
  by_cases h0 : q = 0
  · rw [if_pos h0] at h1
    have := (hw.el q).1
    omega
  · rw [if_neg h0] at h1
    have := hall (q - 1) (by omega)
    rw [show q - 1 + 1 = q by omega] at this
    omega
theorem VInv.done {xs : List Int} {n : Nat} {T : Int} {b : Bool} (h : VInv xs n T b) (hn : xs.length = n) : b = srt xs := by
  subst hn
  rw [Bool.eq_iff_iff, srt_iff]; exact h.1

set_option maxRecDepth 100000 in
set_option maxHeartbeats 8000000 in
theorem walk (a0 : Option Addr) (len0 cap0 : Nat) (z0 : List Int) (a1 : Option Addr) (len1 cap1 : Nat) (z1 : List Int) (a2 : Int) (w : World) (w0 : IsRow .u8 w a0 len0 cap0 z0) (w1 : IsRow .u64 w a1 len1 cap1 z1) (w2 : (Lit.int .u8 a2).wf = true) :
    Calls Ycim.prog 10 #[.slice a0 len0 cap0, .slice a1 len1 cap1, .int .u8 a2] w fun e w' => e = .returned (.bool true) ∧ Below w.heap.size w w' := by
  obtain ⟨ds, hd, hdc, md, sd, wd, nd⟩ := sl_of_row w0
  obtain ⟨xs, hx, hxc, mx, sx, wx, nx⟩ := sl_of_row w1
  have h2 := u8_bd w2
  clear w0 w1 w2
  by_cases hbig : 1024 < len0
  · go_enter Ycim.func10, Ycim.ntmps10
    go_wp2
    go_ret
    exact ⟨rfl, Below.refl _ _⟩
  by_cases hbig1 : 1024 < len1
  · go_enter Ycim.func10, Ycim.ntmps10
    go_wp2
    go_ret
    exact ⟨rfl, Below.refl _ _⟩
  obtain ⟨s, hs⟩ : ∃ s : Nat, a2 = s := ⟨a2.toNat, by omega⟩
  subst hs
  have SD : Hid (Sl .u8 w a0 ds) := sd
  have HD : Hid (ds.length = len0) := hd
  have SX : Hid (Sl .u64 w a1 xs) := sx
  have HX : Hid (xs.length = len1) := hx
  have HW : Hid (Words xs) := words_of_wf wx
  have HND : Hid (a0 = none → len0 = 0 ∧ cap0 = 0) := nd
  clear sd hd sx hx wx nd nx wd hdc md hxc mx
  have s0 := run_pre Ycim.underlying22 size8 (some ⟨w.heap.size, 0, none⟩) (len0 + s) (len0 + s) len0 (by omega)
  have hnl := fun w => Lib.run_eql_slice_nil (P := Ycim.prog) w 22 5 a0 len0 cap0 0 0 Ycim.underlying22
  by_cases hnil : a0 = none
  · have HZ0 : Hid (len0 = 0) := (HND.out hnil).1
    have HDN : Hid (ds = []) := List.eq_nil_of_length_eq_zero (by rw [HD.out]; exact HZ0.out)
    have hi : a0.isNone = true := by rw [hnil]; rfl
    rw [hi] at hnl
    clear hnil hi
    clear HND
    go_enter Ycim.func10, Ycim.ntmps10
    go_wp2_with fail
    refine (cbuf_any a0 len0 cap0 s ds w HD.out (by omega) (by omega) SD.out).mono ?_
    rintro e w1 ⟨rfl, hown, hbel⟩
    have O1 : Hid (Owns .u8 5 w.heap.size w1 (.slice (some ⟨w.heap.size, 0, none⟩) (len0 + s) (len0 + s)) (cfill ds s)) := hown
    have B1 : Hid (Below w.heap.size w w1) := hbel
    have hb1 := hbel.size
    clear hown hbel
    go_wp2_with fail
    refine (appendSorted_any (.slice none 0 0) [] a1 len1 cap1 xs w1 w1.heap.size HX.out (by omega) HW.out (Owns.nil _ _ _ _) (Nat.le_refl _) (Nat.zero_le _) (SX.out.later B1.out (Nat.le_refl _)) (fun _ b off _ e1 => by simp [Value.ownBlock] at e1)).mono ?_
    rintro e w2 ⟨v2, rfl, hap⟩
    have B2 : Hid (Below w.heap.size w w2) := B1.out.trans (hap.belowNil.mono hb1)
    have O2 := O1.out.later hap.belowNil (Nat.le_refl _)
    have hown2 : Owns .u8 5 w1.heap.size w2 v2 (ds ++ (if srt xs = true then flat (gapsTo xs xs.length) else [])) := by rw [HDN.out]; exact hap.owns
    have hsame : (if srt xs = true then flat (gapsTo xs xs.length) else []) = [] → v2 = .slice none 0 0 := hap.same
    have SB2 : Hid (Sl .u8 w2 (some ⟨w.heap.size, 0, none⟩) ds) := .inl HDN.out
    have HBF : Hid ((if srt xs = true then flat (gapsTo xs xs.length) else []) = [] → ∀ i, len0 ≤ i → i < len0 + s → w2.cell? ⟨w.heap.size, i, none⟩ = some (.int .u8 165)) := fun _ i h1 h2 => by
      rw [(O2.at (by rw [cfill_len, HD.out]; exact h2)).1, cfill_right (by rw [HD.out]; exact h1) (by rw [HD.out]; exact h2)]
    clear hap O1 O2 B1
    have HSM : Hid ((if srt xs = true then flat (gapsTo xs xs.length) else []) = [] → v2 = (.slice none 0 0)) := hsame
    have HO2 : Hid (Owns .u8 5 w1.heap.size w2 v2 (ds ++ (if srt xs = true then flat (gapsTo xs xs.length) else []))) := hown2
    clear hsame hown2 s0
    cases hsrt : srt xs with
    | false =>
      have HSR : Hid (srt xs = false) := hsrt
      have hv2 := HSM.out (by rw [hsrt]; rfl)
      have BF2 : Hid (∀ i, len0 ≤ i → i < len0 + s → w2.cell? ⟨w.heap.size, i, none⟩ = some (.int .u8 165)) := HBF.out (by rw [hsrt]; rfl)
      have SP2 : Hid (Sl .u8 w2 none ds) := .inl HDN.out
      subst hv2
      clear hsrt HSM HO2 HBF
      go_wp2
      go_loopw [11, 12, 13] (fun t b i wr => ∃ (q : Nat) (T : Int) (bb : Bool), i = .int .i64 q ∧ q ≤ len1 ∧ t = .int .u64 T ∧ b = .bool bb ∧ VInv xs q T bb ∧ wr = w2) (fun _ _ i _ => len1 - (intOf i).toNat)
      case atStart => exact ⟨0, 0, true, rfl, by omega, rfl, rfl, VInv.start xs, rfl⟩
      case round =>
      obtain ⟨q, T, bb, rfl, hq, rfl, rfl, hv, hwr⟩ := hrel
      rw [hwr]
      have HV : Hid (VInv xs q T bb) := hv
      clear hv hwr
      by_cases hlt : q < len1
      · obtain ⟨ba, oa, ea, _, hca⟩ := (SX.out.later B2.out (Nat.le_refl _)).at (n := q) (by rw [HX.out]; omega)
        subst ea
        have k1 : w2.cell? ⟨ba, oa + q, none⟩ = some (.int .u64 (el xs q)) := hca q (by rw [HX.out]; omega)
        clear hca
        by_cases hge : T ≤ el xs q
        · go_wp2
          go_roundw
          case rel => exact ⟨q + 1, el xs q, bb, by go_num, by omega, rfl, rfl, HV.out.up hge, trivial⟩
          case measure => simp [intOf]; omega
        · go_wp2
          go_roundw
          case rel => exact ⟨q + 1, T, false, by go_num, by omega, rfl, rfl, HV.out.down HW.out (by omega), trivial⟩
          case measure => simp [intOf]; omega
      · have hqn : q = len1 := by omega
        rw [hqn] at HV
        have hbb : bb = false := by rw [HV.out.done HX.out, HSR.out]
        subst hbb
        clear HV
        go_wp2_with fail
        refine (cprefix_any none a0 0 len0 0 cap0 ds w2 HD.out (by have := HZ0.out; omega) (by omega) SP2.out (SD.out.later B2.out (Nat.le_refl _))).mono ?_
        rintro e w3 ⟨rfl, hq3⟩
        have B3 : Hid (Below w.heap.size w w3) := drews hq3 B2.out
        have SB3 : Hid (Sl .u8 w3 (some ⟨w.heap.size, 0, none⟩) ds) := SB2.out.quiet hq3
        have BF3 : Hid (∀ i, len0 ≤ i → i < len0 + s → w3.cell? ⟨w.heap.size, i, none⟩ = some (.int .u8 165)) := by
          obtain ⟨n, rfl⟩ := hq3; exact BF2.out
        clear hq3
        go_wp2_with fail
        refine (cprefix_any (some ⟨w.heap.size, 0, none⟩) a0 (len0 + s) len0 (len0 + s) cap0 ds w3 HD.out (by omega) (by omega) SB3.out (SD.out.later B3.out (Nat.le_refl _))).mono ?_
        rintro e w4 ⟨rfl, hq4⟩
        have B4 : Hid (Below w.heap.size w w4) := drews hq4 B3.out
        have BF4 : Hid (∀ i, len0 ≤ i → i < len0 + s → w4.cell? ⟨w.heap.size, i, none⟩ = some (.int .u8 165)) := by
          obtain ⟨n, rfl⟩ := hq4; exact BF3.out
        clear hq4
        have hnl2 := fun w => Lib.run_eql_slice_nil (P := Ycim.prog) w 22 5 none 0 0 0 0 Ycim.underlying22
        have dz : ((0 : Int) != (len0 : Int)) = false := by have := HZ0.out; simp; omega
        go_wp2
        go_loopw [14] (fun i wr => ∃ q : Nat, i = .int .i64 q ∧ len0 ≤ q ∧ q ≤ len0 + s ∧ wr = w4) (fun i _ => len0 + s - (intOf i).toNat)
        case atStart => exact ⟨len0, rfl, by omega, by omega, rfl⟩
        case round =>
        obtain ⟨q5, rfl, hq5, hq6, hwr⟩ := hrel
        rw [hwr]
        clear hwr
        by_cases hlt5 : q5 < len0 + s
        · have k1 : w4.cell? ⟨w.heap.size, q5, none⟩ = some (.int .u8 165) := BF4.out q5 hq5 hlt5
          go_wp2
          go_roundw
          case rel => exact ⟨q5 + 1, by go_num, by omega, by omega, trivial⟩
          case measure => simp [intOf]; omega
        · go_wp2
          go_ret
          exact ⟨rfl, B4.out⟩
    | true =>
      have HSR : Hid (srt xs = true) := hsrt
      by_cases hl : len1 = 0
      · have hks : (if srt xs = true then flat (gapsTo xs xs.length) else []) = [] := by rw [hsrt, HX.out, hl]; rfl
        have hv2 := HSM.out hks
        have BF2 : Hid (∀ i, len0 ≤ i → i < len0 + s → w2.cell? ⟨w.heap.size, i, none⟩ = some (.int .u8 165)) := HBF.out hks
        have SP2 : Hid (Sl .u8 w2 none ds) := .inl HDN.out
        subst hv2
        clear hsrt HSM HO2 HBF hks
        go_wp2
        go_loopw [11, 12, 13] (fun t b i wr => ∃ (q : Nat) (T : Int) (bb : Bool), i = .int .i64 q ∧ q ≤ len1 ∧ t = .int .u64 T ∧ b = .bool bb ∧ VInv xs q T bb ∧ wr = w2) (fun _ _ i _ => len1 - (intOf i).toNat)
        case atStart => exact ⟨0, 0, true, rfl, by omega, rfl, rfl, VInv.start xs, rfl⟩
        case round =>
        obtain ⟨q, T, bb, rfl, hq, rfl, rfl, hv, hwr⟩ := hrel
        rw [hwr]
        have HV : Hid (VInv xs q T bb) := hv
        clear hv hwr
        by_cases hlt : q < len1
        · exfalso; omega
        · have hqn : q = len1 := by omega
          rw [hqn] at HV
          have hbb : bb = true := by rw [HV.out.done HX.out, HSR.out]
          subst hbb
          clear HV
          go_wp2_with fail
          refine (cprefix_any none a0 0 len0 0 cap0 ds w2 HD.out (by have := HZ0.out; omega) (by omega) SP2.out (SD.out.later B2.out (Nat.le_refl _))).mono ?_
          rintro e w3 ⟨rfl, hq3⟩
          have B3 : Hid (Below w.heap.size w w3) := drews hq3 B2.out
          have SB3 : Hid (Sl .u8 w3 (some ⟨w.heap.size, 0, none⟩) ds) := SB2.out.quiet hq3
          have BF3 : Hid (∀ i, len0 ≤ i → i < len0 + s → w3.cell? ⟨w.heap.size, i, none⟩ = some (.int .u8 165)) := by
            obtain ⟨n, rfl⟩ := hq3; exact BF2.out
          clear hq3
          go_wp2_with fail
          refine (cprefix_any (some ⟨w.heap.size, 0, none⟩) a0 (len0 + s) len0 (len0 + s) cap0 ds w3 HD.out (by omega) (by omega) SB3.out (SD.out.later B3.out (Nat.le_refl _))).mono ?_
          rintro e w4 ⟨rfl, hq4⟩
          have B4 : Hid (Below w.heap.size w w4) := drews hq4 B3.out
          have BF4 : Hid (∀ i, len0 ≤ i → i < len0 + s → w4.cell? ⟨w.heap.size, i, none⟩ = some (.int .u8 165)) := by
            obtain ⟨n, rfl⟩ := hq4; exact BF3.out
          clear hq4
          have hnl2 := fun w => Lib.run_eql_slice_nil (P := Ycim.prog) w 22 5 none 0 0 0 0 Ycim.underlying22
          have dz : ((0 : Int) != (len0 : Int)) = false := by have := HZ0.out; simp; omega
          go_wp2
          go_loopw [14] (fun i wr => ∃ q : Nat, i = .int .i64 q ∧ len0 ≤ q ∧ q ≤ len0 + s ∧ wr = w4) (fun i _ => len0 + s - (intOf i).toNat)
          case atStart => exact ⟨len0, rfl, by omega, by omega, rfl⟩
          case round =>
          obtain ⟨q5, rfl, hq5, hq6, hwr⟩ := hrel
          rw [hwr]
          clear hwr
          by_cases hlt5 : q5 < len0 + s
          · have k1 : w4.cell? ⟨w.heap.size, q5, none⟩ = some (.int .u8 165) := BF4.out q5 hq5 hlt5
            go_wp2
            go_roundw
            case rel => exact ⟨q5 + 1, by go_num, by omega, by omega, trivial⟩
            case measure => simp [intOf]; omega
          · go_wp2
            go_ret
            exact ⟨rfl, B4.out⟩
      · obtain ⟨G, hG⟩ : ∃ G, gapsTo xs xs.length = G := ⟨_, rfl⟩
        have HLG : Hid (G.length = len1) := by show _ = _; rw [← hG, gapsTo_len, HX.out]
        have HGE : Hid (∀ i, i < len1 → el G i = gp xs i) := fun i hi => by rw [← hG, gapsTo_el (by rw [HX.out]; exact hi)]
        have HGW : Hid (Words G) := by show Words G; rw [← hG]; exact gapsTo_words HW.out hsrt (Nat.le_refl _)
        have ho := HO2.out
        rw [hsrt, if_pos rfl, hG] at ho
        obtain ⟨p2, c2, hv2, hc2, mc2, sp2, _⟩ := ho.shape
        obtain ⟨N, hN⟩ : ∃ N, (ds ++ flat G).length = N := ⟨_, rfl⟩
        rw [hN] at hv2 hc2
        have mN : N ≤ 9223372036854775807 := by omega
        have HN : Hid (len0 + (flat G).length = N) := by show _ = _; rw [← hN, List.length_append, HD.out]
        have hN2 : len0 ≤ N := by have := HN.out; omega
        have S2 : Hid (Sl .u8 w2 p2 (ds ++ flat G)) := sp2
        have HNN : Hid ((ds ++ flat G).length = N) := hN
        have SP2 : Hid (Sl .u8 w2 p2 ds) := by
          have := sp2.pre len0
          rw [← HD.out, List.take_left] at this
          exact this
        subst hv2
        clear hsrt HSM HO2 HBF hG ho hc2 mc2 sp2 hN
        go_wp2
        go_loopw [11, 12, 13] (fun t b i wr => ∃ (q : Nat) (T : Int) (bb : Bool), i = .int .i64 q ∧ q ≤ len1 ∧ t = .int .u64 T ∧ b = .bool bb ∧ VInv xs q T bb ∧ wr = w2) (fun _ _ i _ => len1 - (intOf i).toNat)
        case atStart => exact ⟨0, 0, true, rfl, by omega, rfl, rfl, VInv.start xs, rfl⟩
        case round =>
        obtain ⟨q, T, bb, rfl, hq, rfl, rfl, hv, hwr⟩ := hrel
        rw [hwr]
        have HV : Hid (VInv xs q T bb) := hv
        clear hv hwr
        by_cases hlt : q < len1
        · obtain ⟨ba, oa, ea, _, hca⟩ := (SX.out.later B2.out (Nat.le_refl _)).at (n := q) (by rw [HX.out]; omega)
          subst ea
          have k1 : w2.cell? ⟨ba, oa + q, none⟩ = some (.int .u64 (el xs q)) := hca q (by rw [HX.out]; omega)
          clear hca
          by_cases hge : T ≤ el xs q
          · go_wp2
            go_roundw
            case rel => exact ⟨q + 1, el xs q, bb, by go_num, by omega, rfl, rfl, HV.out.up hge, trivial⟩
            case measure => simp [intOf]; omega
          · go_wp2
            go_roundw
            case rel => exact ⟨q + 1, T, false, by go_num, by omega, rfl, rfl, HV.out.down HW.out (by omega), trivial⟩
            case measure => simp [intOf]; omega
        · have hqn : q = len1 := by omega
          rw [hqn] at HV
          have hbb : bb = true := by rw [HV.out.done HX.out, HSR.out]
          subst hbb
          clear HV
          go_wp2_with fail
          refine (cprefix_any p2 a0 N len0 c2 cap0 ds w2 HD.out hN2 (by omega) SP2.out (SD.out.later B2.out (Nat.le_refl _))).mono ?_
          rintro e w3 ⟨rfl, hq3⟩
          have B3 : Hid (Below w.heap.size w w3) := drews hq3 B2.out
          have SB3 : Hid (Sl .u8 w3 (some ⟨w.heap.size, 0, none⟩) ds) := SB2.out.quiet hq3
          have S3 : Hid (Sl .u8 w3 p2 (ds ++ flat G)) := S2.out.quiet hq3
          clear hq3
          go_wp2_with fail
          refine (cprefix_any (some ⟨w.heap.size, 0, none⟩) a0 (len0 + s) len0 (len0 + s) cap0 ds w3 HD.out (by omega) (by omega) SB3.out (SD.out.later B3.out (Nat.le_refl _))).mono ?_
          rintro e w4 ⟨rfl, hq4⟩
          have B4 : Hid (Below w.heap.size w w4) := drews hq4 B3.out
          have S4 : Hid (Sl .u8 w4 p2 (ds ++ flat G)) := S3.out.quiet hq4
          clear hq4
          have hx0 := gap_bd HW.out HSR.out (q := 0) (by rw [HX.out]; omega)
          have hg0 : el G 0 = el xs 0 := by
            rw [HGE.out 0 (by omega)]
            show el xs 0 - 0 = el xs 0
            omega
          obtain ⟨ba, oa, ea, _, hca⟩ := (SX.out.later B4.out (Nat.le_refl _)).at (n := 0) (by rw [HX.out]; omega)
          subst ea
          have k1 : w4.cell? ⟨ba, oa, none⟩ = some (.int .u64 (el G 0)) := by rw [hg0]; exact hca 0 (by rw [HX.out]; omega)
          have hgb : 0 ≤ el G 0 ∧ el G 0 ≤ 18446744073709551615 := HGW.out.el 0
          clear hca hg0 hx0
          obtain ⟨n, hn⟩ : ∃ n, (E (el G 0)).length = n := ⟨_, rfl⟩
          obtain ⟨f1, f2, f3⟩ := flat_at (G := G) (q := 0) (by rw [HLG.out]; omega) hn
          simp only [List.take_zero, flat_nil, List.length_nil, Nat.zero_add] at f1 f2
          have hPn : len0 + n ≤ N := by have := HN.out; omega
          have HF2 : Hid ((flat (G.take 1)).length = n) := f2
          have HAT : Hid (∀ j, j < n → el (ds ++ flat G) (len0 + j) = el (E (el G 0)) j) := fun j hj => by
            rw [← f3 j hj, ← HD.out, el_at, List.take_zero, flat_nil, List.length_nil, Nat.zero_add]
          have HEN : Hid ((E (el G 0)).length = n) := hn
          clear f1 f2 f3 hn
          have hl1 : 0 < len1 := by omega
          go_wp2_with fail
          refine (cat_any p2 N c2 len0 n (el G 0) (ds ++ flat G) w4 HNN.out mN hgb.1 hgb.2 HEN.out hPn HAT.out S4.out).mono ?_
          rintro e w5 ⟨rfl, hw5⟩
          rw [hw5]
          clear hw5 w5
          obtain ⟨P1, hP1⟩ : ∃ P1, len0 + n = P1 := ⟨_, rfl⟩
          rw [hP1]
          have HP1 : Hid (P1 = len0 + (flat (G.take 1)).length) := by show _ = _; rw [HF2.out, hP1]
          clear hP1 hPn HAT HEN HF2 k1
          go_wp2
          go_loopw [15, 16] (fun ps i wr => ∃ (k P : Nat), i = .int .i64 (k + 1 : Nat) ∧ k + 1 ≤ len1 ∧ ps = .int .i64 P ∧ P = len0 + (flat (G.take (k + 1))).length ∧ Sl .u8 wr p2 (ds ++ flat G) ∧ Below w.heap.size w wr) (fun _ i _ => len1 - (intOf i).toNat)
          case atStart => exact ⟨0, P1, rfl, by omega, rfl, HP1.out, S4.out, B4.out⟩
          case round =>
          clear S4 B4 HP1
          obtain ⟨k, P, rfl, hk, rfl, hP, hS, hB⟩ := hrel
          have HP : Hid (P = len0 + (flat (G.take (k + 1))).length) := hP
          have S4 : Hid (Sl .u8 wr p2 (ds ++ flat G)) := hS
          have B4 : Hid (Below w.heap.size w wr) := hB
          clear hP hS hB
          by_cases hlt5 : k + 1 < len1
          · obtain ⟨bc, oc, ec, _, hca⟩ := (SX.out.later B4.out (Nat.le_refl _)).at (n := k) (by rw [HX.out]; omega)
            simp only [Option.some.injEq, Addr.mk.injEq] at ec
            obtain ⟨rfl, rfl, _⟩ := ec
            have k0 : wr.cell? ⟨ba, oa + k, none⟩ = some (.int .u64 (el xs k)) := hca k (by rw [HX.out]; omega)
            have k1 : wr.cell? ⟨ba, oa + (k + 1), none⟩ = some (.int .u64 (el xs (k + 1))) := hca (k + 1) (by rw [HX.out]; omega)
            have hbd := gap_bd HW.out HSR.out (q := k + 1) (by rw [HX.out]; exact hlt5)
            rw [prv_succ] at hbd
            have hge := HGE.out (k + 1) hlt5
            unfold gp at hge
            rw [prv_succ] at hge
            obtain ⟨x, hx⟩ : ∃ x, el xs (k + 1) = x := ⟨_, rfl⟩
            obtain ⟨y, hy⟩ : ∃ y, el xs k = y := ⟨_, rfl⟩
            rw [hx] at k1 hbd hge
            rw [hy] at k0 hbd hge
            obtain ⟨b0, b1, b2⟩ := hbd
            obtain ⟨m, hm⟩ : ∃ m, (E (el G (k + 1))).length = m := ⟨_, rfl⟩
            obtain ⟨f1, f2, f3⟩ := flat_at (G := G) (q := k + 1) (by rw [HLG.out]; omega) hm
            have hPm : P + m ≤ N := by have := HN.out; have := HP.out; omega
            have HF2 : Hid ((flat (G.take (k + 1 + 1))).length = (flat (G.take (k + 1))).length + m) := f2
            have HAT : Hid (∀ j, j < m → el (ds ++ flat G) (P + j) = el (E (el G (k + 1))) j) := fun j hj => by
              rw [← f3 j hj, HP.out, ← HD.out, Nat.add_assoc, el_at]
            have HEN : Hid ((E (el G (k + 1))).length = m) := hm
            rw [hge] at HAT HEN
            clear f1 f2 f3 hm hca hx hy hge
            go_wp2
            go_quiet ((go_at_call 26; exact Calls.quiet_of_same (cat_any p2 N c2 P m (x - y) (ds ++ flat G) _ HNN.out mN (by omega) (by omega) HEN.out hPm HAT.out S4.out)))
            go_wp2
            go_roundw
            case rel => exact ⟨k + 1, P + m, by go_num, by omega, by go_num, by rw [HF2.out, HP.out]; omega, S4.out.drewN _, below_drewN B4.out _⟩
            case measure => simp [intOf]; omega
          · have hk1 : k + 1 = len1 := by omega
            have hPN : P = N := by rw [HP.out, ← HN.out, List.take_of_length_le (by rw [HLG.out]; omega)]
            subst hPN
            clear hk1
            go_wp2
            go_ret
            exact ⟨rfl, B4.out⟩
  · have hi : a0.isNone = false := by
      cases a0
      · exact absurd rfl hnil
      · rfl
    rw [hi] at hnl
    clear hnil hi
    clear HND
    go_enter Ycim.func10, Ycim.ntmps10
    go_wp2_with fail
    refine (cbuf_any a0 len0 cap0 s ds w HD.out (by omega) (by omega) SD.out).mono ?_
    rintro e w1 ⟨rfl, hown, hbel⟩
    have O1 : Hid (Owns .u8 5 w.heap.size w1 (.slice (some ⟨w.heap.size, 0, none⟩) (len0 + s) (len0 + s)) (cfill ds s)) := hown
    have B1 : Hid (Below w.heap.size w w1) := hbel
    have hb1 := hbel.size
    have K1 : Hid (Owns .u8 5 w.heap.size w1 (.slice (some ⟨w.heap.size, 0, none⟩) len0 (len0 + s)) ((cfill ds s).take len0)) := hown.pre (by rw [cfill_len, HD.out]; omega)
    have HCT : Hid ((cfill ds s).take len0 = ds) := by show _ = _; rw [← HD.out]; exact cfill_take ds s
    clear hown hbel
    go_wp2_with fail
    refine (appendSorted_any (.slice (some ⟨w.heap.size, 0, none⟩) len0 (len0 + s)) ((cfill ds s).take len0) a1 len1 cap1 xs w1 w.heap.size HX.out (by omega) HW.out K1.out hb1 (by rw [HCT.out, HD.out]; omega) (SX.out.later B1.out (Nat.le_refl _)) (K1.out.notOld SX.out)).mono ?_
    rintro e w2 ⟨v2, rfl, hap⟩
    have hbuf := hap.buf O1.out (by omega)
    have B2 : Hid (Below w.heap.size w w2) := B1.out.trans (hap.below K1.out hb1)
    have hown2 : Owns .u8 5 w.heap.size w2 v2 (ds ++ (if srt xs = true then flat (gapsTo xs xs.length) else [])) := by have := hap.owns; rwa [HCT.out] at this
    have hsame : (if srt xs = true then flat (gapsTo xs xs.length) else []) = [] → v2 = .slice (some ⟨w.heap.size, 0, none⟩) len0 (len0 + s) := hap.same
    have SB2 : Hid (Sl .u8 w2 (some ⟨w.heap.size, 0, none⟩) ds) := .inr ⟨w.heap.size, 0, rfl, fun i hi => by
      rw [Nat.zero_add, hbuf.1 i (by rw [← HD.out]; omega) (.inl (by rw [← HD.out]; exact hi)), cfill_left hi]⟩
    have HBF : Hid ((if srt xs = true then flat (gapsTo xs xs.length) else []) = [] → ∀ i, len0 ≤ i → i < len0 + s → w2.cell? ⟨w.heap.size, i, none⟩ = some (.int .u8 165)) := fun hks i h1 h2 => by
      rw [hbuf.1 i h2 (.inr (by rw [hks]; simpa using h1)), cfill_right (by rw [HD.out]; exact h1) (by rw [HD.out]; exact h2)]
    clear hap O1 K1 B1 hbuf
    have HSM : Hid ((if srt xs = true then flat (gapsTo xs xs.length) else []) = [] → v2 = (.slice (some ⟨w.heap.size, 0, none⟩) len0 (len0 + s))) := hsame
    have HO2 : Hid (Owns .u8 5 w.heap.size w2 v2 (ds ++ (if srt xs = true then flat (gapsTo xs xs.length) else []))) := hown2
    clear hsame hown2 s0
    cases hsrt : srt xs with
    | false =>
      have HSR : Hid (srt xs = false) := hsrt
      have hv2 := HSM.out (by rw [hsrt]; rfl)
      have BF2 : Hid (∀ i, len0 ≤ i → i < len0 + s → w2.cell? ⟨w.heap.size, i, none⟩ = some (.int .u8 165)) := HBF.out (by rw [hsrt]; rfl)
      have SP2 : Hid (Sl .u8 w2 (some ⟨w.heap.size, 0, none⟩) ds) := SB2.out
      subst hv2
      clear hsrt HSM HO2 HBF
      go_wp2
      go_loopw [11, 12, 13] (fun t b i wr => ∃ (q : Nat) (T : Int) (bb : Bool), i = .int .i64 q ∧ q ≤ len1 ∧ t = .int .u64 T ∧ b = .bool bb ∧ VInv xs q T bb ∧ wr = w2) (fun _ _ i _ => len1 - (intOf i).toNat)
      case atStart => exact ⟨0, 0, true, rfl, by omega, rfl, rfl, VInv.start xs, rfl⟩
      case round =>
      obtain ⟨q, T, bb, rfl, hq, rfl, rfl, hv, hwr⟩ := hrel
      rw [hwr]
      have HV : Hid (VInv xs q T bb) := hv
      clear hv hwr
      by_cases hlt : q < len1
      · obtain ⟨ba, oa, ea, _, hca⟩ := (SX.out.later B2.out (Nat.le_refl _)).at (n := q) (by rw [HX.out]; omega)
        subst ea
        have k1 : w2.cell? ⟨ba, oa + q, none⟩ = some (.int .u64 (el xs q)) := hca q (by rw [HX.out]; omega)
        clear hca
        by_cases hge : T ≤ el xs q
        · go_wp2
          go_roundw
          case rel => exact ⟨q + 1, el xs q, bb, by go_num, by omega, rfl, rfl, HV.out.up hge, trivial⟩
          case measure => simp [intOf]; omega
        · go_wp2
          go_roundw
          case rel => exact ⟨q + 1, T, false, by go_num, by omega, rfl, rfl, HV.out.down HW.out (by omega), trivial⟩
          case measure => simp [intOf]; omega
      · have hqn : q = len1 := by omega
        rw [hqn] at HV
        have hbb : bb = false := by rw [HV.out.done HX.out, HSR.out]
        subst hbb
        clear HV
        go_wp2_with fail
        refine (cprefix_any (some ⟨w.heap.size, 0, none⟩) a0 len0 len0 (len0 + s) cap0 ds w2 HD.out (Nat.le_refl _) (by omega) SP2.out (SD.out.later B2.out (Nat.le_refl _))).mono ?_
        rintro e w3 ⟨rfl, hq3⟩
        have B3 : Hid (Below w.heap.size w w3) := drews hq3 B2.out
        have SB3 : Hid (Sl .u8 w3 (some ⟨w.heap.size, 0, none⟩) ds) := SB2.out.quiet hq3
        have BF3 : Hid (∀ i, len0 ≤ i → i < len0 + s → w3.cell? ⟨w.heap.size, i, none⟩ = some (.int .u8 165)) := by
          obtain ⟨n, rfl⟩ := hq3; exact BF2.out
        clear hq3
        go_wp2_with fail
        refine (cprefix_any (some ⟨w.heap.size, 0, none⟩) a0 (len0 + s) len0 (len0 + s) cap0 ds w3 HD.out (by omega) (by omega) SB3.out (SD.out.later B3.out (Nat.le_refl _))).mono ?_
        rintro e w4 ⟨rfl, hq4⟩
        have B4 : Hid (Below w.heap.size w w4) := drews hq4 B3.out
        have BF4 : Hid (∀ i, len0 ≤ i → i < len0 + s → w4.cell? ⟨w.heap.size, i, none⟩ = some (.int .u8 165)) := by
          obtain ⟨n, rfl⟩ := hq4; exact BF3.out
        clear hq4
        have hnl2 := fun w9 => Lib.run_eql_slice_nil (P := Ycim.prog) w9 22 5 (some ⟨w.heap.size, 0, none⟩) len0 (len0 + s) 0 0 Ycim.underlying22
        go_wp2
        go_loopw [14] (fun i wr => ∃ q : Nat, i = .int .i64 q ∧ len0 ≤ q ∧ q ≤ len0 + s ∧ wr = w4) (fun i _ => len0 + s - (intOf i).toNat)
        case atStart => exact ⟨len0, rfl, by omega, by omega, rfl⟩
        case round =>
        obtain ⟨q5, rfl, hq5, hq6, hwr⟩ := hrel
        rw [hwr]
        clear hwr
        by_cases hlt5 : q5 < len0 + s
        · have k1 : w4.cell? ⟨w.heap.size, q5, none⟩ = some (.int .u8 165) := BF4.out q5 hq5 hlt5
          go_wp2
          go_roundw
          case rel => exact ⟨q5 + 1, by go_num, by omega, by omega, trivial⟩
          case measure => simp [intOf]; omega
        · go_wp2
          go_ret
          exact ⟨rfl, B4.out⟩
    | true =>
      have HSR : Hid (srt xs = true) := hsrt
      by_cases hl : len1 = 0
      · have hks : (if srt xs = true then flat (gapsTo xs xs.length) else []) = [] := by rw [hsrt, HX.out, hl]; rfl
        have hv2 := HSM.out hks
        have BF2 : Hid (∀ i, len0 ≤ i → i < len0 + s → w2.cell? ⟨w.heap.size, i, none⟩ = some (.int .u8 165)) := HBF.out hks
        have SP2 : Hid (Sl .u8 w2 (some ⟨w.heap.size, 0, none⟩) ds) := SB2.out
        subst hv2
        clear hsrt HSM HO2 HBF hks
        go_wp2
        go_loopw [11, 12, 13] (fun t b i wr => ∃ (q : Nat) (T : Int) (bb : Bool), i = .int .i64 q ∧ q ≤ len1 ∧ t = .int .u64 T ∧ b = .bool bb ∧ VInv xs q T bb ∧ wr = w2) (fun _ _ i _ => len1 - (intOf i).toNat)
        case atStart => exact ⟨0, 0, true, rfl, by omega, rfl, rfl, VInv.start xs, rfl⟩
        case round =>
        obtain ⟨q, T, bb, rfl, hq, rfl, rfl, hv, hwr⟩ := hrel
        rw [hwr]
        have HV : Hid (VInv xs q T bb) := hv
        clear hv hwr
        by_cases hlt : q < len1
        · exfalso; omega
        · have hqn : q = len1 := by omega
          rw [hqn] at HV
          have hbb : bb = true := by rw [HV.out.done HX.out, HSR.out]
          subst hbb
          clear HV
          go_wp2_with fail
          refine (cprefix_any (some ⟨w.heap.size, 0, none⟩) a0 len0 len0 (len0 + s) cap0 ds w2 HD.out (Nat.le_refl _) (by omega) SP2.out (SD.out.later B2.out (Nat.le_refl _))).mono ?_
          rintro e w3 ⟨rfl, hq3⟩
          have B3 : Hid (Below w.heap.size w w3) := drews hq3 B2.out
          have SB3 : Hid (Sl .u8 w3 (some ⟨w.heap.size, 0, none⟩) ds) := SB2.out.quiet hq3
          have BF3 : Hid (∀ i, len0 ≤ i → i < len0 + s → w3.cell? ⟨w.heap.size, i, none⟩ = some (.int .u8 165)) := by
            obtain ⟨n, rfl⟩ := hq3; exact BF2.out
          clear hq3
          go_wp2_with fail
          refine (cprefix_any (some ⟨w.heap.size, 0, none⟩) a0 (len0 + s) len0 (len0 + s) cap0 ds w3 HD.out (by omega) (by omega) SB3.out (SD.out.later B3.out (Nat.le_refl _))).mono ?_
          rintro e w4 ⟨rfl, hq4⟩
          have B4 : Hid (Below w.heap.size w w4) := drews hq4 B3.out
          have BF4 : Hid (∀ i, len0 ≤ i → i < len0 + s → w4.cell? ⟨w.heap.size, i, none⟩ = some (.int .u8 165)) := by
            obtain ⟨n, rfl⟩ := hq4; exact BF3.out
          clear hq4
          have hnl2 := fun w9 => Lib.run_eql_slice_nil (P := Ycim.prog) w9 22 5 (some ⟨w.heap.size, 0, none⟩) len0 (len0 + s) 0 0 Ycim.underlying22
          go_wp2
          go_loopw [14] (fun i wr => ∃ q : Nat, i = .int .i64 q ∧ len0 ≤ q ∧ q ≤ len0 + s ∧ wr = w4) (fun i _ => len0 + s - (intOf i).toNat)
          case atStart => exact ⟨len0, rfl, by omega, by omega, rfl⟩
          case round =>
          obtain ⟨q5, rfl, hq5, hq6, hwr⟩ := hrel
          rw [hwr]
          clear hwr
          by_cases hlt5 : q5 < len0 + s
          · have k1 : w4.cell? ⟨w.heap.size, q5, none⟩ = some (.int .u8 165) := BF4.out q5 hq5 hlt5
            go_wp2
            go_roundw
            case rel => exact ⟨q5 + 1, by go_num, by omega, by omega, trivial⟩
            case measure => simp [intOf]; omega
          · go_wp2
            go_ret
            exact ⟨rfl, B4.out⟩
      · obtain ⟨G, hG⟩ : ∃ G, gapsTo xs xs.length = G := ⟨_, rfl⟩
        have HLG : Hid (G.length = len1) := by show _ = _; rw [← hG, gapsTo_len, HX.out]
        have HGE : Hid (∀ i, i < len1 → el G i = gp xs i) := fun i hi => by rw [← hG, gapsTo_el (by rw [HX.out]; exact hi)]
        have HGW : Hid (Words G) := by show Words G; rw [← hG]; exact gapsTo_words HW.out hsrt (Nat.le_refl _)
        have ho := HO2.out
        rw [hsrt, if_pos rfl, hG] at ho
        obtain ⟨p2, c2, hv2, hc2, mc2, sp2, _⟩ := ho.shape
        obtain ⟨N, hN⟩ : ∃ N, (ds ++ flat G).length = N := ⟨_, rfl⟩
        rw [hN] at hv2 hc2
        have mN : N ≤ 9223372036854775807 := by omega
        have HN : Hid (len0 + (flat G).length = N) := by show _ = _; rw [← hN, List.length_append, HD.out]
        have hN2 : len0 ≤ N := by have := HN.out; omega
        have S2 : Hid (Sl .u8 w2 p2 (ds ++ flat G)) := sp2
        have HNN : Hid ((ds ++ flat G).length = N) := hN
        have SP2 : Hid (Sl .u8 w2 p2 ds) := by
          have := sp2.pre len0
          rw [← HD.out, List.take_left] at this
          exact this
        subst hv2
        clear hsrt HSM HO2 HBF hG ho hc2 mc2 sp2 hN
        go_wp2
        go_loopw [11, 12, 13] (fun t b i wr => ∃ (q : Nat) (T : Int) (bb : Bool), i = .int .i64 q ∧ q ≤ len1 ∧ t = .int .u64 T ∧ b = .bool bb ∧ VInv xs q T bb ∧ wr = w2) (fun _ _ i _ => len1 - (intOf i).toNat)
        case atStart => exact ⟨0, 0, true, rfl, by omega, rfl, rfl, VInv.start xs, rfl⟩
        case round =>
        obtain ⟨q, T, bb, rfl, hq, rfl, rfl, hv, hwr⟩ := hrel
        rw [hwr]
        have HV : Hid (VInv xs q T bb) := hv
        clear hv hwr
        by_cases hlt : q < len1
        · obtain ⟨ba, oa, ea, _, hca⟩ := (SX.out.later B2.out (Nat.le_refl _)).at (n := q) (by rw [HX.out]; omega)
          subst ea
          have k1 : w2.cell? ⟨ba, oa + q, none⟩ = some (.int .u64 (el xs q)) := hca q (by rw [HX.out]; omega)
          clear hca
          by_cases hge : T ≤ el xs q
          · go_wp2
            go_roundw
            case rel => exact ⟨q + 1, el xs q, bb, by go_num, by omega, rfl, rfl, HV.out.up hge, trivial⟩
            case measure => simp [intOf]; omega
          · go_wp2
            go_roundw
            case rel => exact ⟨q + 1, T, false, by go_num, by omega, rfl, rfl, HV.out.down HW.out (by omega), trivial⟩
            case measure => simp [intOf]; omega
        · have hqn : q = len1 := by omega
          rw [hqn] at HV
          have hbb : bb = true := by rw [HV.out.done HX.out, HSR.out]
          subst hbb
          clear HV
          go_wp2_with fail
          refine (cprefix_any p2 a0 N len0 c2 cap0 ds w2 HD.out hN2 (by omega) SP2.out (SD.out.later B2.out (Nat.le_refl _))).mono ?_
          rintro e w3 ⟨rfl, hq3⟩
          have B3 : Hid (Below w.heap.size w w3) := drews hq3 B2.out
          have SB3 : Hid (Sl .u8 w3 (some ⟨w.heap.size, 0, none⟩) ds) := SB2.out.quiet hq3
          have S3 : Hid (Sl .u8 w3 p2 (ds ++ flat G)) := S2.out.quiet hq3
          clear hq3
          go_wp2_with fail
          refine (cprefix_any (some ⟨w.heap.size, 0, none⟩) a0 (len0 + s) len0 (len0 + s) cap0 ds w3 HD.out (by omega) (by omega) SB3.out (SD.out.later B3.out (Nat.le_refl _))).mono ?_
          rintro e w4 ⟨rfl, hq4⟩
          have B4 : Hid (Below w.heap.size w w4) := drews hq4 B3.out
          have S4 : Hid (Sl .u8 w4 p2 (ds ++ flat G)) := S3.out.quiet hq4
          clear hq4
          have hx0 := gap_bd HW.out HSR.out (q := 0) (by rw [HX.out]; omega)
          have hg0 : el G 0 = el xs 0 := by
            rw [HGE.out 0 (by omega)]
            show el xs 0 - 0 = el xs 0
            omega
          obtain ⟨ba, oa, ea, _, hca⟩ := (SX.out.later B4.out (Nat.le_refl _)).at (n := 0) (by rw [HX.out]; omega)
          subst ea
          have k1 : w4.cell? ⟨ba, oa, none⟩ = some (.int .u64 (el G 0)) := by rw [hg0]; exact hca 0 (by rw [HX.out]; omega)
          have hgb : 0 ≤ el G 0 ∧ el G 0 ≤ 18446744073709551615 := HGW.out.el 0
          clear hca hg0 hx0
          obtain ⟨n, hn⟩ : ∃ n, (E (el G 0)).length = n := ⟨_, rfl⟩
          obtain ⟨f1, f2, f3⟩ := flat_at (G := G) (q := 0) (by rw [HLG.out]; omega) hn
          simp only [List.take_zero, flat_nil, List.length_nil, Nat.zero_add] at f1 f2
          have hPn : len0 + n ≤ N := by have := HN.out; omega
          have HF2 : Hid ((flat (G.take 1)).length = n) := f2
          have HAT : Hid (∀ j, j < n → el (ds ++ flat G) (len0 + j) = el (E (el G 0)) j) := fun j hj => by
            rw [← f3 j hj, ← HD.out, el_at, List.take_zero, flat_nil, List.length_nil, Nat.zero_add]
          have HEN : Hid ((E (el G 0)).length = n) := hn
          clear f1 f2 f3 hn
          have hl1 : 0 < len1 := by omega
          go_wp2_with fail
          refine (cat_any p2 N c2 len0 n (el G 0) (ds ++ flat G) w4 HNN.out mN hgb.1 hgb.2 HEN.out hPn HAT.out S4.out).mono ?_
          rintro e w5 ⟨rfl, hw5⟩
          rw [hw5]
          clear hw5 w5
          obtain ⟨P1, hP1⟩ : ∃ P1, len0 + n = P1 := ⟨_, rfl⟩
          rw [hP1]
          have HP1 : Hid (P1 = len0 + (flat (G.take 1)).length) := by show _ = _; rw [HF2.out, hP1]
          clear hP1 hPn HAT HEN HF2 k1
          go_wp2
          go_loopw [15, 16] (fun ps i wr => ∃ (k P : Nat), i = .int .i64 (k + 1 : Nat) ∧ k + 1 ≤ len1 ∧ ps = .int .i64 P ∧ P = len0 + (flat (G.take (k + 1))).length ∧ Sl .u8 wr p2 (ds ++ flat G) ∧ Below w.heap.size w wr) (fun _ i _ => len1 - (intOf i).toNat)
          case atStart => exact ⟨0, P1, rfl, by omega, rfl, HP1.out, S4.out, B4.out⟩
          case round =>
          clear S4 B4 HP1
          obtain ⟨k, P, rfl, hk, rfl, hP, hS, hB⟩ := hrel
          have HP : Hid (P = len0 + (flat (G.take (k + 1))).length) := hP
          have S4 : Hid (Sl .u8 wr p2 (ds ++ flat G)) := hS
          have B4 : Hid (Below w.heap.size w wr) := hB
          clear hP hS hB
          by_cases hlt5 : k + 1 < len1
          · obtain ⟨bc, oc, ec, _, hca⟩ := (SX.out.later B4.out (Nat.le_refl _)).at (n := k) (by rw [HX.out]; omega)
            simp only [Option.some.injEq, Addr.mk.injEq] at ec
            obtain ⟨rfl, rfl, _⟩ := ec
            have k0 : wr.cell? ⟨ba, oa + k, none⟩ = some (.int .u64 (el xs k)) := hca k (by rw [HX.out]; omega)
            have k1 : wr.cell? ⟨ba, oa + (k + 1), none⟩ = some (.int .u64 (el xs (k + 1))) := hca (k + 1) (by rw [HX.out]; omega)
            have hbd := gap_bd HW.out HSR.out (q := k + 1) (by rw [HX.out]; exact hlt5)
            rw [prv_succ] at hbd
            have hge := HGE.out (k + 1) hlt5
            unfold gp at hge
            rw [prv_succ] at hge
            obtain ⟨x, hx⟩ : ∃ x, el xs (k + 1) = x := ⟨_, rfl⟩
            obtain ⟨y, hy⟩ : ∃ y, el xs k = y := ⟨_, rfl⟩
            rw [hx] at k1 hbd hge
            rw [hy] at k0 hbd hge
            obtain ⟨b0, b1, b2⟩ := hbd
            obtain ⟨m, hm⟩ : ∃ m, (E (el G (k + 1))).length = m := ⟨_, rfl⟩
            obtain ⟨f1, f2, f3⟩ := flat_at (G := G) (q := k + 1) (by rw [HLG.out]; omega) hm
            have hPm : P + m ≤ N := by have := HN.out; have := HP.out; omega
            have HF2 : Hid ((flat (G.take (k + 1 + 1))).length = (flat (G.take (k + 1))).length + m) := f2
            have HAT : Hid (∀ j, j < m → el (ds ++ flat G) (P + j) = el (E (el G (k + 1))) j) := fun j hj => by
              rw [← f3 j hj, HP.out, ← HD.out, Nat.add_assoc, el_at]
            have HEN : Hid ((E (el G (k + 1))).length = m) := hm
            rw [hge] at HAT HEN
            clear f1 f2 f3 hm hca hx hy hge
            go_wp2
            go_quiet ((go_at_call 26; exact Calls.quiet_of_same (cat_any p2 N c2 P m (x - y) (ds ++ flat G) _ HNN.out mN (by omega) (by omega) HEN.out hPm HAT.out S4.out)))
            go_wp2
            go_roundw
            case rel => exact ⟨k + 1, P + m, by go_num, by omega, by go_num, by rw [HF2.out, HP.out]; omega, S4.out.drewN _, below_drewN B4.out _⟩
            case measure => simp [intOf]; omega
          · have hk1 : k + 1 = len1 := by omega
            have hPN : P = N := by rw [HP.out, ← HN.out, List.take_of_length_le (by rw [HLG.out]; omega)]
            subst hPN
            clear hk1
            go_wp2
            go_ret
            exact ⟨rfl, B4.out⟩

/-! ### the row's step -/
set_option maxRecDepth 100000 in
theorem lifted (os : Os) (started : os.Started) (H : Type) (enc : TypeId × Value → H) :
    ReturnsInHanded {} Ycim.checked os 10 .any (Rows.lawS930001CVerdictSpec.pre6 enc Ycim.prog Ycim.f10 Rows.lawS930001CVerdictRow.domain false) (Rows.lawS930001CVerdictSpec.post enc Ycim.prog Ycim.f10 false true false false) := by
  refine returnsInHanded_of_change (C := Ycim.checked) own started (by kernel_rfl) Ycim.func10
    (ChangeSpec.witness6 (enc := enc) (C := Ycim.checked) false ⟨#[], #[.slice none 0 0, .slice none 0 0, .int .u8 0], []⟩ 8 (by kernel_rfl) (by kernel_rfl) (by kernel_rfl) (by kernel_rfl)) ?_
  intro W base args ds gs before hval0 hW hcnd _
  have hval : ∀ (j : Nat) t v, Ycim.f10.params[j]? = some t → args[j]? = some v → Value.okWide Ycim.prog W .any base t v := hval0
  have hW' := hW
  obtain ⟨p, q, hA0, hV, rfl, hfz, hnd⟩ := hW
  have hA : DataW.TrodAll enc Ycim.prog W 0 (fun _ => true) true Ycim.f10.params.toList args.toList ds p := hA0
  rw [Ycim.params10] at hA hval
  obtain ⟨v0, vs0, d0, ds0, p0, q0, hargs, rfl, rfl, h0, r0⟩ := trodAll_cons hA
  obtain ⟨v1, vs1, d1, ds1, p1, q1, rfl, rfl, rfl, h1, r1⟩ := trodAll_cons r0
  obtain ⟨v2, vs2, d2, ds2, p2, q2, rfl, rfl, rfl, h2, r2⟩ := trodAll_cons r1
  obtain ⟨rfl, rfl, rfl⟩ := trodAll_nil r2
  obtain rfl : args = #[v0, v1, v2] := by cases args; simp_all
  obtain ⟨rfl, rfl⟩ := trodVars_none hV
  obtain ⟨a0, len0, cap0, rfl⟩ := okWide_slice Ycim.underlying22 (hval 0 22 v0 rfl rfl)
  have k0 := h0
  have lt0 : ∀ x ∈ p0, x.block < W.heap.size := by obtain ⟨m, hm⟩ := k0; exact DataW.trod_lt m _ _ _ hm
  obtain ⟨z0, w0⟩ : ∃ zs, IsRow .u8 W a0 len0 cap0 zs := by
    obtain ⟨fuel, hf⟩ := h0
    rcases open_ints Ycim.underlying22 Ycim.underlying5 (by kernel_rfl) hf with ⟨hcs, _⟩ | ⟨x, l, c, zs, hcs, _, hl, hm, hz, _, hcell, hwz⟩
    · simp [Value.cells] at hcs
      obtain ⟨rfl, rfl, rfl⟩ := hcs
      exact ⟨[], .inl ⟨rfl, rfl, rfl, rfl⟩⟩
    · simp [Value.cells] at hcs
      obtain ⟨rfl, rfl, rfl⟩ := hcs
      exact ⟨zs, .inr ⟨_, rfl, hl, hm, by simpa using hz, hcell, hwz⟩⟩
  obtain ⟨a1, len1, cap1, rfl⟩ := okWide_slice Ycim.underlying43 (hval 1 43 v1 rfl rfl)
  have k1 := h1
  have lt1 : ∀ x ∈ p1, x.block < W.heap.size := by obtain ⟨m, hm⟩ := k1; exact DataW.trod_lt m _ _ _ hm
  obtain ⟨z1, w1⟩ : ∃ zs, IsRow .u64 W a1 len1 cap1 zs := by
    obtain ⟨fuel, hf⟩ := h1
    rcases open_ints Ycim.underlying43 Ycim.underlying27 (by kernel_rfl) hf with ⟨hcs, _⟩ | ⟨x, l, c, zs, hcs, _, hl, hm, hz, _, hcell, hwz⟩
    · simp [Value.cells] at hcs
      obtain ⟨rfl, rfl, rfl⟩ := hcs
      exact ⟨[], .inl ⟨rfl, rfl, rfl, rfl⟩⟩
    · simp [Value.cells] at hcs
      obtain ⟨rfl, rfl, rfl⟩ := hcs
      exact ⟨zs, .inr ⟨_, rfl, hl, hm, by simpa using hz, hcell, hwz⟩⟩
  obtain ⟨a2, rfl, rfl, rfl, w2⟩ := open_int Ycim.underlying5 (hval 2 5 v2 rfl rfl) h2
  clear hA0 hval0
  refine (walk a0 len0 cap0 z0 a1 len1 cap1 z1 a2 W w0 w1 w2).mono fun e W' ⟨he, bel⟩ => ?_
  subst he
  exact ⟨_, rfl, _, _, _, [], _, [], hW', trodAll_mk1 (shut_bool Ycim.underlying4 _), (trodAll_cons_mk (Below.trod laidOut (by kernel_rfl) (of_decide_eq_true (by kernel_rfl)) k0 bel lt0) (trodAll_cons_mk (Below.trod laidOut (by kernel_rfl) (of_decide_eq_true (by kernel_rfl)) k1 bel lt1) (trodAll_cons_mk (shut_int Ycim.underlying5 w2) trodAll_mk0))), rfl, bel.frame _, fun h => by cases h⟩

theorem over : Rows.lawS930001CVerdictRow.holds Ycim.pinned (OpenSpec.ofChange Rows.lawS930001CVerdictSpec) :=
  OpenClaim.holds_of_wide 10 Ycim.f10 rfl rfl rfl rfl rfl rfl rfl ⟨rfl, rfl, rfl, rfl, rfl⟩ rfl rfl rfl rfl rfl (by kernel_rfl) Ycim.func10 (by kernel_rfl)
    (of_decide_eq_true (by kernel_rfl)) (by unfold Func.isWrapper; first | (rw [if_pos (by decide +kernel)]; kernel_rfl) | (rw [if_neg (by decide +kernel)]; exact ⟨rfl, rfl⟩))
    (fun os started H enc _ => lifted os started H enc)

/-- ████ THE STATEMENT ████ -/
theorem proved : Rows.LawS930001CVerdictSaid := over
#print axioms proved
end Go.Proofs.Ymbrci.lawS930001CVerdict
