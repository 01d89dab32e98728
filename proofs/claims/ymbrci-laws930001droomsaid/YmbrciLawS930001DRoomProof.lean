/-
  'Rows.LawS930001DRoomSaid': the guide's shell at this function, its walk filled.
-/
import Derived.Test.YmbrciRows
import Derived.WalkKit
import Derived.ProofKit
import Derived.OpenShut
import Derived.ShutString
import Derived.ChangeOld
import Derived.Below
import Derived.Test.YmbrciDLib
namespace Go.Proofs.Ymbrci.lawS930001DRoom
open Go.ChangeShapes Go.WideShapes Go.ChangeAt Go.RowKit
open Go.ChangeMaps (open_string shut_string)
set_option linter.unusedVariables false

theorem own : ownKnob Ycim.prog.godebug = none := by kernel_rfl
theorem laidOut : laidOutB Ycim.prog = true := by kernel_rfl

/-- WHAT THE WALK IS TOLD OF A SLICE OF INTEGERS THAT CAME IN: it is nil; or it leads to a row of 'cap' cells, the numbers 'zs' (the first 'len' are its elements, the rest its spare room), each fitting its kind. -/
def IsRow (k : IntKind) (w : World) (a : Option Addr) (len cap : Nat) (zs : List Int) : Prop :=
  (a = none ∧ len = 0 ∧ cap = 0 ∧ zs = []) ∨
  ∃ x, a = some x ∧ len ≤ cap ∧ cap ≤ maxLen ∧ zs.length = cap ∧ (∀ i, i < zs.length → w.cell? (x.add i) = some (.int k (zs.getD i 0))) ∧ ∀ n ∈ zs, (Lit.int k n).wf = true



set_option maxRecDepth 100000 in
set_option maxHeartbeats 8000000 in
theorem walk (a0 : Option Addr) (len0 cap0 : Nat) (z0 : List Int) (a1 : Option Addr) (len1 cap1 : Nat) (z1 : List Int) (a2 : Int) (w : World) (w0 : IsRow .u8 w a0 len0 cap0 z0) (w1 : IsRow .u64 w a1 len1 cap1 z1) (w2 : (Lit.int .u8 a2).wf = true) :
    Calls Ycim.prog 13 #[.slice a0 len0 cap0, .slice a1 len1 cap1, .int .u8 a2] w fun e w' => e = .returned (.bool true) ∧ Below w.heap.size w w' := by
  obtain ⟨ds, hd, hdc, md, sd, wd, nd⟩ := sl_of_row w0
  obtain ⟨xs, hx, hxc, mx, sx, wx, nx⟩ := sl_of_row w1
  have h2 := u8_bd w2
  clear w0 w1 w2
  by_cases hbig : 1024 < len0
  · go_enter Ycim.func13, Ycim.ntmps13
    go_wp2
    go_ret
    exact ⟨rfl, Below.refl _ _⟩
  by_cases hbig1 : 1024 < len1
  · go_enter Ycim.func13, Ycim.ntmps13
    go_wp2
    go_ret
    exact ⟨rfl, Below.refl _ _⟩
  obtain ⟨s, hs⟩ : ∃ s : Nat, a2 = s := ⟨a2.toNat, by omega⟩
  subst hs
  have SD : Hid (Sl .u8 w a0 ds) := sd
  have HD : Hid (ds.length = len0) := hd
  have SX : Hid (Sl .u64 w a1 xs) := sx
  have HX : Hid (xs.length = len1) := hx
  have HW : Hid (Words xs) := words_of_wf wx
  clear sd hd sx hx wx nd nx wd hdc md hxc mx
  obtain ⟨F, hF⟩ : ∃ F, F = ds ++ List.replicate s 170 := ⟨_, rfl⟩
  have HF1 : Hid (F.length = len0 + s) := by show _ = _; rw [hF, List.length_append, HD.out, List.length_replicate]
  have HF2 : Hid (∀ i, i < len0 → el F i = el ds i) := fun i hi => by rw [hF, el_left (by rw [HD.out]; exact hi)]
  have HF3 : Hid (∀ i, len0 ≤ i → i < len0 + s → el F i = 170) := fun i h1 h2 => by
    rw [hF, el_right (by rw [HD.out]; exact h1), HD.out, el_lt (by rw [List.length_replicate]; omega)]
    simp
  have HF4 : Hid (F.take len0 = ds) := by show _ = _; rw [hF, ← HD.out, List.take_left]
  clear hF
  go_enter Ycim.func13, Ycim.ntmps13
  go_wp2_with (at_make; refine mk8 _ rfl (.tmp 25) (.tmp 25) rfl (base := w.heap.size) _ _ (len0 + s) rfl rfl ?m1 ?m1b ?m2 (Nat.le_refl _) ?m3)
  case m1 => omega
  case m1b => omega
  case m2 => omega
  case m3 =>
  intro w1 hown hbel
  have O1 : Hid (Owns .u8 5 w.heap.size w1 (.slice (some ⟨w.heap.size, 0, none⟩) (len0 + s) (len0 + s)) (List.replicate (len0 + s) 0)) := hown
  have B1 : Hid (Below w.heap.size w w1) := hbel
  clear hown hbel
  go_wp2
  go_loopw [8] (fun i wr => ∃ (q : Nat) (zs : List Int), i = .int .i64 q ∧ q ≤ len0 + s ∧ zs.length = len0 + s ∧ Owns .u8 5 w.heap.size wr (.slice (some ⟨w.heap.size, 0, none⟩) (len0 + s) (len0 + s)) zs ∧ Below w.heap.size w wr ∧ ∀ j, j < q → el zs j = el F j) (fun i _ => len0 + s - (intOf i).toNat)
  case atStart => exact ⟨0, List.replicate (len0 + s) 0, rfl, by omega, List.length_replicate, O1.out, B1.out, fun j hj => by omega⟩
  case round =>
  clear O1 B1
  obtain ⟨q, zs, rfl, hq, hzl, ho, hbe, hj⟩ := hrel
  have HO : Hid (Owns .u8 5 w.heap.size wr (.slice (some ⟨w.heap.size, 0, none⟩) (len0 + s) (len0 + s)) zs) := ho
  have HB : Hid (Below w.heap.size w wr) := hbe
  have HJ : Hid (∀ j, j < q → el zs j = el F j) := hj
  have HZ : Hid (zs.length = len0 + s) := hzl
  clear ho hbe hj hzl
  by_cases hlt : q < len0 + s
  · have k2 : wr.cell? ⟨w.heap.size, q, none⟩ = some (.int .u8 (el zs q)) := (HO.out.at (by rw [HZ.out]; exact hlt)).1
    have k3 : wr.frozen? ⟨w.heap.size, q, none⟩ = false := (HO.out.at (by rw [HZ.out]; exact hlt)).2
    by_cases hl0 : q < len0
    · have SX := SD.out.later HB.out (Nat.le_refl _)
      obtain ⟨ba, oa, ea, _, hca⟩ := SX.at (n := q) (by rw [HD.out]; omega)
      subst ea
      have k1 : wr.cell? ⟨ba, oa + q, none⟩ = some (.int .u8 (el ds q)) := hca q (by rw [HD.out]; omega)
      clear hca SX
      go_wp2
      go_roundw
      case rel => exact ⟨q + 1, zs.set q (el ds q), by go_num, by omega, by rw [List.length_set, HZ.out], HO.out.set _ _, HB.out.setCell (Nat.le_refl _) _, fun j hj => by
        by_cases e : j = q
        · rw [e, el_set_same _ (by rw [HZ.out]; exact hlt), HF2.out q hl0]
        · rw [el_set_other _ e]; exact HJ.out j (by omega)⟩
      case measure => simp [intOf]; omega
    · go_wp2
      go_roundw
      case rel => exact ⟨q + 1, zs.set q 170, by go_num, by omega, by rw [List.length_set, HZ.out], HO.out.set _ _, HB.out.setCell (Nat.le_refl _) _, fun j hj => by
        by_cases e : j = q
        · rw [e, el_set_same _ (by rw [HZ.out]; exact hlt), HF3.out q (by omega) (by omega)]
        · rw [el_set_other _ e]; exact HJ.out j (by omega)⟩
      case measure => simp [intOf]; omega
  · have e1 : zs = F := list_ext (by rw [HZ.out, HF1.out]) (by rw [HZ.out]; intro i hi; exact HJ.out i (by omega))
    rw [e1] at HO
    clear e1 HZ HJ
    have eq1 : q = len0 + s := by omega
    subst eq1
    clear hq hlt
    obtain ⟨w2, hw2⟩ : ∃ w2 : World, w2 = wr := ⟨_, rfl⟩
    rw [← hw2] at HO HB ⊢
    clear hw2
    go_wp2_with fail
    refine (dwant_any a0 a1 len0 cap0 len1 cap1 ds xs w2 HD.out (by omega) HX.out (by omega) (SD.out.later HB.out (Nat.le_refl _)) (SX.out.later HB.out (Nat.le_refl _)) HW.out).mono ?_
    rintro e w3 ⟨v3, rfl, hown, hbel⟩
    obtain ⟨p3, c3, hv3, hc3, mc3, sp3, hp3⟩ := hown.shape
    obtain ⟨N, hN⟩ : ∃ N, (ds ++ flat xs).length = N := ⟨_, rfl⟩
    rw [hN] at hv3 hc3
    have mN : N ≤ 9223372036854775807 := by omega
    have HN : Hid ((ds ++ flat xs).length = N) := hN
    have S3 : Hid (Sl .u8 w3 p3 (ds ++ flat xs)) := sp3
    have hO3 := HO.out.later hbel (Nat.le_refl _)
    have O3 : Hid (Owns .u8 5 w.heap.size w3 (.slice (some ⟨w.heap.size, 0, none⟩) (len0 + s) (len0 + s)) F) := hO3
    have hK3 := hO3.pre (m := len0) (by rw [HF1.out]; omega)
    have K3 : Hid (Owns .u8 5 w.heap.size w3 (.slice (some ⟨w.heap.size, 0, none⟩) len0 (len0 + s)) (F.take len0)) := hK3
    have B3 : Hid (Below w.heap.size w w3) := HB.out.trans (hbel.mono HB.out.size)
    have P3 : Hid (0 < (ds ++ flat xs).length → ∀ b off, p3 = some ⟨b, off, none⟩ → (Value.slice (some ⟨w.heap.size, 0, none⟩) len0 (len0 + s)).ownBlock ≠ some b) := fun _ b off hb e1 => by
      have hlt := (HO.out.lt w.heap.size rfl).2
      rcases hp3 with ⟨h1, _⟩ | ⟨g, h1, h2⟩
      · rw [h1] at hb; cases hb
      · rw [h1] at hb
        simp at hb
        simp [Value.ownBlock] at e1
        omega
    have s0 := run_pre Ycim.underlying22 size8 (some ⟨w.heap.size, 0, none⟩) (len0 + s) (len0 + s) len0 (by omega)
    rw [hv3]
    clear hown hbel hv3 hc3 mc3 sp3 hp3 hN hO3 hK3 HO HB
    go_wp2_with fail
    refine (appendAll_any (.slice (some ⟨w.heap.size, 0, none⟩) len0 (len0 + s)) (F.take len0) a1 len1 cap1 xs w3 w.heap.size HX.out (by omega) HW.out K3.out B3.out.size (by rw [HF4.out, HD.out]; omega) (SX.out.later B3.out (Nat.le_refl _)) (K3.out.notOld SX.out)).mono ?_
    rintro e w4 ⟨v4, rfl, hap⟩
    have hbuf := hap.buf O3.out (by omega)
    have B4 : Hid (Below w.heap.size w w4) := B3.out.trans (hap.below K3.out B3.out.size)
    have T4 : Hid (Sl .u8 w4 p3 (ds ++ flat xs)) := hap.sl S3.out P3.out
    obtain ⟨p4, c4, hv4, hc4, mc4, sp4, _⟩ := hap.owns.shape
    have S4 : Hid (Sl .u8 w4 p4 (ds ++ flat xs)) := by rw [HF4.out] at sp4; exact sp4
    have hFL : (flat xs).length = N - len0 ∧ len0 ≤ N := by have := HN.out; rw [List.length_append, HD.out] at this; omega
    have BF : Hid (∀ i, i < len0 + s → (i < len0 ∨ N ≤ i) → w4.cell? ⟨w.heap.size, i, none⟩ = some (.int .u8 (el F i))) := fun i h1 h2 => hbuf.1 i h1 (by rw [hFL.1]; omega)
    have BG : Hid (N ≤ len0 + s → ∀ i, i < N → w4.cell? ⟨w.heap.size, i, none⟩ = some (.int .u8 (el (ds ++ flat xs) i))) := fun h1 i h2 => by
      have hv' := hbuf.2 (by rw [hFL.1]; omega)
      have ho' := hap.owns
      rw [hv', HF4.out] at ho'
      exact (ho'.at (by rw [HN.out]; exact h2)).1
    rw [HF4.out, HN.out] at hv4
    have hN2 := hFL.2
    rw [hv4]
    clear hap hbuf hv4 hc4 mc4 sp4 hFL s0 S3 O3 K3 B3 P3
    go_wp2_with fail
    refine (deq_any p4 p3 N N c4 c3 (ds ++ flat xs) (ds ++ flat xs) w4 HN.out HN.out mN mN S4.out T4.out).mono ?_
    rintro e w5 ⟨rfl, hq5⟩
    have B5 : Hid (Below w.heap.size w w5) := drews hq5 B4.out
    have D5 : Hid (Sl .u8 w5 a0 ds) := SD.out.later B5.out (Nat.le_refl _)
    have T5 : Hid (Sl .u8 w5 p3 (ds ++ flat xs)) := T4.out.quiet hq5
    have BF5 : Hid (∀ i, i < len0 + s → (i < len0 ∨ N ≤ i) → w5.cell? ⟨w.heap.size, i, none⟩ = some (.int .u8 (el F i))) := by
      obtain ⟨n, rfl⟩ := hq5; exact BF.out
    have BG5 : Hid (N ≤ len0 + s → ∀ i, i < N → w5.cell? ⟨w.heap.size, i, none⟩ = some (.int .u8 (el (ds ++ flat xs) i))) := by
      obtain ⟨n, rfl⟩ := hq5; exact BG.out
    rw [sameB_true rfl]
    clear hq5 T4 S4 B4 BF BG
    go_wp2
    go_loopw [11] (fun i wr => ∃ q : Nat, i = .int .i64 q ∧ q ≤ len0 ∧ Sl .u8 wr a0 ds ∧ Sl .u8 wr p3 (ds ++ flat xs) ∧ Below w.heap.size w wr ∧ (∀ i, i < len0 + s → (i < len0 ∨ N ≤ i) → wr.cell? ⟨w.heap.size, i, none⟩ = some (.int .u8 (el F i))) ∧ (N ≤ len0 + s → ∀ i, i < N → wr.cell? ⟨w.heap.size, i, none⟩ = some (.int .u8 (el (ds ++ flat xs) i)))) (fun i _ => len0 - (intOf i).toNat)
    case atStart => exact ⟨0, rfl, by omega, D5.out, T5.out, B5.out, BF5.out, BG5.out⟩
    case round =>
    clear D5 T5 B5 BF5 BG5
    obtain ⟨q, rfl, hq, hS, hT, hB, hG, hH⟩ := hrel
    have D5 : Hid (Sl .u8 wr a0 ds) := hS
    have T5 : Hid (Sl .u8 wr p3 (ds ++ flat xs)) := hT
    have B5 : Hid (Below w.heap.size w wr) := hB
    have BF5 : Hid (∀ i, i < len0 + s → (i < len0 ∨ N ≤ i) → wr.cell? ⟨w.heap.size, i, none⟩ = some (.int .u8 (el F i))) := hG
    have BG5 : Hid (N ≤ len0 + s → ∀ i, i < N → wr.cell? ⟨w.heap.size, i, none⟩ = some (.int .u8 (el (ds ++ flat xs) i))) := hH
    clear hS hT hB hG hH
    by_cases hlt : q < len0
    · obtain ⟨ba, oa, ea, _, hca⟩ := D5.out.at (n := q) (by rw [HD.out]; omega)
      subst ea
      have k1 : wr.cell? ⟨ba, oa + q, none⟩ = some (.int .u8 (el ds q)) := hca q (by rw [HD.out]; omega)
      have k2 : wr.cell? ⟨w.heap.size, q, none⟩ = some (.int .u8 (el ds q)) := by rw [BF5.out q (by omega) (.inl hlt), HF2.out q hlt]
      have k3 : q < len0 + s := by omega
      clear hca
      go_wp2
      go_quiet (fail)
      go_wp2
      go_roundw
      case rel => exact ⟨q + 1, by go_num, by omega, D5.out.drewN _, T5.out.drewN _, below_drewN B5.out _, BF5.out, BG5.out⟩
      case measure => simp [intOf]; omega
    · by_cases hfit : len0 + s < N
      · have hfit' : (len0 : Int) + (s : Int) < (N : Int) := by omega
        go_wp2
        go_ret
        exact ⟨rfl, B5.out⟩
      · have g1 : decide (len0 + s < N) = false := decide_eq_false hfit
        have g2 : decide ((len0 : Int) + (s : Int) < (N : Int)) = false := decide_eq_false (by omega)
        have BH5 : Hid (∀ i, i < N → wr.cell? ⟨w.heap.size, i, none⟩ = some (.int .u8 (el (ds ++ flat xs) i))) := BG5.out (by omega)
        clear BG5 D5
        obtain ⟨w6, hw6⟩ : ∃ w6 : World, w6 = wr := ⟨_, rfl⟩
        rw [← hw6] at T5 B5 BF5 BH5 ⊢
        clear hw6
        go_wp2
        clear g1 g2
        go_loopw [12] (fun i wr => ∃ q : Nat, i = .int .i64 q ∧ q ≤ len0 + s ∧ Sl .u8 wr p3 (ds ++ flat xs) ∧ Below w.heap.size w wr ∧ (∀ i, i < len0 + s → (i < len0 ∨ N ≤ i) → wr.cell? ⟨w.heap.size, i, none⟩ = some (.int .u8 (el F i))) ∧ (∀ i, i < N → wr.cell? ⟨w.heap.size, i, none⟩ = some (.int .u8 (el (ds ++ flat xs) i)))) (fun i _ => len0 + s - (intOf i).toNat)
        case atStart => exact ⟨0, rfl, by omega, T5.out, B5.out, BF5.out, BH5.out⟩
        case round =>
        clear T5 B5 BF5 BH5
        obtain ⟨q2, rfl, hq2, hT, hB, hG, hH⟩ := hrel
        have T5 : Hid (Sl .u8 wr p3 (ds ++ flat xs)) := hT
        have B5 : Hid (Below w.heap.size w wr) := hB
        have BF5 : Hid (∀ i, i < len0 + s → (i < len0 ∨ N ≤ i) → wr.cell? ⟨w.heap.size, i, none⟩ = some (.int .u8 (el F i))) := hG
        have BH5 : Hid (∀ i, i < N → wr.cell? ⟨w.heap.size, i, none⟩ = some (.int .u8 (el (ds ++ flat xs) i))) := hH
        clear hT hB hG hH
        by_cases hlt2 : q2 < len0 + s
        · by_cases hN3 : q2 < N
          · obtain ⟨ba, oa, ea, _, hca⟩ := T5.out.at (n := q2) (by rw [HN.out]; omega)
            subst ea
            have k1 : wr.cell? ⟨ba, oa + q2, none⟩ = some (.int .u8 (el (ds ++ flat xs) q2)) := hca q2 (by rw [HN.out]; omega)
            have k2 := BH5.out q2 hN3
            obtain ⟨y, hy⟩ : ∃ y, el (ds ++ flat xs) q2 = y := ⟨_, rfl⟩
            rw [hy] at k1 k2
            clear hca hy
            go_wp2
            go_quiet (fail)
            go_wp2
            go_roundw
            case rel => exact ⟨q2 + 1, by go_num, by omega, T5.out.drewN _, below_drewN B5.out _, BF5.out, BH5.out⟩
            case measure => simp [intOf]; omega
          · have k2 : wr.cell? ⟨w.heap.size, q2, none⟩ = some (.int .u8 170) := by rw [BF5.out q2 hlt2 (.inr (by omega)), HF3.out q2 (by omega) hlt2]
            go_wp2
            go_roundw
            case rel => exact ⟨q2 + 1, by go_num, by omega, T5.out, B5.out, BF5.out, BH5.out⟩
            case measure => simp [intOf]; omega
        · go_wp2
          go_ret
          exact ⟨rfl, B5.out⟩

/-! ### the row's step -/
set_option maxRecDepth 100000 in
theorem lifted (os : Os) (started : os.Started) (H : Type) (enc : TypeId × Value → H) :
    ReturnsInHanded {} Ycim.checked os 13 .any (Rows.lawS930001DRoomSpec.pre6 enc Ycim.prog Ycim.f13 Rows.lawS930001DRoomRow.domain false) (Rows.lawS930001DRoomSpec.post enc Ycim.prog Ycim.f13 false true false false) := by
  refine returnsInHanded_of_change (C := Ycim.checked) own started (by kernel_rfl) Ycim.func13
    (ChangeSpec.witness6 (enc := enc) (C := Ycim.checked) false ⟨#[], #[.slice none 0 0, .slice none 0 0, .int .u8 0], []⟩ 8 (by kernel_rfl) (by kernel_rfl) (by kernel_rfl) (by kernel_rfl)) ?_
  intro W base args ds gs before hval0 hW hcnd _
  have hval : ∀ (j : Nat) t v, Ycim.f13.params[j]? = some t → args[j]? = some v → Value.okWide Ycim.prog W .any base t v := hval0
  have hW' := hW
  obtain ⟨p, q, hA0, hV, rfl, hfz, hnd⟩ := hW
  have hA : DataW.TrodAll enc Ycim.prog W 0 (fun _ => true) true Ycim.f13.params.toList args.toList ds p := hA0
  rw [Ycim.params13] at hA hval
  obtain ⟨v0, vs0, d0, ds0, p0, q0, hargs, rfl, rfl, h0, r0⟩ := trodAll_cons hA
  obtain ⟨v1, vs1, d1, ds1, p1, q1, rfl, rfl, rfl, h1, r1⟩ := trodAll_cons r0
  obtain ⟨v2, vs2, d2, ds2, p2, q2, rfl, rfl, rfl, h2, r2⟩ := trodAll_cons r1
  obtain ⟨rfl, rfl, rfl⟩ := trodAll_nil r2
  obtain rfl : args = #[v0, v1, v2] := by cases args; simp_all
  obtain ⟨rfl, rfl⟩ := trodVars_none hV
  obtain ⟨a0, len0, cap0, rfl⟩ := okWide_slice Ycim.underlying22 (hval 0 22 v0 rfl rfl)
  have k0 := h0
  have lt0 : ∀ x ∈ p0, x.block < W.heap.size := by obtain ⟨m, hm⟩ := k0; exact DataW.trod_lt m _ _ _ hm
  obtain ⟨z0, w0⟩ : ∃ zs, IsRow .u8 W a0 len0 cap0 zs := by
    obtain ⟨fuel, hf⟩ := h0
    rcases open_ints Ycim.underlying22 Ycim.underlying5 (by kernel_rfl) hf with ⟨hcs, _⟩ | ⟨x, l, c, zs, hcs, _, hl, hm, hz, _, hcell, hwz⟩
    · simp [Value.cells] at hcs
      obtain ⟨rfl, rfl, rfl⟩ := hcs
      exact ⟨[], .inl ⟨rfl, rfl, rfl, rfl⟩⟩
    · simp [Value.cells] at hcs
      obtain ⟨rfl, rfl, rfl⟩ := hcs
      exact ⟨zs, .inr ⟨_, rfl, hl, hm, by simpa using hz, hcell, hwz⟩⟩
  obtain ⟨a1, len1, cap1, rfl⟩ := okWide_slice Ycim.underlying43 (hval 1 43 v1 rfl rfl)
  have k1 := h1
  have lt1 : ∀ x ∈ p1, x.block < W.heap.size := by obtain ⟨m, hm⟩ := k1; exact DataW.trod_lt m _ _ _ hm
  obtain ⟨z1, w1⟩ : ∃ zs, IsRow .u64 W a1 len1 cap1 zs := by
    obtain ⟨fuel, hf⟩ := h1
    rcases open_ints Ycim.underlying43 Ycim.underlying27 (by kernel_rfl) hf with ⟨hcs, _⟩ | ⟨x, l, c, zs, hcs, _, hl, hm, hz, _, hcell, hwz⟩
    · simp [Value.cells] at hcs
      obtain ⟨rfl, rfl, rfl⟩ := hcs
      exact ⟨[], .inl ⟨rfl, rfl, rfl, rfl⟩⟩
    · simp [Value.cells] at hcs
      obtain ⟨rfl, rfl, rfl⟩ := hcs
      exact ⟨zs, .inr ⟨_, rfl, hl, hm, by simpa using hz, hcell, hwz⟩⟩
  obtain ⟨a2, rfl, rfl, rfl, w2⟩ := open_int Ycim.underlying5 (hval 2 5 v2 rfl rfl) h2
  clear hA0 hval0
  refine (walk a0 len0 cap0 z0 a1 len1 cap1 z1 a2 W w0 w1 w2).mono fun e W' ⟨he, bel⟩ => ?_
  subst he
  exact ⟨_, rfl, _, _, _, [], _, [], hW', trodAll_mk1 (shut_bool Ycim.underlying4 _), (trodAll_cons_mk (Below.trod laidOut (by kernel_rfl) (of_decide_eq_true (by kernel_rfl)) k0 bel lt0) (trodAll_cons_mk (Below.trod laidOut (by kernel_rfl) (of_decide_eq_true (by kernel_rfl)) k1 bel lt1) (trodAll_cons_mk (shut_int Ycim.underlying5 w2) trodAll_mk0))), rfl, bel.frame _, fun h => by cases h⟩

theorem over : Rows.lawS930001DRoomRow.holds Ycim.pinned (OpenSpec.ofChange Rows.lawS930001DRoomSpec) :=
  OpenClaim.holds_of_wide 13 Ycim.f13 rfl rfl rfl rfl rfl rfl rfl ⟨rfl, rfl, rfl, rfl, rfl⟩ rfl rfl rfl rfl rfl (by kernel_rfl) Ycim.func13 (by kernel_rfl)
    (of_decide_eq_true (by kernel_rfl)) (by unfold Func.isWrapper; first | (rw [if_pos (by decide +kernel)]; kernel_rfl) | (rw [if_neg (by decide +kernel)]; exact ⟨rfl, rfl⟩))
    (fun os started H enc _ => lifted os started H enc)

/-- ████ THE STATEMENT ████ -/
theorem proved : Rows.LawS930001DRoomSaid := over
#print axioms proved
end Go.Proofs.Ymbrci.lawS930001DRoom
