/-
  'Rows.LawS930001BSpareSaid': the guide's shell at this function, its walk filled.
-/
import Derived.Test.YmbrciRows
import Derived.WalkKit
import Derived.ProofKit
import Derived.OpenShut
import Derived.ShutString
import Derived.ChangeOld
import Derived.Below
import Derived.Test.YmbrciDig2
import Derived.Test.YmbrciApp
namespace Go.Proofs.Ymbrci.lawS930001BSpare
open Go.ChangeShapes Go.WideShapes Go.ChangeAt Go.RowKit
open Go.ChangeMaps (open_string shut_string)
set_option linter.unusedVariables false

theorem own : ownKnob Ycim.prog.godebug = none := by kernel_rfl
theorem laidOut : laidOutB Ycim.prog = true := by kernel_rfl

/-- WHAT THE WALK IS TOLD OF A SLICE OF INTEGERS THAT CAME IN: it is nil; or it leads to a row of 'cap' cells, the numbers 'zs' (the first 'len' are its elements, the rest its spare room), each fitting its kind. -/
def IsRow (k : IntKind) (w : World) (a : Option Addr) (len cap : Nat) (zs : List Int) : Prop :=
  (a = none ∧ len = 0 ∧ cap = 0 ∧ zs = []) ∨
  ∃ x, a = some x ∧ len ≤ cap ∧ cap ≤ maxLen ∧ zs.length = cap ∧ (∀ i, i < zs.length → w.cell? (x.add i) = some (.int k (zs.getD i 0))) ∧ ∀ n ∈ zs, (Lit.int k n).wf = true



set_option maxRecDepth 100000 in
set_option maxHeartbeats 8000000 in
theorem walk (a0 : Option Addr) (len0 cap0 : Nat) (z0 : List Int) (a1 : Int) (a2 : Int) (a3 : Int) (a4 : Int) (w : World) (w0 : IsRow .u8 w a0 len0 cap0 z0) (w1 : (Lit.int .u16 a1).wf = true) (w2 : (Lit.int .u64 a2).wf = true) (w3 : (Lit.int .u64 a3).wf = true) (w4 : (Lit.int .u8 a4).wf = true) :
    Calls Ycim.prog 8 #[.slice a0 len0 cap0, .int .u16 a1, .int .u64 a2, .int .u64 a3, .int .u8 a4] w fun e w' => e = .returned (.bool true) ∧ Below w.heap.size w w' := by
  obtain ⟨ds, hd, hdc, md, sd, wd, _⟩ := sl_of_row w0
  have h1 := u16_bd w1
  have h2 := u64_bd w2
  have h3 := u64_bd w3
  have h4 := u8_bd w4
  clear w0 w1 w2 w3 w4
  by_cases hbig : 1024 < len0
  · go_enter Ycim.func8, Ycim.ntmps8
    go_wp2
    go_ret
    exact ⟨rfl, Below.refl _ _⟩
  have SD : Hid (Sl .u8 w a0 ds) := sd
  have HD : Hid (ds.length = len0) := hd
  have d1 : decide (1024 < len0) = false := decide_eq_false hbig
  have d2 : decide ((1024 : Int) < (len0 : Int)) = false := decide_eq_false (by omega)
  obtain ⟨k, hk⟩ : ∃ k : Nat, a1 % ((len0 : Int) + 1) = k := ⟨(a1 % ((len0 : Int) + 1)).toNat, by have := Int.emod_nonneg a1 (show (len0 : Int) + 1 ≠ 0 by omega); omega⟩
  have hkl : k ≤ len0 := by have := Int.emod_lt_of_pos a1 (show (0 : Int) < (len0 : Int) + 1 by omega); omega
  clear sd hd wd hdc md
  go_enter Ycim.func8, Ycim.ntmps8
  go_wp2_with fail
  refine (bmix_any a2 a3 a4 w h3.1 h3.2 h4.1 h4.2).mono ?_
  rintro e wP ⟨⟨x, rfl, hx0, hx1⟩, hwP⟩
  rw [hwP]
  clear hwP wP
  go_wp2_with (at_make; refine mk8 _ rfl (.tmp 27) (.tmp 27) rfl (base := w.heap.size) _ _ len0 rfl rfl ?m1 ?m1b ?m2 (Nat.le_refl _) ?m3)
  case m1 => rfl
  case m1b => rfl
  case m2 => omega
  case m3 =>
  intro w1 hown hbel
  have O1 : Hid (Owns .u8 5 w.heap.size w1 (.slice (some ⟨w.heap.size, 0, none⟩) len0 len0) (List.replicate len0 0)) := hown
  have B1 : Hid (Below w.heap.size w w1) := hbel
  have D1 : Hid (Sl .u8 w1 a0 ds) := SD.out.later hbel (Nat.le_refl _)
  clear hown hbel
  go_wp2_with (refine cp8 _ rfl (.tmp 29) (.tmp 30) rfl rfl rfl O1.out HD.out D1.out ?cc)
  case cc =>
  intro w2 hown hbel
  have HBU : Hid (Owns .u8 5 w.heap.size w2 (.slice (some ⟨w.heap.size, 0, none⟩) len0 len0) ds) := hown
  have HBP : Hid (Below w.heap.size w w2) := B1.out.trans hbel
  have HBK : Hid (Owns .u8 5 w.heap.size w2 (.slice (some ⟨w.heap.size, 0, none⟩) k len0) (ds.take k)) := hown.pre (by rw [HD.out]; exact hkl)
  have HTL : Hid ((ds.take k).length = k) := by show _ = _; rw [List.length_take, HD.out]; omega
  have s0 := run_pre Ycim.underlying22 size8 (some ⟨w.heap.size, 0, none⟩) len0 len0 k hkl
  clear hown hbel O1 B1 D1
  go_wp2_with fail
  refine (append_any (.slice (some ⟨w.heap.size, 0, none⟩) k len0) (ds.take k) x w2 w.heap.size hx0 hx1 HBK.out HBP.out.size (by rw [HTL.out]; omega)).mono ?_
  rintro e w3 ⟨v3, rfl, hap⟩
  have lx := E_len x
  have hbuf := hap.buf HBU.out hkl
  obtain ⟨p, c, hv0, hc, mc, sp, _⟩ := hap.owns.shape
  obtain ⟨n, hn⟩ : ∃ n, (E x).length = n := ⟨_, rfl⟩
  have hl : (ds.take k ++ E x).length = k + n := by rw [List.length_append, HTL.out, hn]
  rw [hl] at hv0 hc
  rw [hn] at lx
  have HN : Hid ((E x).length = n) := hn
  have HL : Hid ((ds.take k ++ E x).length = k + n) := hl
  have HBUF : Hid (_ ∧ _) := hbuf
  have BB : Hid (Below w.heap.size w w3) := HBP.out.trans (hap.below HBK.out HBP.out.size)
  clear hbuf hn hl HBP s0 d1 d2
  rw [hv0]
  go_wp2_with fail
  refine (bwidth_any x w3 hx0 hx1).mono ?_
  rintro e w5 ⟨rfl, hw5⟩
  rw [hw5, HN.out]
  clear hw5 w5
  by_cases hfit : k + n ≤ len0
  · have hfit' : (k : Int) + (n : Int) ≤ (len0 : Int) := by omega
    have HF : Hid (∀ i, k ≤ i → i < k + n → w3.cell? ⟨w.heap.size, i, none⟩ = some (.int .u8 (el (E x) (i - k)))) := fun i h1 h2 => by
      have hv' := HBUF.out.2 (by rw [HN.out]; exact hfit)
      rw [HN.out] at hv'
      have hs := hap.owns
      rw [hv'] at hs
      have hl' : (ds.take k ++ E x).length = k + n := by rw [List.length_append, HTL.out, HN.out]
      have := (hs.at (j := i) (by rw [hl']; exact h2)).1
      rw [el_right (by rw [HTL.out]; exact h1), HTL.out] at this
      exact this
    have SP : Hid (Sl .u8 w3 p (ds.take k ++ E x)) := sp
    have D4 : Hid (Sl .u8 w3 a0 ds) := SD.out.later BB.out (Nat.le_refl _)
    have BO : Hid (∀ i, i < len0 → (i < k ∨ k + n ≤ i) → w3.cell? ⟨w.heap.size, i, none⟩ = some (.int .u8 (el ds i))) := fun i h1 h2 => HBUF.out.1 i h1 (by rw [HN.out]; exact h2)
    have B4 : Hid (Below w.heap.size w w3) := BB.out
    clear hap sp HBUF BB HBU HBK hv0
    have g1 : decide (k + n ≤ len0) = true := decide_eq_true hfit
    have g2 : decide ((k : Int) + (n : Int) ≤ (len0 : Int)) = true := decide_eq_true (by omega)
    have dn : ((k : Int) + (n : Int) != (k : Int) + (n : Int)) = false := by simp
    go_wp2
    clear g1 g2 dn
    go_loopw [17] (fun i wr => ∃ q : Nat, i = .int .i64 q ∧ q ≤ len0 ∧ Sl .u8 wr p (ds.take k ++ E x) ∧ Sl .u8 wr a0 ds ∧ (∀ i, i < len0 → (i < k ∨ k + n ≤ i) → wr.cell? ⟨w.heap.size, i, none⟩ = some (.int .u8 (el ds i))) ∧ Below w.heap.size w wr ∧ (∀ i, k ≤ i → i < k + n → wr.cell? ⟨w.heap.size, i, none⟩ = some (.int .u8 (el (E x) (i - k))))) (fun i _ => len0 - (intOf i).toNat)
    case atStart => exact ⟨0, rfl, by omega, SP.out, D4.out, BO.out, B4.out, HF.out⟩
    case round =>
    clear SP D4 BO B4 HF
    obtain ⟨q, rfl, hq, hS, hD, hO, hB, hF⟩ := hrel
    have SP : Hid (Sl .u8 wr p (ds.take k ++ E x)) := hS
    have D4 : Hid (Sl .u8 wr a0 ds) := hD
    have BO : Hid (∀ i, i < len0 → (i < k ∨ k + n ≤ i) → wr.cell? ⟨w.heap.size, i, none⟩ = some (.int .u8 (el ds i))) := hO
    have B4 : Hid (Below w.heap.size w wr) := hB
    have HF : Hid (∀ i, k ≤ i → i < k + n → wr.cell? ⟨w.heap.size, i, none⟩ = some (.int .u8 (el (E x) (i - k)))) := hF
    clear hS hD hO hB hF
    by_cases hlt : q < len0
    · obtain ⟨bb, ob, eb, _, hcb⟩ := D4.out.at (n := q) (by rw [HD.out]; omega)
      subst eb
      have k2 : wr.cell? ⟨bb, ob + q, none⟩ = some (.int .u8 (el ds q)) := hcb q (by rw [HD.out]; omega)
      clear hcb
      by_cases c1 : q < k
      · obtain ⟨ba, oa, ea, _, hca⟩ := SP.out.at (n := q) (by rw [HL.out]; omega)
        subst ea
        have k1 : wr.cell? ⟨w.heap.size, q, none⟩ = some (.int .u8 (el ds q)) := BO.out q hlt (.inl c1)
        have k3 : wr.cell? ⟨ba, oa + q, none⟩ = some (.int .u8 (el ds q)) := by
          have := hca q (by rw [HL.out]; omega)
          rwa [el_left (by rw [HTL.out]; exact c1), el_take c1] at this
        have hqn : q < k + n := by omega
        clear hca
        go_wp2
        go_quiet (fail)
        go_wp2
        go_roundw
        case rel => exact ⟨q + 1, by go_num, by omega, SP.out.drewN _, D4.out.drewN _, BO.out, below_drewN B4.out _, HF.out⟩
        case measure => simp [intOf]; omega
      by_cases c2 : k + n ≤ q
      · have k1 : wr.cell? ⟨w.heap.size, q, none⟩ = some (.int .u8 (el ds q)) := BO.out q hlt (.inr c2)
        go_wp2
        go_quiet (fail)
        go_wp2
        go_roundw
        case rel => exact ⟨q + 1, by go_num, by omega, SP.out.drewN _, D4.out.drewN _, BO.out, below_drewN B4.out _, HF.out⟩
        case measure => simp [intOf]; omega
      · have c2' : q < k + n := by omega
        have k1 : wr.cell? ⟨w.heap.size, q, none⟩ = some (.int .u8 (el (E x) (q - k))) := HF.out q (by omega) (by omega)
        have c3 : ¬ q < k := by omega
        have c4 : ¬ k + n ≤ q := by omega
        go_wp2
        go_quiet ((go_at_call 21; exact Calls.quiet_of_same (bdigit_at x (q - k) n _ _ (by omega) hx0 hx1 HN.out (by omega))))
        go_wp2
        go_roundw
        case rel => exact ⟨q + 1, by go_num, by omega, SP.out.drewN _, D4.out.drewN _, BO.out, below_drewN B4.out _, HF.out⟩
        case measure => simp [intOf]; omega
    · clear D4 BO HF
      obtain ⟨w6, hw6⟩ : ∃ w6 : World, w6 = wr := ⟨_, rfl⟩
      rw [← hw6] at SP B4 ⊢
      clear hw6
      go_wp2
      go_loopw [18] (fun i wr => ∃ q : Nat, i = .int .i64 q ∧ q ≤ n ∧ Sl .u8 wr p (ds.take k ++ E x) ∧ Below w.heap.size w wr) (fun i _ => n - (intOf i).toNat)
      case atStart => exact ⟨0, rfl, by omega, SP.out, B4.out⟩
      case round =>
      clear SP B4
      obtain ⟨q2, rfl, hq2, hS, hB⟩ := hrel
      have SP : Hid (Sl .u8 wr p (ds.take k ++ E x)) := hS
      have B4 : Hid (Below w.heap.size w wr) := hB
      clear hS hB
      by_cases hlt2 : q2 < n
      · obtain ⟨ba, oa, ea, _, hca⟩ := SP.out.at (n := k + q2) (by rw [HL.out]; omega)
        subst ea
        have k1 : wr.cell? ⟨ba, oa + (k + q2), none⟩ = some (.int .u8 (el (E x) q2)) := by
          have := hca (k + q2) (by rw [HL.out]; omega)
          rw [el_right (by rw [HTL.out]; omega), HTL.out] at this
          rw [this]; congr 2; congr 1; omega
        have hqn : k + q2 < k + n := by omega
        clear hca
        go_wp2
        go_quiet ((go_at_call 21; exact Calls.quiet_of_same (bdigit_any x q2 n _ hx0 hx1 HN.out hlt2)))
        go_wp2
        go_roundw
        case rel => exact ⟨q2 + 1, by go_num, by omega, SP.out.drewN _, below_drewN B4.out _⟩
        case measure => simp [intOf]; omega
      · go_wp2
        go_ret
        exact ⟨rfl, B4.out⟩
  · have hfit' : (len0 : Int) < (k : Int) + (n : Int) := by omega
    have SP : Hid (Sl .u8 w3 p (ds.take k ++ E x)) := sp
    have D4 : Hid (Sl .u8 w3 a0 ds) := SD.out.later BB.out (Nat.le_refl _)
    have BO : Hid (∀ i, i < len0 → (i < k ∨ k + n ≤ i) → w3.cell? ⟨w.heap.size, i, none⟩ = some (.int .u8 (el ds i))) := fun i h1 h2 => HBUF.out.1 i h1 (by rw [HN.out]; exact h2)
    have B4 : Hid (Below w.heap.size w w3) := BB.out
    clear hap sp HBUF BB HBU HBK hv0
    have g1 : decide (k + n ≤ len0) = false := decide_eq_false hfit
    have g2 : decide ((k : Int) + (n : Int) ≤ (len0 : Int)) = false := decide_eq_false (by omega)
    have dn : ((k : Int) + (n : Int) != (k : Int) + (n : Int)) = false := by simp
    go_wp2
    clear g1 g2 dn
    go_loopw [17] (fun i wr => ∃ q : Nat, i = .int .i64 q ∧ q ≤ len0 ∧ Sl .u8 wr p (ds.take k ++ E x) ∧ Sl .u8 wr a0 ds ∧ (∀ i, i < len0 → (i < k ∨ k + n ≤ i) → wr.cell? ⟨w.heap.size, i, none⟩ = some (.int .u8 (el ds i))) ∧ Below w.heap.size w wr) (fun i _ => len0 - (intOf i).toNat)
    case atStart => exact ⟨0, rfl, by omega, SP.out, D4.out, BO.out, B4.out⟩
    case round =>
    clear SP D4 BO B4
    obtain ⟨q, rfl, hq, hS, hD, hO, hB⟩ := hrel
    have SP : Hid (Sl .u8 wr p (ds.take k ++ E x)) := hS
    have D4 : Hid (Sl .u8 wr a0 ds) := hD
    have BO : Hid (∀ i, i < len0 → (i < k ∨ k + n ≤ i) → wr.cell? ⟨w.heap.size, i, none⟩ = some (.int .u8 (el ds i))) := hO
    have B4 : Hid (Below w.heap.size w wr) := hB
    clear hS hD hO hB
    by_cases hlt : q < len0
    · obtain ⟨bb, ob, eb, _, hcb⟩ := D4.out.at (n := q) (by rw [HD.out]; omega)
      subst eb
      have k2 : wr.cell? ⟨bb, ob + q, none⟩ = some (.int .u8 (el ds q)) := hcb q (by rw [HD.out]; omega)
      clear hcb
      by_cases c1 : q < k
      · obtain ⟨ba, oa, ea, _, hca⟩ := SP.out.at (n := q) (by rw [HL.out]; omega)
        subst ea
        have k1 : wr.cell? ⟨w.heap.size, q, none⟩ = some (.int .u8 (el ds q)) := BO.out q hlt (.inl c1)
        have k3 : wr.cell? ⟨ba, oa + q, none⟩ = some (.int .u8 (el ds q)) := by
          have := hca q (by rw [HL.out]; omega)
          rwa [el_left (by rw [HTL.out]; exact c1), el_take c1] at this
        have hqn : q < k + n := by omega
        clear hca
        go_wp2
        go_quiet (fail)
        go_wp2
        go_roundw
        case rel => exact ⟨q + 1, by go_num, by omega, SP.out.drewN _, D4.out.drewN _, BO.out, below_drewN B4.out _⟩
        case measure => simp [intOf]; omega
      by_cases c2 : k + n ≤ q
      · exfalso; omega
      · have c2' : q < k + n := by omega
        have c3 : ¬ q < k := by omega
        have c4 : ¬ k + n ≤ q := by omega
        go_wp2
        go_quiet (fail)
        go_wp2
        go_roundw
        case rel => exact ⟨q + 1, by go_num, by omega, SP.out.drewN _, D4.out.drewN _, BO.out, below_drewN B4.out _⟩
        case measure => simp [intOf]; omega
    · clear D4 BO
      obtain ⟨w6, hw6⟩ : ∃ w6 : World, w6 = wr := ⟨_, rfl⟩
      rw [← hw6] at SP B4 ⊢
      clear hw6
      go_wp2
      go_loopw [18] (fun i wr => ∃ q : Nat, i = .int .i64 q ∧ q ≤ n ∧ Sl .u8 wr p (ds.take k ++ E x) ∧ Below w.heap.size w wr) (fun i _ => n - (intOf i).toNat)
      case atStart => exact ⟨0, rfl, by omega, SP.out, B4.out⟩
      case round =>
      clear SP B4
      obtain ⟨q2, rfl, hq2, hS, hB⟩ := hrel
      have SP : Hid (Sl .u8 wr p (ds.take k ++ E x)) := hS
      have B4 : Hid (Below w.heap.size w wr) := hB
      clear hS hB
      by_cases hlt2 : q2 < n
      · obtain ⟨ba, oa, ea, _, hca⟩ := SP.out.at (n := k + q2) (by rw [HL.out]; omega)
        subst ea
        have k1 : wr.cell? ⟨ba, oa + (k + q2), none⟩ = some (.int .u8 (el (E x) q2)) := by
          have := hca (k + q2) (by rw [HL.out]; omega)
          rw [el_right (by rw [HTL.out]; omega), HTL.out] at this
          rw [this]; congr 2; congr 1; omega
        have hqn : k + q2 < k + n := by omega
        clear hca
        go_wp2
        go_quiet ((go_at_call 21; exact Calls.quiet_of_same (bdigit_any x q2 n _ hx0 hx1 HN.out hlt2)))
        go_wp2
        go_roundw
        case rel => exact ⟨q2 + 1, by go_num, by omega, SP.out.drewN _, below_drewN B4.out _⟩
        case measure => simp [intOf]; omega
      · go_wp2
        go_ret
        exact ⟨rfl, B4.out⟩

/-! ### the row's step -/
set_option maxRecDepth 100000 in
theorem lifted (os : Os) (started : os.Started) (H : Type) (enc : TypeId × Value → H) :
    ReturnsInHanded {} Ycim.checked os 8 .any (Rows.lawS930001BSpareSpec.pre6 enc Ycim.prog Ycim.f8 Rows.lawS930001BSpareRow.domain false) (Rows.lawS930001BSpareSpec.post enc Ycim.prog Ycim.f8 false true false false) := by
  refine returnsInHanded_of_change (C := Ycim.checked) own started (by kernel_rfl) Ycim.func8
    (ChangeSpec.witness6 (enc := enc) (C := Ycim.checked) false ⟨#[], #[.slice none 0 0, .int .u16 0, .int .u64 0, .int .u64 0, .int .u8 0], []⟩ 8 (by kernel_rfl) (by kernel_rfl) (by kernel_rfl) (by kernel_rfl)) ?_
  intro W base args ds gs before hval0 hW hcnd _
  have hval : ∀ (j : Nat) t v, Ycim.f8.params[j]? = some t → args[j]? = some v → Value.okWide Ycim.prog W .any base t v := hval0
  have hW' := hW
  obtain ⟨p, q, hA0, hV, rfl, hfz, hnd⟩ := hW
  have hA : DataW.TrodAll enc Ycim.prog W 0 (fun _ => true) true Ycim.f8.params.toList args.toList ds p := hA0
  rw [Ycim.params8] at hA hval
  obtain ⟨v0, vs0, d0, ds0, p0, q0, hargs, rfl, rfl, h0, r0⟩ := trodAll_cons hA
  obtain ⟨v1, vs1, d1, ds1, p1, q1, rfl, rfl, rfl, h1, r1⟩ := trodAll_cons r0
  obtain ⟨v2, vs2, d2, ds2, p2, q2, rfl, rfl, rfl, h2, r2⟩ := trodAll_cons r1
  obtain ⟨v3, vs3, d3, ds3, p3, q3, rfl, rfl, rfl, h3, r3⟩ := trodAll_cons r2
  obtain ⟨v4, vs4, d4, ds4, p4, q4, rfl, rfl, rfl, h4, r4⟩ := trodAll_cons r3
  obtain ⟨rfl, rfl, rfl⟩ := trodAll_nil r4
  obtain rfl : args = #[v0, v1, v2, v3, v4] := by cases args; simp_all
  obtain ⟨rfl, rfl⟩ := trodVars_none hV
  obtain ⟨a0, len0, cap0, rfl⟩ := okWide_slice Ycim.underlying22 (hval 0 22 v0 rfl rfl)
  have k0 := h0
  have lt0 : ∀ x ∈ p0, x.block < W.heap.size := by obtain ⟨m, hm⟩ := k0; exact DataW.trod_lt m _ _ _ hm
  obtain ⟨z0, w0⟩ : ∃ zs, IsRow .u8 W a0 len0 cap0 zs := by
    obtain ⟨fuel, hf⟩ := h0
    rcases open_ints Ycim.underlying22 Ycim.underlying5 (by kernel_rfl) hf with ⟨hcs, _⟩ | ⟨x, l, c, zs, hcs, _, hl, hm, hz, _, hcell, hwz⟩
    · simp [Value.cells] at hcs
      obtain ⟨rfl, rfl, rfl⟩ := hcs
      exact ⟨[], .inl ⟨rfl, rfl, rfl, rfl⟩⟩
    · simp [Value.cells] at hcs
      obtain ⟨rfl, rfl, rfl⟩ := hcs
      exact ⟨zs, .inr ⟨_, rfl, hl, hm, by simpa using hz, hcell, hwz⟩⟩
  obtain ⟨a1, rfl, rfl, rfl, w1⟩ := open_int Ycim.underlying41 (hval 1 41 v1 rfl rfl) h1
  obtain ⟨a2, rfl, rfl, rfl, w2⟩ := open_int Ycim.underlying27 (hval 2 27 v2 rfl rfl) h2
  obtain ⟨a3, rfl, rfl, rfl, w3⟩ := open_int Ycim.underlying27 (hval 3 27 v3 rfl rfl) h3
  obtain ⟨a4, rfl, rfl, rfl, w4⟩ := open_int Ycim.underlying5 (hval 4 5 v4 rfl rfl) h4
  clear hA0 hval0
  refine (walk a0 len0 cap0 z0 a1 a2 a3 a4 W w0 w1 w2 w3 w4).mono fun e W' ⟨he, bel⟩ => ?_
  subst he
  exact ⟨_, rfl, _, _, _, [], _, [], hW', trodAll_mk1 (shut_bool Ycim.underlying4 _), (trodAll_cons_mk (Below.trod laidOut (by kernel_rfl) (of_decide_eq_true (by kernel_rfl)) k0 bel lt0) (trodAll_cons_mk (shut_int Ycim.underlying41 w1) (trodAll_cons_mk (shut_int Ycim.underlying27 w2) (trodAll_cons_mk (shut_int Ycim.underlying27 w3) (trodAll_cons_mk (shut_int Ycim.underlying5 w4) trodAll_mk0))))), rfl, bel.frame _, fun h => by cases h⟩

theorem over : Rows.lawS930001BSpareRow.holds Ycim.pinned (OpenSpec.ofChange Rows.lawS930001BSpareSpec) :=
  OpenClaim.holds_of_wide 8 Ycim.f8 rfl rfl rfl rfl rfl rfl rfl ⟨rfl, rfl, rfl, rfl, rfl⟩ rfl rfl rfl rfl rfl (by kernel_rfl) Ycim.func8 (by kernel_rfl)
    (of_decide_eq_true (by kernel_rfl)) (by unfold Func.isWrapper; first | (rw [if_pos (by decide +kernel)]; kernel_rfl) | (rw [if_neg (by decide +kernel)]; exact ⟨rfl, rfl⟩))
    (fun os started H enc _ => lifted os started H enc)

/-- ████ THE STATEMENT ████ -/
theorem proved : Rows.LawS930001BSpareSaid := over
#print axioms proved
end Go.Proofs.Ymbrci.lawS930001BSpare
