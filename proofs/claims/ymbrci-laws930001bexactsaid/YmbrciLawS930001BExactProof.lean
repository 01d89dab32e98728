/-
  'Rows.LawS930001BExactSaid': the guide's shell at this function, its walk filled.
-/
import Derived.Test.YmbrciRows
import Derived.WalkKit
import Derived.ProofKit
import Derived.OpenShut
import Derived.ShutString
import Derived.ChangeOld
import Derived.Below
import Derived.Test.YmbrciRead
import Derived.Test.YmbrciApp
namespace Go.Proofs.Ymbrci.lawS930001BExact
open Go.ChangeShapes Go.WideShapes Go.ChangeAt Go.RowKit
open Go.ChangeMaps (open_string shut_string)
set_option linter.unusedVariables false

theorem own : ownKnob Ycim.prog.godebug = none := by kernel_rfl
theorem laidOut : laidOutB Ycim.prog = true := by kernel_rfl

/-- WHAT THE WALK IS TOLD OF A SLICE OF INTEGERS THAT CAME IN: it is nil; or it leads to a row of 'cap' cells, the numbers 'zs' (the first 'len' are its elements, the rest its spare room), each fitting its kind. -/
def IsRow (k : IntKind) (w : World) (a : Option Addr) (len cap : Nat) (zs : List Int) : Prop :=
  (a = none ∧ len = 0 ∧ cap = 0 ∧ zs = []) ∨
  ∃ x, a = some x ∧ len ≤ cap ∧ cap ≤ maxLen ∧ zs.length = cap ∧ (∀ i, i < zs.length → w.cell? (x.add i) = some (.int k (zs.getD i 0))) ∧ ∀ n ∈ zs, (Lit.int k n).wf = true



set_option maxHeartbeats 4000000 in
theorem walk (a0 : Option Addr) (len0 cap0 : Nat) (z0 : List Int) (a1 : Int) (a2 : Int) (a3 : Int) (w : World) (w0 : IsRow .u8 w a0 len0 cap0 z0) (w1 : (Lit.int .u64 a1).wf = true) (w2 : (Lit.int .u64 a2).wf = true) (w3 : (Lit.int .u8 a3).wf = true) :
    Calls Ycim.prog 6 #[.slice a0 len0 cap0, .int .u64 a1, .int .u64 a2, .int .u8 a3] w fun e w' => e = .returned (.bool true) ∧ Below w.heap.size w w' := by
  obtain ⟨ds, hd, hdc, md, sd, wd, hnone⟩ := sl_of_row w0
  have h1 := u64_bd w1
  have h2 := u64_bd w2
  have h3 := u8_bd w3
  clear w0 w1 w2 w3
  by_cases hbig : 1024 < len0
  · go_enter Ycim.func6, Ycim.ntmps6
    go_wp2
    go_ret
    exact ⟨rfl, Below.refl _ _⟩
  have SD : Hid (Sl .u8 w a0 ds) := sd
  have HD : Hid (ds.length = len0) := hd
  have d1 : decide (1024 < len0) = false := decide_eq_false hbig
  have d2 : decide ((1024 : Int) < (len0 : Int)) = false := decide_eq_false (by omega)
  have hnl := fun w => run_neq_slice_nil_any (P := Ycim.prog) w 22 5 a0 len0 cap0 0 0 Ycim.underlying22
  clear sd hd wd hdc md
  by_cases hnil : a0 = none
  · have hz := (hnone hnil).1
    have hdn : ds = [] := List.eq_nil_of_length_eq_zero (by rw [HD.out]; exact hz)
    have hb : a0.isNone = true := by rw [hnil]; rfl
    have HDN : Hid (ds = []) := hdn
    rw [hb] at hnl
    clear hnone hnil hdn hb hz
    go_enter Ycim.func6, Ycim.ntmps6
    go_wp2_with fail
    refine (bmix_any a1 a2 a3 w h2.1 h2.2 h3.1 h3.2).mono ?_
    rintro e wP ⟨⟨x, rfl, hx0, hx1⟩, hwP⟩
    rw [hwP]
    clear hwP wP
    have HO : Hid (Owns .u8 5 w.heap.size w (.slice none 0 0) ds) := by
      show Owns _ _ _ _ _ _
      rw [HDN.out]; exact Owns.nil _ _ _ _
    have HBP : Hid (Below w.heap.size w w) := Below.refl _ _
    go_wp2_with fail
    refine (append_any (.slice none 0 0) ds x w w.heap.size hx0 hx1 HO.out HBP.out.size (by rw [HD.out]; omega)).mono ?_
    rintro e w4 ⟨v4, rfl, hap⟩
    have lx := E_len x
    obtain ⟨p, c, hv, hc, mc, sp, _⟩ := hap.owns.shape
    obtain ⟨n, hn⟩ : ∃ n, (E x).length = n := ⟨_, rfl⟩
    have hl : (ds ++ E x).length = len0 + n := by rw [List.length_append, HD.out, hn]
    rw [hl] at hv hc
    rw [hn] at lx
    subst hv
    have SP : Hid (Sl .u8 w4 p (ds ++ E x)) := sp
    have HN : Hid ((E x).length = n) := hn
    have HL : Hid ((ds ++ E x).length = len0 + n) := hl
    have B4 : Hid (Below w.heap.size w w4) := HBP.out.trans (hap.below HO.out HBP.out.size)
    have D4 : Hid (Sl .u8 w4 a0 ds) := SD.out.later B4.out (Nat.le_refl _)
    clear hap sp hn hl HO HBP
    go_wp2_with fail
    refine (bwidth_any x w4 hx0 hx1).mono ?_
    rintro e w5 ⟨rfl, rfl⟩
    rw [HN.out]
    have dn : ((len0 : Int) + (n : Int) != (len0 : Int) + (n : Int)) = false := by simp
    go_wp2
    go_loopw [13] (fun i wr => ∃ q : Nat, i = .int .i64 q ∧ q ≤ len0 ∧ Sl .u8 wr p (ds ++ E x) ∧ Sl .u8 wr a0 ds ∧ Below w.heap.size w wr) (fun i _ => len0 - (intOf i).toNat)
    case atStart => exact ⟨0, rfl, by omega, SP.out, D4.out, B4.out⟩
    case round =>
    clear SP D4 B4
    obtain ⟨q, rfl, hq, hS, hD, hB⟩ := hrel
    have SP : Hid (Sl .u8 wr p (ds ++ E x)) := hS
    have D4 : Hid (Sl .u8 wr a0 ds) := hD
    have B4 : Hid (Below w.heap.size w wr) := hB
    clear hS hD hB
    by_cases hlt : q < len0
    · obtain ⟨ba, oa, ea, _, hca⟩ := SP.out.at (n := q) (by rw [HL.out]; omega)
      obtain ⟨bb, ob, eb, _, hcb⟩ := D4.out.at (n := q) (by rw [HD.out]; omega)
      subst ea
      subst eb
      have k1 : wr.cell? ⟨ba, oa + q, none⟩ = some (.int .u8 (el ds q)) := by rw [← el_left (ys := E x) (by rw [HD.out]; exact hlt)]; exact hca q (by rw [HL.out]; omega)
      have k2 : wr.cell? ⟨bb, ob + q, none⟩ = some (.int .u8 (el ds q)) := hcb q (by rw [HD.out]; omega)
      have hqn : q < len0 + n := by omega
      clear hca hcb
      go_wp2
      go_quiet (fail)
      go_wp2
      go_roundw
      case rel => exact ⟨q + 1, by go_num, by omega, SP.out.drewN _, D4.out.drewN _, below_drewN B4.out _⟩
      case measure => simp [intOf]; omega
    · clear D4
      obtain ⟨w6, hw6⟩ : ∃ w6 : World, w6 = wr := ⟨_, rfl⟩
      rw [← hw6] at SP B4 ⊢
      clear hw6
      go_wp2
      go_loopw [14] (fun i wr => ∃ q : Nat, i = .int .i64 q ∧ q ≤ n ∧ Sl .u8 wr p (ds ++ E x) ∧ Below w.heap.size w wr) (fun i _ => n - (intOf i).toNat)
      case atStart => exact ⟨0, rfl, by omega, SP.out, B4.out⟩
      case round =>
      clear SP B4
      obtain ⟨q2, rfl, hq2, hS, hB⟩ := hrel
      have SP : Hid (Sl .u8 wr p (ds ++ E x)) := hS
      have B4 : Hid (Below w.heap.size w wr) := hB
      clear hS hB
      by_cases hlt2 : q2 < n
      · obtain ⟨ba, oa, ea, _, hca⟩ := SP.out.at (n := len0 + q2) (by rw [HL.out]; omega)
        subst ea
        have k1 : wr.cell? ⟨ba, oa + (len0 + q2), none⟩ = some (.int .u8 (el (E x) q2)) := by
          have := hca (len0 + q2) (by rw [HL.out]; omega)
          rw [← HD.out, el_at] at this
          rw [← HD.out]; exact this
        have hqn : len0 + q2 < len0 + n := by omega
        clear hca
        go_wp2
        go_quiet ((go_at_call 21; exact Calls.quiet_of_same (bdigit_any x q2 n _ hx0 hx1 HN.out hlt2)))
        go_wp2
        go_roundw
        case rel => exact ⟨q2 + 1, by go_num, by omega, SP.out.drewN _, below_drewN B4.out _⟩
        case measure => simp [intOf]; omega
      · go_wp2
        go_ret
        exact ⟨rfl, B4.out⟩
  · have hb : a0.isNone = false := by cases a0 <;> simp_all
    rw [hb] at hnl
    clear hnone hnil hb
    go_enter Ycim.func6, Ycim.ntmps6
    go_wp2_with fail
    refine (bmix_any a1 a2 a3 w h2.1 h2.2 h3.1 h3.2).mono ?_
    rintro e wP ⟨⟨x, rfl, hx0, hx1⟩, hwP⟩
    rw [hwP]
    clear hwP wP
    go_wp2_with (at_make; refine mk8 _ rfl (.tmp 25) (.tmp 25) rfl (base := w.heap.size) _ _ len0 rfl rfl ?m1 ?m1b ?m2 (Nat.le_refl _) ?m3)
    case m1 => rfl
    case m1b => rfl
    case m2 => omega
    case m3 =>
    intro w1 hown hbel
    have O1 : Hid (Owns .u8 5 w.heap.size w1 (.slice (some ⟨w.heap.size, 0, none⟩) len0 len0) (List.replicate len0 0)) := hown
    have B1 : Hid (Below w.heap.size w w1) := hbel
    have D1 : Hid (Sl .u8 w1 a0 ds) := SD.out.later hbel (Nat.le_refl _)
    clear hown hbel
    go_wp2_with (refine cp8 _ rfl (.tmp 27) (.tmp 28) rfl rfl rfl O1.out HD.out D1.out ?cc)
    case cc =>
    intro wP hown hbel
    have HO : Hid (Owns .u8 5 w.heap.size wP (.slice (some ⟨w.heap.size, 0, none⟩) len0 len0) ds) := hown
    have HBP : Hid (Below w.heap.size w wP) := B1.out.trans hbel
    clear hown hbel O1 B1 D1
    go_wp2_with fail
    refine (append_any (.slice (some ⟨w.heap.size, 0, none⟩) len0 len0) ds x wP w.heap.size hx0 hx1 HO.out HBP.out.size (by rw [HD.out]; omega)).mono ?_
    rintro e w4 ⟨v4, rfl, hap⟩
    have lx := E_len x
    obtain ⟨p, c, hv, hc, mc, sp, _⟩ := hap.owns.shape
    obtain ⟨n, hn⟩ : ∃ n, (E x).length = n := ⟨_, rfl⟩
    have hl : (ds ++ E x).length = len0 + n := by rw [List.length_append, HD.out, hn]
    rw [hl] at hv hc
    rw [hn] at lx
    subst hv
    have SP : Hid (Sl .u8 w4 p (ds ++ E x)) := sp
    have HN : Hid ((E x).length = n) := hn
    have HL : Hid ((ds ++ E x).length = len0 + n) := hl
    have B4 : Hid (Below w.heap.size w w4) := HBP.out.trans (hap.below HO.out HBP.out.size)
    have D4 : Hid (Sl .u8 w4 a0 ds) := SD.out.later B4.out (Nat.le_refl _)
    clear hap sp hn hl HO HBP
    go_wp2_with fail
    refine (bwidth_any x w4 hx0 hx1).mono ?_
    rintro e w5 ⟨rfl, rfl⟩
    rw [HN.out]
    have dn : ((len0 : Int) + (n : Int) != (len0 : Int) + (n : Int)) = false := by simp
    go_wp2
    go_loopw [13] (fun i wr => ∃ q : Nat, i = .int .i64 q ∧ q ≤ len0 ∧ Sl .u8 wr p (ds ++ E x) ∧ Sl .u8 wr a0 ds ∧ Below w.heap.size w wr) (fun i _ => len0 - (intOf i).toNat)
    case atStart => exact ⟨0, rfl, by omega, SP.out, D4.out, B4.out⟩
    case round =>
    clear SP D4 B4
    obtain ⟨q, rfl, hq, hS, hD, hB⟩ := hrel
    have SP : Hid (Sl .u8 wr p (ds ++ E x)) := hS
    have D4 : Hid (Sl .u8 wr a0 ds) := hD
    have B4 : Hid (Below w.heap.size w wr) := hB
    clear hS hD hB
    by_cases hlt : q < len0
    · obtain ⟨ba, oa, ea, _, hca⟩ := SP.out.at (n := q) (by rw [HL.out]; omega)
      obtain ⟨bb, ob, eb, _, hcb⟩ := D4.out.at (n := q) (by rw [HD.out]; omega)
      subst ea
      subst eb
      have k1 : wr.cell? ⟨ba, oa + q, none⟩ = some (.int .u8 (el ds q)) := by rw [← el_left (ys := E x) (by rw [HD.out]; exact hlt)]; exact hca q (by rw [HL.out]; omega)
      have k2 : wr.cell? ⟨bb, ob + q, none⟩ = some (.int .u8 (el ds q)) := hcb q (by rw [HD.out]; omega)
      have hqn : q < len0 + n := by omega
      clear hca hcb
      go_wp2
      go_quiet (fail)
      go_wp2
      go_roundw
      case rel => exact ⟨q + 1, by go_num, by omega, SP.out.drewN _, D4.out.drewN _, below_drewN B4.out _⟩
      case measure => simp [intOf]; omega
    · clear D4
      obtain ⟨w6, hw6⟩ : ∃ w6 : World, w6 = wr := ⟨_, rfl⟩
      rw [← hw6] at SP B4 ⊢
      clear hw6
      go_wp2
      go_loopw [14] (fun i wr => ∃ q : Nat, i = .int .i64 q ∧ q ≤ n ∧ Sl .u8 wr p (ds ++ E x) ∧ Below w.heap.size w wr) (fun i _ => n - (intOf i).toNat)
      case atStart => exact ⟨0, rfl, by omega, SP.out, B4.out⟩
      case round =>
      clear SP B4
      obtain ⟨q2, rfl, hq2, hS, hB⟩ := hrel
      have SP : Hid (Sl .u8 wr p (ds ++ E x)) := hS
      have B4 : Hid (Below w.heap.size w wr) := hB
      clear hS hB
      by_cases hlt2 : q2 < n
      · obtain ⟨ba, oa, ea, _, hca⟩ := SP.out.at (n := len0 + q2) (by rw [HL.out]; omega)
        subst ea
        have k1 : wr.cell? ⟨ba, oa + (len0 + q2), none⟩ = some (.int .u8 (el (E x) q2)) := by
          have := hca (len0 + q2) (by rw [HL.out]; omega)
          rw [← HD.out, el_at] at this
          rw [← HD.out]; exact this
        have hqn : len0 + q2 < len0 + n := by omega
        clear hca
        go_wp2
        go_quiet ((go_at_call 21; exact Calls.quiet_of_same (bdigit_any x q2 n _ hx0 hx1 HN.out hlt2)))
        go_wp2
        go_roundw
        case rel => exact ⟨q2 + 1, by go_num, by omega, SP.out.drewN _, below_drewN B4.out _⟩
        case measure => simp [intOf]; omega
      · go_wp2
        go_ret
        exact ⟨rfl, B4.out⟩

/-! ### the row's step -/
set_option maxRecDepth 100000 in
theorem lifted (os : Os) (started : os.Started) (H : Type) (enc : TypeId × Value → H) :
    ReturnsInHanded {} Ycim.checked os 6 .any (Rows.lawS930001BExactSpec.pre6 enc Ycim.prog Ycim.f6 Rows.lawS930001BExactRow.domain false) (Rows.lawS930001BExactSpec.post enc Ycim.prog Ycim.f6 false true false false) := by
  refine returnsInHanded_of_change (C := Ycim.checked) own started (by kernel_rfl) Ycim.func6
    (ChangeSpec.witness6 (enc := enc) (C := Ycim.checked) false ⟨#[], #[.slice none 0 0, .int .u64 0, .int .u64 0, .int .u8 0], []⟩ 8 (by kernel_rfl) (by kernel_rfl) (by kernel_rfl) (by kernel_rfl)) ?_
  intro W base args ds gs before hval0 hW hcnd _
  have hval : ∀ (j : Nat) t v, Ycim.f6.params[j]? = some t → args[j]? = some v → Value.okWide Ycim.prog W .any base t v := hval0
  have hW' := hW
  obtain ⟨p, q, hA0, hV, rfl, hfz, hnd⟩ := hW
  have hA : DataW.TrodAll enc Ycim.prog W 0 (fun _ => true) true Ycim.f6.params.toList args.toList ds p := hA0
  rw [Ycim.params6] at hA hval
  obtain ⟨v0, vs0, d0, ds0, p0, q0, hargs, rfl, rfl, h0, r0⟩ := trodAll_cons hA
  obtain ⟨v1, vs1, d1, ds1, p1, q1, rfl, rfl, rfl, h1, r1⟩ := trodAll_cons r0
  obtain ⟨v2, vs2, d2, ds2, p2, q2, rfl, rfl, rfl, h2, r2⟩ := trodAll_cons r1
  obtain ⟨v3, vs3, d3, ds3, p3, q3, rfl, rfl, rfl, h3, r3⟩ := trodAll_cons r2
  obtain ⟨rfl, rfl, rfl⟩ := trodAll_nil r3
  obtain rfl : args = #[v0, v1, v2, v3] := by cases args; simp_all
  obtain ⟨rfl, rfl⟩ := trodVars_none hV
  obtain ⟨a0, len0, cap0, rfl⟩ := okWide_slice Ycim.underlying22 (hval 0 22 v0 rfl rfl)
  have k0 := h0
  have lt0 : ∀ x ∈ p0, x.block < W.heap.size := by obtain ⟨m, hm⟩ := k0; exact DataW.trod_lt m _ _ _ hm
  obtain ⟨z0, w0⟩ : ∃ zs, IsRow .u8 W a0 len0 cap0 zs := by
    obtain ⟨fuel, hf⟩ := h0
    rcases open_ints Ycim.underlying22 Ycim.underlying5 (by kernel_rfl) hf with ⟨hcs, _⟩ | ⟨x, l, c, zs, hcs, _, hl, hm, hz, _, hcell, hwz⟩
    · simp [Value.cells] at hcs
      obtain ⟨rfl, rfl, rfl⟩ := hcs
      exact ⟨[], .inl ⟨rfl, rfl, rfl, rfl⟩⟩
    · simp [Value.cells] at hcs
      obtain ⟨rfl, rfl, rfl⟩ := hcs
      exact ⟨zs, .inr ⟨_, rfl, hl, hm, by simpa using hz, hcell, hwz⟩⟩
  obtain ⟨a1, rfl, rfl, rfl, w1⟩ := open_int Ycim.underlying27 (hval 1 27 v1 rfl rfl) h1
  obtain ⟨a2, rfl, rfl, rfl, w2⟩ := open_int Ycim.underlying27 (hval 2 27 v2 rfl rfl) h2
  obtain ⟨a3, rfl, rfl, rfl, w3⟩ := open_int Ycim.underlying5 (hval 3 5 v3 rfl rfl) h3
  clear hA0 hval0
  refine (walk a0 len0 cap0 z0 a1 a2 a3 W w0 w1 w2 w3).mono fun e W' ⟨he, bel⟩ => ?_
  subst he
  exact ⟨_, rfl, _, _, _, [], _, [], hW', trodAll_mk1 (shut_bool Ycim.underlying4 _), (trodAll_cons_mk (Below.trod laidOut (by kernel_rfl) (of_decide_eq_true (by kernel_rfl)) k0 bel lt0) (trodAll_cons_mk (shut_int Ycim.underlying27 w1) (trodAll_cons_mk (shut_int Ycim.underlying27 w2) (trodAll_cons_mk (shut_int Ycim.underlying5 w3) trodAll_mk0)))), rfl, bel.frame _, fun h => by cases h⟩

theorem over : Rows.lawS930001BExactRow.holds Ycim.pinned (OpenSpec.ofChange Rows.lawS930001BExactSpec) :=
  OpenClaim.holds_of_wide 6 Ycim.f6 rfl rfl rfl rfl rfl rfl rfl ⟨rfl, rfl, rfl, rfl, rfl⟩ rfl rfl rfl rfl rfl (by kernel_rfl) Ycim.func6 (by kernel_rfl)
    (of_decide_eq_true (by kernel_rfl)) (by unfold Func.isWrapper; first | (rw [if_pos (by decide +kernel)]; kernel_rfl) | (rw [if_neg (by decide +kernel)]; exact ⟨rfl, rfl⟩))
    (fun os started H enc _ => lifted os started H enc)

/-- ████ THE STATEMENT ████ -/
theorem proved : Rows.LawS930001BExactSaid := over
#print axioms proved
end Go.Proofs.Ymbrci.lawS930001BExact
