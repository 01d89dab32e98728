/-
  'Rows.LawS930001JBytesSaid': the guide's shell at this function, its walk filled.
-/
import Derived.Test.YmbrckRows
import Derived.WalkKit
import Derived.ProofKit
import Derived.OpenShut
import Derived.ShutString
import Derived.ChangeOld
import Derived.Below
import Derived.Test.YmbrckJ1
namespace Go.Proofs.Ymbrck.lawS930001JBytes
open Go.ChangeShapes Go.WideShapes Go.ChangeAt Go.RowKit
open Go.ChangeMaps (open_string shut_string)
set_option linter.unusedVariables false

theorem own : ownKnob Yckm.prog.godebug = none := by kernel_rfl
theorem laidOut : laidOutB Yckm.prog = true := by kernel_rfl

/-- WHAT THE WALK IS TOLD OF A SLICE OF INTEGERS THAT CAME IN: it is nil; or it leads to a row of 'cap' cells, the numbers 'zs' (the first 'len' are its elements, the rest its spare room), each fitting its kind. -/
def IsRow (k : IntKind) (w : World) (a : Option Addr) (len cap : Nat) (zs : List Int) : Prop :=
  (a = none ∧ len = 0 ∧ cap = 0 ∧ zs = []) ∨
  ∃ x, a = some x ∧ len ≤ cap ∧ cap ≤ maxLen ∧ zs.length = cap ∧ (∀ i, i < zs.length → w.cell? (x.add i) = some (.int k (zs.getD i 0))) ∧ ∀ n ∈ zs, (Lit.int k n).wf = true



set_option maxHeartbeats 2000000 in
theorem walk (a0 : Option Addr) (len0 cap0 : Nat) (z0 : List Int) (w : World) (w0 : IsRow .u8 w a0 len0 cap0 z0) :
    Calls Yckm.prog 5 #[.slice a0 len0 cap0] w fun e w' => e = .returned (.bool true) ∧ Below w.heap.size w w' := by
  obtain ⟨zs, hl, hc, mc, sz, wz, _⟩ := sl_of_row w0
  clear w0
  by_cases hbig : 4096 < len0
  · go_enter Yckm.func5, Yckm.ntmps5
    go_wp2
    go_ret
    exact ⟨rfl, Below.refl _ _⟩
  have SZ : Hid (Sl .u8 w a0 zs) := sz
  have HL : Hid (zs.length = len0) := hl
  have BZ : Hid (Bytes zs) := bytes_of_wf wz
  clear sz hl wz mc
  go_enter Yckm.func5, Yckm.ntmps5
  go_wp2_with fail
  refine (jmodel_any a0 len0 cap0 zs w HL.out (by omega) BZ.out SZ.out).mono ?_
  rintro e w1 ⟨v1, code1, ys1, rfl, hans1, hnil1, hown1, hyl1, hbel1⟩
  have A1 : Hid (SortAns zs code1 ys1) := hans1
  have O1 : Hid (code1 = 0 → Owns .u64 22 w.heap.size w1 v1 ys1) := hown1
  have B1 : Hid (Below w.heap.size w w1) := hbel1
  have S1 : Hid (Sl .u8 w1 a0 zs) := SZ.out.later hbel1 (Nat.le_refl _)
  have z1 : w.heap.size ≤ w1.heap.size := hbel1.size
  clear hans1 hown1 hbel1 hnil1
  go_wp2_with fail
  refine (decodeSorted_any a0 len0 cap0 zs w1 HL.out (by omega) hc BZ.out S1.out).mono ?_
  rintro e w2 ⟨v2, code2, ys2, rfl, hans2, hnil2, hown2, hyl2, hbel2⟩
  obtain ⟨rfl, hys⟩ := sortAns_one A1.out hans2
  have B2 : Hid (Below w.heap.size w w2) := B1.out.trans (hbel2.mono z1)
  by_cases hcode : code1 = 0
  · obtain rfl := hys hcode
    have o1 := (O1.out hcode).later hbel2 (Nat.le_refl _)
    have o2 := hown2 hcode
    obtain ⟨p1, c1, hv1, hc1, mc1, s1, _⟩ := o1.shape
    obtain ⟨p2, c2, hv2, hc2, mc2, s2, _⟩ := o2.shape
    subst hv1
    subst hv2
    have X1 : Hid (Sl .u64 w2 p1 ys1) := s1
    have X2 : Hid (Sl .u64 w2 p2 ys1) := s2
    clear o1 o2 s1 s2 hans2 hnil2 hown2 hbel2 hys A1 O1 B1 S1 SZ
    subst hcode
    obtain ⟨n, hn⟩ : ∃ n, ys1.length = n := ⟨_, rfl⟩
    rw [hn] at hyl1 ⊢
    have HN : Hid (ys1.length = n) := hn
    clear hn hyl2 hc1 hc2
    have dn : ((n : Int) != (n : Int)) = false := by simp
    go_wp2
    go_loopw [7] (fun i wr => ∃ q m : Nat, i = .int .i64 q ∧ q ≤ n ∧ wr = w2.drewN m) (fun i _ => n - (intOf i).toNat)
    case atStart => exact ⟨0, 0, rfl, by omega, rfl⟩
    case round =>
      obtain ⟨q, m, rfl, hq, hw⟩ := hrel
      subst hw
      by_cases hlt : q < n
      · obtain ⟨ba, oa, ea, _, hca⟩ := X1.out.at (n := q) (by rw [HN.out]; omega)
        obtain ⟨bb, ob, eb, _, hcb⟩ := X2.out.at (n := q) (by rw [HN.out]; omega)
        subst ea
        subst eb
        have k1 : w2.cell? ⟨ba, oa + q, none⟩ = some (.int .u64 (el ys1 q)) := hca q (by rw [HN.out]; omega)
        have k2 : w2.cell? ⟨bb, ob + q, none⟩ = some (.int .u64 (el ys1 q)) := hcb q (by rw [HN.out]; omega)
        clear hca hcb
        go_wp2
        go_quiet (fail)
        go_wp2
        go_roundw
        case rel => exact ⟨q + 1, _, by go_num, by omega, rfl⟩
        case measure => simp [intOf]; omega
      · go_wp2
        go_ret
        exact ⟨rfl, below_drewN B2.out m⟩
  · have hv2 := hnil2 hcode
    subst hv2
    have hcb : (code1 != 0) = true := by simpa using hcode
    clear hans2 hnil2 hown2 hbel2 hys A1 O1 B1 S1 SZ hcode
    have hnl := fun w => Lib.run_eql_slice_nil (P := Yckm.prog) w 24 22 none 0 0 0 0 Yckm.underlying24
    go_wp2
    go_ret
    exact ⟨rfl, B2.out⟩

/-! ### the row's step -/
set_option maxRecDepth 100000 in
theorem lifted (os : Os) (started : os.Started) (H : Type) (enc : TypeId × Value → H) :
    ReturnsInHanded {} Yckm.checked os 5 .any (Rows.lawS930001JBytesSpec.pre6 enc Yckm.prog Yckm.f5 Rows.lawS930001JBytesRow.domain false) (Rows.lawS930001JBytesSpec.post enc Yckm.prog Yckm.f5 false true false false) := by
  refine returnsInHanded_of_change (C := Yckm.checked) own started (by kernel_rfl) Yckm.func5
    (ChangeSpec.witness6 (enc := enc) (C := Yckm.checked) false ⟨#[], #[.slice none 0 0], []⟩ 8 (by kernel_rfl) (by kernel_rfl) (by kernel_rfl) (by kernel_rfl)) ?_
  intro W base args ds gs before hval0 hW hcnd _
  have hval : ∀ (j : Nat) t v, Yckm.f5.params[j]? = some t → args[j]? = some v → Value.okWide Yckm.prog W .any base t v := hval0
  have hW' := hW
  obtain ⟨p, q, hA0, hV, rfl, hfz, hnd⟩ := hW
  have hA : DataW.TrodAll enc Yckm.prog W 0 (fun _ => true) true Yckm.f5.params.toList args.toList ds p := hA0
  rw [Yckm.params5] at hA hval
  obtain ⟨v0, vs0, d0, ds0, p0, q0, hargs, rfl, rfl, h0, r0⟩ := trodAll_cons hA
  obtain ⟨rfl, rfl, rfl⟩ := trodAll_nil r0
  obtain rfl : args = #[v0] := by cases args; simp_all
  obtain ⟨rfl, rfl⟩ := trodVars_none hV
  obtain ⟨a0, len0, cap0, rfl⟩ := okWide_slice Yckm.underlying29 (hval 0 29 v0 rfl rfl)
  have k0 := h0
  have lt0 : ∀ x ∈ p0, x.block < W.heap.size := by obtain ⟨m, hm⟩ := k0; exact DataW.trod_lt m _ _ _ hm
  obtain ⟨z0, w0⟩ : ∃ zs, IsRow .u8 W a0 len0 cap0 zs := by
    obtain ⟨fuel, hf⟩ := h0
    rcases open_ints Yckm.underlying29 Yckm.underlying5 (by kernel_rfl) hf with ⟨hcs, _⟩ | ⟨x, l, c, zs, hcs, _, hl, hm, hz, _, hcell, hwz⟩
    · simp [Value.cells] at hcs
      obtain ⟨rfl, rfl, rfl⟩ := hcs
      exact ⟨[], .inl ⟨rfl, rfl, rfl, rfl⟩⟩
    · simp [Value.cells] at hcs
      obtain ⟨rfl, rfl, rfl⟩ := hcs
      exact ⟨zs, .inr ⟨_, rfl, hl, hm, by simpa using hz, hcell, hwz⟩⟩
  clear hA0 hval0
  refine (walk a0 len0 cap0 z0 W w0).mono fun e W' ⟨he, bel⟩ => ?_
  subst he
  exact ⟨_, rfl, _, _, _, [], _, [], hW', trodAll_mk1 (shut_bool Yckm.underlying4 _), (trodAll_cons_mk (Below.trod laidOut (by kernel_rfl) (of_decide_eq_true (by kernel_rfl)) k0 bel lt0) trodAll_mk0), rfl, bel.frame _, fun h => by cases h⟩

theorem over : Rows.lawS930001JBytesRow.holds Yckm.pinned (OpenSpec.ofChange Rows.lawS930001JBytesSpec) :=
  OpenClaim.holds_of_wide 5 Yckm.f5 rfl rfl rfl rfl rfl rfl rfl ⟨rfl, rfl, rfl, rfl, rfl⟩ rfl rfl rfl rfl rfl (by kernel_rfl) Yckm.func5 (by kernel_rfl)
    (of_decide_eq_true (by kernel_rfl)) (by unfold Func.isWrapper; first | (rw [if_pos (by decide +kernel)]; kernel_rfl) | (rw [if_neg (by decide +kernel)]; exact ⟨rfl, rfl⟩))
    (fun os started H enc _ => lifted os started H enc)

/-- ████ THE STATEMENT ████ -/
theorem proved : Rows.LawS930001JBytesSaid := over
#print axioms proved
end Go.Proofs.Ymbrck.lawS930001JBytes
