/-
  'Rows.LawS930001HModelSaid': the guide's shell at this function, its walk filled.
-/
import Derived.Test.YmbrcjRows
import Derived.WalkKit
import Derived.ProofKit
import Derived.OpenShut
import Derived.ShutString
import Derived.ChangeOld
import Derived.Below
import Derived.Test.YmbrcjH1
namespace Go.Proofs.Ymbrcj.lawS930001HModel
open Go.ChangeShapes Go.WideShapes Go.ChangeAt Go.RowKit
open Go.ChangeMaps (open_string shut_string)
set_option linter.unusedVariables false

theorem own : ownKnob Ycjm.prog.godebug = none := by kernel_rfl
theorem laidOut : laidOutB Ycjm.prog = true := by kernel_rfl

/-- WHAT THE WALK IS TOLD OF A SLICE OF INTEGERS THAT CAME IN: it is nil; or it leads to a row of 'cap' cells, the numbers 'zs' (the first 'len' are its elements, the rest its spare room), each fitting its kind. -/
def IsRow (k : IntKind) (w : World) (a : Option Addr) (len cap : Nat) (zs : List Int) : Prop :=
  (a = none ∧ len = 0 ∧ cap = 0 ∧ zs = []) ∨
  ∃ x, a = some x ∧ len ≤ cap ∧ cap ≤ maxLen ∧ zs.length = cap ∧ (∀ i, i < zs.length → w.cell? (x.add i) = some (.int k (zs.getD i 0))) ∧ ∀ n ∈ zs, (Lit.int k n).wf = true



set_option maxHeartbeats 1000000 in
theorem walk (a0 : Option Addr) (len0 cap0 : Nat) (z0 : List Int) (a1 : Int) (w : World) (w0 : IsRow .u8 w a0 len0 cap0 z0) (w1 : (Lit.int .u8 a1).wf = true) :
    Calls Ycjm.prog 11 #[.slice a0 len0 cap0, .int .u8 a1] w fun e w' => e = .returned (.bool true) ∧ Below w.heap.size w w' := by
  obtain ⟨rs, hr, hrc, mr, sr, wr, _⟩ := sl_of_row w0
  have hx1 := u8_bd w1
  clear w0 w1
  by_cases hbig : 1024 < len0
  · go_enter Ycjm.func11, Ycjm.ntmps11
    go_wp2
    go_ret
    exact ⟨rfl, Below.refl _ _⟩
  have SR : Hid (Sl .u8 w a0 rs) := sr
  have HR : Hid (rs.length = len0) := hr
  have BR : Hid (Bytes rs) := bytes_of_wf wr
  clear sr hr wr hrc mr
  go_enter Ycjm.func11, Ycjm.ntmps11
  go_wp2_with fail
  refine (hbytes_any a0 len0 cap0 a1 rs w HR.out (by omega) hx1.1 hx1.2 BR.out SR.out).mono ?_
  rintro e w1 ⟨v, ys, rfl, hyl, hyb, hown, hbel⟩
  obtain ⟨p, c, hv, hc, mc, sp, _⟩ := hown.shape
  rw [hyl] at hv hc
  subst hv
  have HY : Hid (ys.length = len0) := hyl
  have BY : Hid (Bytes ys) := hyb
  have S1 : Hid (Sl .u8 w1 p ys) := sp
  have B1 : Hid (Below w.heap.size w w1) := hbel
  have z1 : w.heap.size ≤ w1.heap.size := hbel.size
  clear hyl hyb hown sp hbel SR
  go_wp2_with fail
  refine (decodeAll_any p len0 c ys w1 HY.out (by omega) hc BY.out S1.out).mono ?_
  rintro e w2 ⟨v2, xs, code, rfl, hall, hfl, hc0, hc3, hown, hbel⟩
  obtain ⟨p2, c2, hv, hc2, mc2, sp2, _⟩ := hown.shape
  subst hv
  have HALL : Hid (AllOf ys xs code) := hall
  have HX2 : Hid (Sl .u64 w2 p2 xs) := sp2
  have S2 : Hid (Sl .u8 w2 p ys) := S1.out.later hbel (Nat.le_refl _)
  have B2 : Hid (Below w.heap.size w w2) := B1.out.trans (hbel.mono z1)
  have z2 : w.heap.size ≤ w2.heap.size := B2.out.size
  have hxl : xs.length ≤ len0 := by have := (flat_len xs).1; omega
  clear hall hown hbel sp2 S1 B1 z1
  go_wp2_with fail
  refine (hmodel_any p len0 c ys w2 HY.out (by omega) BY.out S2.out).mono ?_
  rintro e w3 ⟨v3, xs', code', rfl, hall, hfl', hown, hbel⟩
  obtain ⟨p3, c3, hv, hc3', mc3, sp3, _⟩ := hown.shape
  subst hv
  obtain ⟨rfl, rfl⟩ := allOf_one xs HALL.out hall
  have X2 : Hid (Sl .u64 w3 p2 xs) := HX2.out.later hbel (Nat.le_refl _)
  have X3 : Hid (Sl .u64 w3 p3 xs) := sp3
  have B3 : Hid (Below w.heap.size w w3) := B2.out.trans (hbel.mono z2)
  clear hall hown hbel sp3 S2 B2 z2 HX2
  go_wp2_with fail
  refine (hsame_any p2 p3 xs.length xs.length c2 c3 xs xs w3 rfl rfl (by omega) (by omega) X2.out X3.out).mono ?_
  rintro e w4 ⟨rfl, hq⟩
  rw [sameB_true rfl]
  have B4 : Hid (Below w.heap.size w w4) := drews hq B3.out
  clear hq
  go_wp2
  go_ret
  exact ⟨ret_bool (by simp), B4.out⟩

/-! ### the row's step -/
set_option maxRecDepth 100000 in
theorem lifted (os : Os) (started : os.Started) (H : Type) (enc : TypeId × Value → H) :
    ReturnsInHanded {} Ycjm.checked os 11 .any (Rows.lawS930001HModelSpec.pre6 enc Ycjm.prog Ycjm.f11 Rows.lawS930001HModelRow.domain false) (Rows.lawS930001HModelSpec.post enc Ycjm.prog Ycjm.f11 false true false false) := by
  refine returnsInHanded_of_change (C := Ycjm.checked) own started (by kernel_rfl) Ycjm.func11
    (ChangeSpec.witness6 (enc := enc) (C := Ycjm.checked) false ⟨#[], #[.slice none 0 0, .int .u8 0], []⟩ 8 (by kernel_rfl) (by kernel_rfl) (by kernel_rfl) (by kernel_rfl)) ?_
  intro W base args ds gs before hval0 hW hcnd _
  have hval : ∀ (j : Nat) t v, Ycjm.f11.params[j]? = some t → args[j]? = some v → Value.okWide Ycjm.prog W .any base t v := hval0
  have hW' := hW
  obtain ⟨p, q, hA0, hV, rfl, hfz, hnd⟩ := hW
  have hA : DataW.TrodAll enc Ycjm.prog W 0 (fun _ => true) true Ycjm.f11.params.toList args.toList ds p := hA0
  rw [Ycjm.params11] at hA hval
  obtain ⟨v0, vs0, d0, ds0, p0, q0, hargs, rfl, rfl, h0, r0⟩ := trodAll_cons hA
  obtain ⟨v1, vs1, d1, ds1, p1, q1, rfl, rfl, rfl, h1, r1⟩ := trodAll_cons r0
  obtain ⟨rfl, rfl, rfl⟩ := trodAll_nil r1
  obtain rfl : args = #[v0, v1] := by cases args; simp_all
  obtain ⟨rfl, rfl⟩ := trodVars_none hV
  obtain ⟨a0, len0, cap0, rfl⟩ := okWide_slice Ycjm.underlying23 (hval 0 23 v0 rfl rfl)
  have k0 := h0
  have lt0 : ∀ x ∈ p0, x.block < W.heap.size := by obtain ⟨m, hm⟩ := k0; exact DataW.trod_lt m _ _ _ hm
  obtain ⟨z0, w0⟩ : ∃ zs, IsRow .u8 W a0 len0 cap0 zs := by
    obtain ⟨fuel, hf⟩ := h0
    rcases open_ints Ycjm.underlying23 Ycjm.underlying5 (by kernel_rfl) hf with ⟨hcs, _⟩ | ⟨x, l, c, zs, hcs, _, hl, hm, hz, _, hcell, hwz⟩
    · simp [Value.cells] at hcs
      obtain ⟨rfl, rfl, rfl⟩ := hcs
      exact ⟨[], .inl ⟨rfl, rfl, rfl, rfl⟩⟩
    · simp [Value.cells] at hcs
      obtain ⟨rfl, rfl, rfl⟩ := hcs
      exact ⟨zs, .inr ⟨_, rfl, hl, hm, by simpa using hz, hcell, hwz⟩⟩
  obtain ⟨a1, rfl, rfl, rfl, w1⟩ := open_int Ycjm.underlying5 (hval 1 5 v1 rfl rfl) h1
  clear hA0 hval0
  refine (walk a0 len0 cap0 z0 a1 W w0 w1).mono fun e W' ⟨he, bel⟩ => ?_
  subst he
  exact ⟨_, rfl, _, _, _, [], _, [], hW', trodAll_mk1 (shut_bool Ycjm.underlying4 _), (trodAll_cons_mk (Below.trod laidOut (by kernel_rfl) (of_decide_eq_true (by kernel_rfl)) k0 bel lt0) (trodAll_cons_mk (shut_int Ycjm.underlying5 w1) trodAll_mk0)), rfl, bel.frame _, fun h => by cases h⟩

theorem over : Rows.lawS930001HModelRow.holds Ycjm.pinned (OpenSpec.ofChange Rows.lawS930001HModelSpec) :=
  OpenClaim.holds_of_wide 11 Ycjm.f11 rfl rfl rfl rfl rfl rfl rfl ⟨rfl, rfl, rfl, rfl, rfl⟩ rfl rfl rfl rfl rfl (by kernel_rfl) Ycjm.func11 (by kernel_rfl)
    (of_decide_eq_true (by kernel_rfl)) (by unfold Func.isWrapper; first | (rw [if_pos (by decide +kernel)]; kernel_rfl) | (rw [if_neg (by decide +kernel)]; exact ⟨rfl, rfl⟩))
    (fun os started H enc _ => lifted os started H enc)

/-- ████ THE STATEMENT ████ -/
theorem proved : Rows.LawS930001HModelSaid := over
#print axioms proved
end Go.Proofs.Ymbrcj.lawS930001HModel
