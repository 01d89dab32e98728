/-
  'Rows.LawS930001HReencodeSaid': the guide's shell at this function, its walk filled.
-/
import Derived.Test.YmbrcjRows
import Derived.WalkKit
import Derived.ProofKit
import Derived.OpenShut
import Derived.ShutString
import Derived.ChangeOld
import Derived.Below
import Derived.Test.YmbrcjH1
import Derived.Test.YmbrcjPut
namespace Go.Proofs.Ymbrcj.lawS930001HReencode
open Go.ChangeShapes Go.WideShapes Go.ChangeAt Go.RowKit
open Go.ChangeMaps (open_string shut_string)
set_option linter.unusedVariables false

theorem own : ownKnob Ycjm.prog.godebug = none := by kernel_rfl
theorem laidOut : laidOutB Ycjm.prog = true := by kernel_rfl

/-- WHAT THE WALK IS TOLD OF A SLICE OF INTEGERS THAT CAME IN: it is nil; or it leads to a row of 'cap' cells, the numbers 'zs' (the first 'len' are its elements, the rest its spare room), each fitting its kind. -/
def IsRow (k : IntKind) (w : World) (a : Option Addr) (len cap : Nat) (zs : List Int) : Prop :=
  (a = none ∧ len = 0 ∧ cap = 0 ∧ zs = []) ∨
  ∃ x, a = some x ∧ len ≤ cap ∧ cap ≤ maxLen ∧ zs.length = cap ∧ (∀ i, i < zs.length → w.cell? (x.add i) = some (.int k (zs.getD i 0))) ∧ ∀ n ∈ zs, (Lit.int k n).wf = true

theorem flat_take_succ {xs : List Int} {q : Nat} (h : q < xs.length) : flat (xs.take (q + 1)) = flat (xs.take q) ++ E (el xs q) := by
  rw [take_succ_el h, flat_snoc]

set_option maxHeartbeats 2000000 in
theorem walk (a0 : Option Addr) (len0 cap0 : Nat) (z0 : List Int) (a1 : Int) (w : World) (w0 : IsRow .u8 w a0 len0 cap0 z0) (w1 : (Lit.int .u8 a1).wf = true) :
    Calls Ycjm.prog 12 #[.slice a0 len0 cap0, .int .u8 a1] w fun e w' => e = .returned (.bool true) ∧ Below w.heap.size w w' := by
  obtain ⟨rs, hr, hrc, mr, sr, wr, _⟩ := sl_of_row w0
  have hx1 := u8_bd w1
  clear w0 w1
  by_cases hbig : 1024 < len0
  · go_enter Ycjm.func12, Ycjm.ntmps12
    go_wp2
    go_ret
    exact ⟨rfl, Below.refl _ _⟩
  have SR : Hid (Sl .u8 w a0 rs) := sr
  have HR : Hid (rs.length = len0) := hr
  have BR : Hid (Bytes rs) := bytes_of_wf wr
  clear sr hr wr hrc mr
  go_enter Ycjm.func12, Ycjm.ntmps12
  go_wp2_with fail
  refine (hbytes_any a0 len0 cap0 a1 rs w HR.out (by omega) hx1.1 hx1.2 BR.out SR.out).mono ?_
  rintro e w1 ⟨v, ys, rfl, hyl, hyb, hown, hbel⟩
  obtain ⟨p, c, hv, hc, mc, sp, _⟩ := hown.shape
  rw [hyl] at hv hc
  subst hv
  have HY : Hid (ys.length = len0) := hyl
  have BY : Hid (Bytes ys) := hyb
  have S1 : Hid (Sl .u8 w1 p ys) := sp
  have B1 : Hid (Below w.heap.size w w1) := hbel
  have z1 : w.heap.size ≤ w1.heap.size := hbel.size
  clear hyl hyb hown sp hbel SR
  go_wp2_with fail
  refine (decodeAll_any p len0 c ys w1 HY.out (by omega) hc BY.out S1.out).mono ?_
  rintro e w2 ⟨v2, xs, code, rfl, hall, hfl, hc0, hc3, hown, hbel⟩
  obtain ⟨p2, c2, hv, hc2, mc2, sp2, _⟩ := hown.shape
  subst hv
  obtain ⟨hwords, r, hyr, hcase⟩ := hall
  have HYR : Hid (ys = flat xs ++ r) := hyr
  have HCASE : Hid ((r = [] ∧ code = 0) ∨ (r ≠ [] ∧ code ≠ 0 ∧ dec r 0 0 = (0, 0, code))) := hcase
  have HW : Hid (Words xs) := hwords
  have X2 : Hid (Sl .u64 w2 p2 xs) := sp2
  have S2 : Hid (Sl .u8 w2 p ys) := S1.out.later hbel (Nat.le_refl _)
  have B2 : Hid (Below w.heap.size w w2) := B1.out.trans (hbel.mono z1)
  have z2 : w.heap.size ≤ w2.heap.size := B2.out.size
  have hxl : xs.length ≤ len0 := by have := (flat_len xs).1; omega
  have H0 : Hid (∀ g, (Value.slice none 0 0).ownBlock = some g → g < w2.heap.size) := fun g hg => by simp [Value.ownBlock] at hg
  obtain ⟨N, hN⟩ : ∃ N, (flat xs).length = N := ⟨_, rfl⟩
  rw [hN] at hfl ⊢
  have HN : Hid ((flat xs).length = N) := hN
  clear hyr hcase hwords hown hbel sp2 S1 B1 z1 hN
  have d1 : decide (len0 < N) = false := decide_eq_false (by omega)
  have d2 : decide ((N : Int) < 0) = false := decide_eq_false (by omega)
  go_wp2
  go_loopw [9, 10] (fun d i wr => ∃ q : Nat, i = .int .i64 q ∧ q ≤ xs.length ∧ Ap .u8 5 w2.heap.size w2 (.slice none 0 0) [] wr d (flat (xs.take q))) (fun _ i _ => xs.length - (intOf i).toNat)
  case atStart => exact ⟨0, rfl, by omega, by simpa [flat] using Ap.start (Owns.nil _ _ _ _)⟩
  case round =>
    obtain ⟨q, rfl, hq, hap⟩ := hrel
    have HA : Hid (Ap .u8 5 w2.heap.size w2 (.slice none 0 0) [] wr _ (flat (xs.take q))) := hap
    have hsz : w2.heap.size ≤ wr.heap.size := hap.size
    have hfq : (flat (xs.take q)).length ≤ 10240 := by
      have := (flat_len (xs.take q)).2
      have h2 : (xs.take q).length ≤ xs.length := by rw [List.length_take]; omega
      omega
    have HFQ : Hid ((flat (xs.take q)).length ≤ 10240) := hfq
    clear hap hfq
    by_cases hlt : q < xs.length
    · obtain ⟨b, off, ha, hbl, hcc⟩ := X2.out.at (n := q) hlt
      subst ha
      have c0 : wr.cell? ⟨b, off + q, none⟩ = some (.int .u64 (el xs q)) := (HA.out.belowNil.cell hbl).trans (hcc q hlt)
      have hbb := HW.out.el q
      clear hcc
      go_wp2_with fail
      refine (hput_any _ (flat (xs.take q)) (el xs q) wr w2.heap.size hbb.1 hbb.2 HA.out.owns hsz (by have := HFQ.out; omega)).mono ?_
      rintro e w3 ⟨v3, rfl, hap⟩
      have HC : Hid (Ap .u8 5 w2.heap.size w2 (.slice none 0 0) [] w3 v3 (flat (xs.take (q + 1)))) := by
        show Ap _ _ _ _ _ _ _ _ _
        rw [flat_take_succ hlt]
        exact HA.out.trans hap H0.out
      clear hap
      go_wp2
      go_roundw
      case rel => exact ⟨q + 1, by go_num, by omega, HC.out⟩
      case measure => simp [intOf]; omega
    · obtain ⟨p3, c3, hv, hc3', mc3, sp3, _⟩ := HA.out.owns.shape
      have hfull : ([] : List Int) ++ flat (xs.take q) = flat xs := by rw [List.take_of_length_le (by omega)]; rfl
      rw [hfull] at hv hc3' sp3
      rw [HN.out] at hv hc3'
      subst hv
      have S3 : Hid (Sl .u8 wr p3 (flat xs)) := sp3
      have T3 : Hid (Sl .u8 wr p ys) := S2.out.later HA.out.belowNil (Nat.le_refl _)
      have B3 : Hid (Below w.heap.size w wr) := B2.out.trans (HA.out.belowNil.mono z2)
      clear sp3 HA HFQ hsz hfull S2 B2
      obtain ⟨w3, hw3⟩ : ∃ w3 : World, w3 = wr := ⟨_, rfl⟩
      rw [← hw3] at S3 T3 B3 ⊢
      clear hw3
      go_wp2
      go_loopw [11] (fun i wr => ∃ q n : Nat, i = .int .i64 q ∧ q ≤ N ∧ wr = w3.drewN n) (fun i _ => N - (intOf i).toNat)
      case atStart => exact ⟨0, 0, rfl, by omega, rfl⟩
      case round =>
        obtain ⟨q2, n, rfl, hq2, hw⟩ := hrel
        subst hw
        by_cases hlt2 : q2 < N
        · obtain ⟨ba, oa, ea, _, hca⟩ := S3.out.at (n := q2) (by rw [HN.out]; omega)
          obtain ⟨bb, ob, eb, _, hcb⟩ := T3.out.at (n := q2) (by rw [HY.out]; omega)
          subst ea
          subst eb
          have e1 : el ys q2 = el (flat xs) q2 := by rw [HYR.out, el_left (by rw [HN.out]; exact hlt2)]
          have k1 : w3.cell? ⟨ba, oa + q2, none⟩ = some (.int .u8 (el (flat xs) q2)) := hca q2 (by rw [HN.out]; omega)
          have k2 : w3.cell? ⟨bb, ob + q2, none⟩ = some (.int .u8 (el (flat xs) q2)) := by rw [← e1]; exact hcb q2 (by rw [HY.out]; omega)
          have hl2 : q2 < len0 := by omega
          clear hca hcb e1
          go_wp2
          go_quiet (fail)
          go_wp2
          go_roundw
          case rel => exact ⟨q2 + 1, _, by go_num, by omega, rfl⟩
          case measure => simp [intOf]; omega
        · have B4 : Hid (Below w.heap.size w (w3.drewN n)) := below_drewN B3.out n
          by_cases hcode : code = 0
          · have hr : r = [] := by
              rcases HCASE.out with h | h
              · exact h.1
              · exact absurd hcode h.2.1
            have hNl : N = len0 := by rw [← HN.out, ← HY.out, HYR.out, hr, List.append_nil]
            have hd : decide True = true := rfl
            subst hcode
            go_wp2
            go_ret
            exact ⟨ret_bool (by simp), B4.out⟩
          · obtain ⟨hr, _, hdec⟩ : r ≠ [] ∧ code ≠ 0 ∧ dec r 0 0 = (0, 0, code) := by
              rcases HCASE.out with h | h
              · exact absurd h.2 hcode
              · exact h
            have hdrop : ys.drop N = r := by rw [HYR.out, ← HN.out, List.drop_left]
            have hrl : 0 < r.length := List.length_pos_iff.2 hr
            have hlen : N + r.length = len0 := by rw [← HN.out, ← HY.out, HYR.out, List.length_append]
            have hNlt : N < len0 := by omega
            have hcb : (code == 0) = false := by simpa using hcode
            have s0 := run_suf Ycjm.underlying23 size8 p len0 c N (by omega)
            have SD : Hid (Sl .u8 (w3.drewN n) (cutAddr p N c) r) := by
              show Sl _ _ _ _
              rw [← hdrop]
              exact (T3.out.drewN n).cut (by rw [HY.out]; exact hc)
            have BD : Hid (Bytes r) := by
              show Bytes _
              rw [← hdrop]; exact BY.out.drop N
            have HRL : Hid (r.length = len0 - N) := by show _ = _; omega
            obtain ⟨e1, e2, e3⟩ := dvs hdec
            have E1 : Hid (_ ∧ _) := And.intro e1 (And.intro e2 e3)
            clear e1 e2 e3 hdec hr hdrop hrl hlen hcode
            go_wp2_with fail
            refine (decode_any (cutAddr p N c) (len0 - N) (c - N) r _ HRL.out (by omega) BD.out SD.out).mono ?_
            rintro e w9 ⟨rfl, rfl⟩
            rw [E1.out.1, E1.out.2.1, E1.out.2.2]
            go_wp2
            go_ret
            exact ⟨ret_bool (by simp), B4.out⟩

/-! ### the row's step -/
set_option maxRecDepth 100000 in
theorem lifted (os : Os) (started : os.Started) (H : Type) (enc : TypeId × Value → H) :
    ReturnsInHanded {} Ycjm.checked os 12 .any (Rows.lawS930001HReencodeSpec.pre6 enc Ycjm.prog Ycjm.f12 Rows.lawS930001HReencodeRow.domain false) (Rows.lawS930001HReencodeSpec.post enc Ycjm.prog Ycjm.f12 false true false false) := by
  refine returnsInHanded_of_change (C := Ycjm.checked) own started (by kernel_rfl) Ycjm.func12
    (ChangeSpec.witness6 (enc := enc) (C := Ycjm.checked) false ⟨#[], #[.slice none 0 0, .int .u8 0], []⟩ 8 (by kernel_rfl) (by kernel_rfl) (by kernel_rfl) (by kernel_rfl)) ?_
  intro W base args ds gs before hval0 hW hcnd _
  have hval : ∀ (j : Nat) t v, Ycjm.f12.params[j]? = some t → args[j]? = some v → Value.okWide Ycjm.prog W .any base t v := hval0
  have hW' := hW
  obtain ⟨p, q, hA0, hV, rfl, hfz, hnd⟩ := hW
  have hA : DataW.TrodAll enc Ycjm.prog W 0 (fun _ => true) true Ycjm.f12.params.toList args.toList ds p := hA0
  rw [Ycjm.params12] at hA hval
  obtain ⟨v0, vs0, d0, ds0, p0, q0, hargs, rfl, rfl, h0, r0⟩ := trodAll_cons hA
  obtain ⟨v1, vs1, d1, ds1, p1, q1, rfl, rfl, rfl, h1, r1⟩ := trodAll_cons r0
  obtain ⟨rfl, rfl, rfl⟩ := trodAll_nil r1
  obtain rfl : args = #[v0, v1] := by cases args; simp_all
  obtain ⟨rfl, rfl⟩ := trodVars_none hV
  obtain ⟨a0, len0, cap0, rfl⟩ := okWide_slice Ycjm.underlying23 (hval 0 23 v0 rfl rfl)
  have k0 := h0
  have lt0 : ∀ x ∈ p0, x.block < W.heap.size := by obtain ⟨m, hm⟩ := k0; exact DataW.trod_lt m _ _ _ hm
  obtain ⟨z0, w0⟩ : ∃ zs, IsRow .u8 W a0 len0 cap0 zs := by
    obtain ⟨fuel, hf⟩ := h0
    rcases open_ints Ycjm.underlying23 Ycjm.underlying5 (by kernel_rfl) hf with ⟨hcs, _⟩ | ⟨x, l, c, zs, hcs, _, hl, hm, hz, _, hcell, hwz⟩
    · simp [Value.cells] at hcs
      obtain ⟨rfl, rfl, rfl⟩ := hcs
      exact ⟨[], .inl ⟨rfl, rfl, rfl, rfl⟩⟩
    · simp [Value.cells] at hcs
      obtain ⟨rfl, rfl, rfl⟩ := hcs
      exact ⟨zs, .inr ⟨_, rfl, hl, hm, by simpa using hz, hcell, hwz⟩⟩
  obtain ⟨a1, rfl, rfl, rfl, w1⟩ := open_int Ycjm.underlying5 (hval 1 5 v1 rfl rfl) h1
  clear hA0 hval0
  refine (walk a0 len0 cap0 z0 a1 W w0 w1).mono fun e W' ⟨he, bel⟩ => ?_
  subst he
  exact ⟨_, rfl, _, _, _, [], _, [], hW', trodAll_mk1 (shut_bool Ycjm.underlying4 _), (trodAll_cons_mk (Below.trod laidOut (by kernel_rfl) (of_decide_eq_true (by kernel_rfl)) k0 bel lt0) (trodAll_cons_mk (shut_int Ycjm.underlying5 w1) trodAll_mk0)), rfl, bel.frame _, fun h => by cases h⟩

theorem over : Rows.lawS930001HReencodeRow.holds Ycjm.pinned (OpenSpec.ofChange Rows.lawS930001HReencodeSpec) :=
  OpenClaim.holds_of_wide 12 Ycjm.f12 rfl rfl rfl rfl rfl rfl rfl ⟨rfl, rfl, rfl, rfl, rfl⟩ rfl rfl rfl rfl rfl (by kernel_rfl) Ycjm.func12 (by kernel_rfl)
    (of_decide_eq_true (by kernel_rfl)) (by unfold Func.isWrapper; first | (rw [if_pos (by decide +kernel)]; kernel_rfl) | (rw [if_neg (by decide +kernel)]; exact ⟨rfl, rfl⟩))
    (fun os started H enc _ => lifted os started H enc)

/-- ████ THE STATEMENT ████ -/
theorem proved : Rows.LawS930001HReencodeSaid := over
#print axioms proved
end Go.Proofs.Ymbrcj.lawS930001HReencode
