/-
  'Rows.LawS930001IDentSaid': the guide's shell at this function, its walk filled.
-/
import Derived.Test.YmbrckRows
import Derived.WalkKit
import Derived.ProofKit
import Derived.OpenShut
import Derived.ShutString
import Derived.ChangeOld
import Derived.Below
import Derived.Test.YmbrckSorted
import Derived.Test.YmbrckOwn
namespace Go.Proofs.Ymbrck.lawS930001IDent
open Go.ChangeShapes Go.WideShapes Go.ChangeAt Go.RowKit
open Go.ChangeMaps (open_string shut_string)
set_option linter.unusedVariables false

theorem own : ownKnob Yckm.prog.godebug = none := by kernel_rfl
theorem laidOut : laidOutB Yckm.prog = true := by kernel_rfl

/-- WHAT THE WALK IS TOLD OF A SLICE OF INTEGERS THAT CAME IN: it is nil; or it leads to a row of 'cap' cells, the numbers 'zs' (the first 'len' are its elements, the rest its spare room), each fitting its kind. -/
def IsRow (k : IntKind) (w : World) (a : Option Addr) (len cap : Nat) (zs : List Int) : Prop :=
  (a = none ∧ len = 0 ∧ cap = 0 ∧ zs = []) ∨
  ∃ x, a = some x ∧ len ≤ cap ∧ cap ≤ maxLen ∧ zs.length = cap ∧ (∀ i, i < zs.length → w.cell? (x.add i) = some (.int k (zs.getD i 0))) ∧ ∀ n ∈ zs, (Lit.int k n).wf = true

/-- The list as far as it has been built: in order up to q, and C its q-th. -/
def Built (L : List Int) (n q : Nat) (C : Int) : Prop := L.length = n ∧ q < n ∧ el L q = C ∧ ∀ j, j < q → el L j ≤ el L (j + 1)
theorem built_step {L : List Int} {n q : Nat} {C D : Int} (h : Built L n q C) (hq : q + 1 < n) (hCD : C ≤ D) : Built (L.set (q + 1) D) n (q + 1) D := by
  obtain ⟨h1, h2, h3, h4⟩ := h
  refine ⟨by rw [List.length_set, h1], hq, el_set_same D (by omega), fun j hj => ?_⟩
  by_cases e : j = q
  · subst e
    rw [el_set_same D (by omega), el_set_other D (by omega), h3]; exact hCD
  · rw [el_set_other D (by omega), el_set_other D (by omega)]; exact h4 j (by omega)
theorem built_sorted {L : List Int} {n q : Nat} {C : Int} (h : Built L n q C) (hq : n = q + 1) : srt L = true :=
  (srt_iff L).2 fun j hj => h.2.2.2 j (by have := h.1; omega)
theorem dent {L : List Int} {k : Nat} (hk : k + 1 < L.length) : srt (L.set (k + 1) (el L k - 1)) = false := by
  cases hb : srt (L.set (k + 1) (el L k - 1)) with
  | false => rfl
  | true =>
    have := (srt_iff _).1 hb k (by rw [List.length_set]; exact hk)
    rw [el_set_same _ (by omega), el_set_other _ (by omega)] at this
    omega

set_option maxHeartbeats 2000000 in
theorem walk (a0 : Int) (a1 : Option Addr) (len1 cap1 : Nat) (z1 : List Int) (a2 : Int) (w : World) (w0 : (Lit.int .u64 a0).wf = true) (w1 : IsRow .u32 w a1 len1 cap1 z1) (w2 : (Lit.int .u64 a2).wf = true) :
    Calls Yckm.prog 3 #[.int .u64 a0, .slice a1 len1 cap1, .int .u64 a2] w fun e w' => e = .returned (.bool true) ∧ Below w.heap.size w w' := by
  obtain ⟨gs, hg, hgc, mg, sg, wg, _⟩ := sl_of_row w1
  have hx0 := u64_bd w0
  have hx2 := u64_bd w2
  have hgb : ∀ i, 0 ≤ el gs i ∧ el gs i ≤ 4294967295 := fun i => by
    by_cases hi : i < gs.length
    · exact u32_bd (wg _ (el_mem hi))
    · rw [el_ge (by omega)]; omega
  clear w0 w1 w2
  by_cases hbig : 1024 < len1
  · go_enter Yckm.func3, Yckm.ntmps3
    go_wp2
    go_ret
    exact ⟨rfl, Below.refl _ _⟩
  have SG : Hid (Sl .u32 w a1 gs) := sg
  have HG : Hid (gs.length = len1) := hg
  have GB : Hid (∀ i, 0 ≤ el gs i ∧ el gs i ≤ 4294967295) := hgb
  clear sg hg hgc mg wg hgb
  go_enter Yckm.func3, Yckm.ntmps3
  go_wp2_with (at_make; refine mk64 _ rfl (.tmp 20) (.tmp 20) rfl (base := w.heap.size) _ _ (len1 + 1) rfl rfl ?m1 ?m1b ?m2 (Nat.le_refl _) ?m3)
  case m1 => first | omega | (simp; omega)
  case m1b => first | omega | (simp; omega)
  case m2 => omega
  case m3 =>
  intro w1 hown hbel
  have c0 := (hown.at (j := 0) (by simp)).1
  have f0 := (hown.at (j := 0) (by simp)).2
  have HO : Hid (Owns .u64 22 w.heap.size (w1.setCell ⟨w.heap.size, 0, none⟩ (.int .u64 a0)) (.slice (some ⟨w.heap.size, 0, none⟩) (len1 + 1) (len1 + 1)) ((List.replicate (len1 + 1) 0).set 0 a0)) := hown.set 0 a0
  have HB : Hid (Below w.heap.size w (w1.setCell ⟨w.heap.size, 0, none⟩ (.int .u64 a0))) := hbel.setCell (Nat.le_refl _) _
  have hz : w.heap.size < w1.heap.size := (hown.lt _ rfl).2
  clear hown hbel
  go_wp2
  go_loopw [9, 28] (fun cu i wr => ∃ (q : Nat) (C : Int) (L : List Int), cu = .int .u64 C ∧ i = .int .i64 q ∧ q ≤ len1 ∧ 0 ≤ C ∧ C ≤ 18446744073709551615 ∧ Built L (len1 + 1) q C ∧ Words L ∧ Owns .u64 22 w.heap.size wr (.slice (some ⟨w.heap.size, 0, none⟩) (len1 + 1) (len1 + 1)) L ∧ Below w.heap.size w wr) (fun _ i _ => len1 - (intOf i).toNat)
  case atStart =>
    refine ⟨0, a0, (List.replicate (len1 + 1) 0).set 0 a0, rfl, rfl, by omega, hx0.1, hx0.2, ⟨by simp, by omega, el_set_same _ (by simp), fun j hj => by omega⟩, ?_, HO.out, HB.out⟩
    refine Words.set (fun x hx => ?_) hx0.1 hx0.2 0
    have := List.eq_of_mem_replicate hx
    omega
  case round =>
    clear HO HB c0 f0 hz
    obtain ⟨q, C, L, rfl, rfl, hq, hC0, hC1, hbu, hwo, hown, hbel⟩ := hrel
    have HO : Hid (Owns .u64 22 w.heap.size wr (.slice (some ⟨w.heap.size, 0, none⟩) (len1 + 1) (len1 + 1)) L) := hown
    have HB : Hid (Below w.heap.size w wr) := hbel
    have HBU : Hid (Built L (len1 + 1) q C) := hbu
    have HWO : Hid (Words L) := hwo
    have HLL : Hid (L.length = len1 + 1) := hbu.1
    clear hbu hwo hown hbel
    by_cases hlt : q < len1
    · obtain ⟨b, off, ha, hbl, hc⟩ := SG.out.at (n := q) (by rw [HG.out]; omega)
      subst ha
      have c0 : wr.cell? ⟨b, off + q, none⟩ = some (.int .u32 (el gs q)) := (HB.out.cell hbl).trans (hc q (by rw [HG.out]; omega))
      have c1 := (HO.out.at (j := q + 1) (by rw [HLL.out]; omega)).1
      have f1 := (HO.out.at (j := q + 1) (by rw [HLL.out]; omega)).2
      have hgq := GB.out q
      clear hc
      by_cases hov : C + el gs q ≤ 18446744073709551615
      · have hov2 : ¬ C + el gs q < C := by omega
        have HC : Hid (Owns .u64 22 w.heap.size (wr.setCell ⟨w.heap.size, q + 1, none⟩ (.int .u64 (C + el gs q))) (.slice (some ⟨w.heap.size, 0, none⟩) (len1 + 1) (len1 + 1)) (L.set (q + 1) (C + el gs q))) := HO.out.set (q + 1) (C + el gs q)
        have HE : Hid (Below w.heap.size w (wr.setCell ⟨w.heap.size, q + 1, none⟩ (.int .u64 (C + el gs q)))) := HB.out.setCell (Nat.le_refl _) _
        go_wp2
        go_roundw
        case rel => exact ⟨q + 1, C + el gs q, L.set (q + 1) (C + el gs q), rfl, by go_num, by omega, by omega, by omega, built_step HBU.out (by omega) (by omega), HWO.out.set (by omega) (by omega) _, HC.out, HE.out⟩
        case measure => simp [intOf]; omega
      · obtain ⟨nx, hnx⟩ : ∃ nx, IntKind.u64.wrap (C + el gs q) = nx := ⟨_, rfl⟩
        have hnl : nx < C := by rw [← hnx, IntKind.wrap_u64]; omega
        have HC : Hid (Owns .u64 22 w.heap.size (wr.setCell ⟨w.heap.size, q + 1, none⟩ (.int .u64 (18446744073709551615))) (.slice (some ⟨w.heap.size, 0, none⟩) (len1 + 1) (len1 + 1)) (L.set (q + 1) (18446744073709551615))) := HO.out.set (q + 1) (18446744073709551615)
        have HE : Hid (Below w.heap.size w (wr.setCell ⟨w.heap.size, q + 1, none⟩ (.int .u64 (18446744073709551615)))) := HB.out.setCell (Nat.le_refl _) _
        go_wp2
        go_roundw
        case rel => exact ⟨q + 1, 18446744073709551615, L.set (q + 1) (18446744073709551615), rfl, by go_num, by omega, by omega, by omega, built_step HBU.out (by omega) (by omega), HWO.out.set (by omega) (by omega) _, HC.out, HE.out⟩
        case measure => simp [intOf]; omega
    · obtain rfl : q = len1 := by omega
      have hs := built_sorted HBU.out rfl
      have HS1 : Hid (srt L = true) := hs
      have SL : Hid (Sl .u64 wr (some ⟨w.heap.size, 0, none⟩) L) := HO.out.sl.2.2.2
      clear hs
      go_wp2_with fail
      refine (sorted_any (some ⟨w.heap.size, 0, none⟩) (q + 1) (q + 1) L wr HLL.out (by omega) SL.out).mono ?_
      rintro e w3 ⟨rfl, hqq⟩
      rw [HS1.out]
      have HO3 : Hid (Owns .u64 22 w.heap.size w3 (.slice (some ⟨w.heap.size, 0, none⟩) (q + 1) (q + 1)) L) := HO.out.quiet hqq
      have HB3 : Hid (Below w.heap.size w w3) := drews hqq HB.out
      clear hqq HO HB SL
      by_cases hn2 : q = 0
      · have hn2' : q ≤ 0 := by omega
        clear hn2
        go_wp2
        go_ret
        exact ⟨rfl, HB3.out⟩
      · obtain ⟨k, hk⟩ : ∃ k : Nat, a2 % (q : Int) = k := ⟨(a2 % (q : Int)).toNat, by have := Int.emod_nonneg a2 (show (q : Int) ≠ 0 by omega); omega⟩
        have hkq : k < q := by have := Int.emod_lt_of_pos a2 (show (0 : Int) < q by omega); omega
        have hq1 : 1 ≤ q := by omega
        have c1 := (HO3.out.at (j := k) (by rw [HLL.out]; omega)).1
        have c2 := (HO3.out.at (j := 1 + k) (by rw [HLL.out]; omega)).1
        have f2 := (HO3.out.at (j := 1 + k) (by rw [HLL.out]; omega)).2
        have hw := HWO.out.el k
        by_cases hz : el L k = 0
        · have hz' : el L k ≤ 0 := by omega
          clear hz
          go_wp2
          go_ret
          exact ⟨rfl, HB3.out⟩
        · have hz' : 0 < el L k := by omega
          clear hz
          have HO4 : Hid (Owns .u64 22 w.heap.size (w3.setCell ⟨w.heap.size, 1 + k, none⟩ (.int .u64 (el L k - 1))) (.slice (some ⟨w.heap.size, 0, none⟩) (q + 1) (q + 1)) (L.set (1 + k) (el L k - 1))) := HO3.out.set (1 + k) _
          have HB4 : Hid (Below w.heap.size w (w3.setCell ⟨w.heap.size, 1 + k, none⟩ (.int .u64 (el L k - 1)))) := HB3.out.setCell (Nat.le_refl _) _
          have HD : Hid (srt (L.set (1 + k) (el L k - 1)) = false) := by
            show _ = _
            rw [Nat.add_comm 1 k]
            exact dent (by rw [HLL.out]; omega)
          have HL4 : Hid ((L.set (1 + k) (el L k - 1)).length = q + 1) := by show _ = _; rw [List.length_set, HLL.out]
          go_wp2_with fail
          refine (sorted_any (some ⟨w.heap.size, 0, none⟩) (q + 1) (q + 1) (L.set (1 + k) (el L k - 1)) _ HL4.out (by omega) HO4.out.sl.2.2.2).mono ?_
          rintro e w5 ⟨rfl, hqq⟩
          rw [HD.out]
          have HB5 : Hid (Below w.heap.size w w5) := drews hqq HB4.out
          clear hqq
          go_wp2
          go_ret
          exact ⟨rfl, HB5.out⟩

/-! ### the row's step -/
set_option maxRecDepth 100000 in
theorem lifted (os : Os) (started : os.Started) (H : Type) (enc : TypeId × Value → H) :
    ReturnsInHanded {} Yckm.checked os 3 .any (Rows.lawS930001IDentSpec.pre6 enc Yckm.prog Yckm.f3 Rows.lawS930001IDentRow.domain false) (Rows.lawS930001IDentSpec.post enc Yckm.prog Yckm.f3 false true false false) := by
  refine returnsInHanded_of_change (C := Yckm.checked) own started (by kernel_rfl) Yckm.func3
    (ChangeSpec.witness6 (enc := enc) (C := Yckm.checked) false ⟨#[], #[.int .u64 0, .slice none 0 0, .int .u64 0], []⟩ 8 (by kernel_rfl) (by kernel_rfl) (by kernel_rfl) (by kernel_rfl)) ?_
  intro W base args ds gs before hval0 hW hcnd _
  have hval : ∀ (j : Nat) t v, Yckm.f3.params[j]? = some t → args[j]? = some v → Value.okWide Yckm.prog W .any base t v := hval0
  have hW' := hW
  obtain ⟨p, q, hA0, hV, rfl, hfz, hnd⟩ := hW
  have hA : DataW.TrodAll enc Yckm.prog W 0 (fun _ => true) true Yckm.f3.params.toList args.toList ds p := hA0
  rw [Yckm.params3] at hA hval
  obtain ⟨v0, vs0, d0, ds0, p0, q0, hargs, rfl, rfl, h0, r0⟩ := trodAll_cons hA
  obtain ⟨v1, vs1, d1, ds1, p1, q1, rfl, rfl, rfl, h1, r1⟩ := trodAll_cons r0
  obtain ⟨v2, vs2, d2, ds2, p2, q2, rfl, rfl, rfl, h2, r2⟩ := trodAll_cons r1
  obtain ⟨rfl, rfl, rfl⟩ := trodAll_nil r2
  obtain rfl : args = #[v0, v1, v2] := by cases args; simp_all
  obtain ⟨rfl, rfl⟩ := trodVars_none hV
  obtain ⟨a0, rfl, rfl, rfl, w0⟩ := open_int Yckm.underlying22 (hval 0 22 v0 rfl rfl) h0
  obtain ⟨a1, len1, cap1, rfl⟩ := okWide_slice Yckm.underlying23 (hval 1 23 v1 rfl rfl)
  have k1 := h1
  have lt1 : ∀ x ∈ p1, x.block < W.heap.size := by obtain ⟨m, hm⟩ := k1; exact DataW.trod_lt m _ _ _ hm
  obtain ⟨z1, w1⟩ : ∃ zs, IsRow .u32 W a1 len1 cap1 zs := by
    obtain ⟨fuel, hf⟩ := h1
    rcases open_ints Yckm.underlying23 Yckm.underlying25 (by kernel_rfl) hf with ⟨hcs, _⟩ | ⟨x, l, c, zs, hcs, _, hl, hm, hz, _, hcell, hwz⟩
    · simp [Value.cells] at hcs
      obtain ⟨rfl, rfl, rfl⟩ := hcs
      exact ⟨[], .inl ⟨rfl, rfl, rfl, rfl⟩⟩
    · simp [Value.cells] at hcs
      obtain ⟨rfl, rfl, rfl⟩ := hcs
      exact ⟨zs, .inr ⟨_, rfl, hl, hm, by simpa using hz, hcell, hwz⟩⟩
  obtain ⟨a2, rfl, rfl, rfl, w2⟩ := open_int Yckm.underlying22 (hval 2 22 v2 rfl rfl) h2
  clear hA0 hval0
  refine (walk a0 a1 len1 cap1 z1 a2 W w0 w1 w2).mono fun e W' ⟨he, bel⟩ => ?_
  subst he
  exact ⟨_, rfl, _, _, _, [], _, [], hW', trodAll_mk1 (shut_bool Yckm.underlying4 _), (trodAll_cons_mk (shut_int Yckm.underlying22 w0) (trodAll_cons_mk (Below.trod laidOut (by kernel_rfl) (of_decide_eq_true (by kernel_rfl)) k1 bel lt1) (trodAll_cons_mk (shut_int Yckm.underlying22 w2) trodAll_mk0))), rfl, bel.frame _, fun h => by cases h⟩

theorem over : Rows.lawS930001IDentRow.holds Yckm.pinned (OpenSpec.ofChange Rows.lawS930001IDentSpec) :=
  OpenClaim.holds_of_wide 3 Yckm.f3 rfl rfl rfl rfl rfl rfl rfl ⟨rfl, rfl, rfl, rfl, rfl⟩ rfl rfl rfl rfl rfl (by kernel_rfl) Yckm.func3 (by kernel_rfl)
    (of_decide_eq_true (by kernel_rfl)) (by unfold Func.isWrapper; first | (rw [if_pos (by decide +kernel)]; kernel_rfl) | (rw [if_neg (by decide +kernel)]; exact ⟨rfl, rfl⟩))
    (fun os started H enc _ => lifted os started H enc)

/-- ████ THE STATEMENT ████ -/
theorem proved : Rows.LawS930001IDentSaid := over
#print axioms proved
end Go.Proofs.Ymbrck.lawS930001IDent
