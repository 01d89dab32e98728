/-
  'Rows.LawS930001IMaxSaid': the guide's shell at this function, its walk filled.
-/
import Derived.Test.YmbrcjRows
import Derived.WalkKit
import Derived.ProofKit
import Derived.OpenShut
import Derived.ShutString
import Derived.ChangeOld
import Derived.Below
import Derived.Test.YmbrcjSorted
namespace Go.Proofs.Ymbrcj.lawS930001IMax
open Go.ChangeShapes Go.WideShapes Go.ChangeAt Go.RowKit
open Go.ChangeMaps (open_string shut_string)
set_option linter.unusedVariables false

theorem own : ownKnob Ycjm.prog.godebug = none := by kernel_rfl
theorem laidOut : laidOutB Ycjm.prog = true := by kernel_rfl

/-- WHAT THE WALK IS TOLD OF A SLICE OF INTEGERS THAT CAME IN: it is nil; or it leads to a row of 'cap' cells, the numbers 'zs' (the first 'len' are its elements, the rest its spare room), each fitting its kind. -/
def IsRow (k : IntKind) (w : World) (a : Option Addr) (len cap : Nat) (zs : List Int) : Prop :=
  (a = none ∧ len = 0 ∧ cap = 0 ∧ zs = []) ∨
  ∃ x, a = some x ∧ len ≤ cap ∧ cap ≤ maxLen ∧ zs.length = cap ∧ (∀ i, i < zs.length → w.cell? (x.add i) = some (.int k (zs.getD i 0))) ∧ ∀ n ∈ zs, (Lit.int k n).wf = true

/-- What the one pass has seen of the first k numbers: all in order, and the greatest so far is the last; or a step down. -/
def Seen (zs : List Int) (k : Nat) (T : Int) (b : Bool) : Prop :=
  (b = true ∧ (∀ j, j + 1 < k → el zs j ≤ el zs (j + 1)) ∧ ((k = 0 ∧ T = 0) ∨ (0 < k ∧ T = el zs (k - 1)))) ∨ (b = false ∧ ∃ j, j + 1 < zs.length ∧ el zs (j + 1) < el zs j)
theorem seen_up {zs : List Int} {k : Nat} {T : Int} {b : Bool} (h : Seen zs k T b) (hx : T ≤ el zs k) : Seen zs (k + 1) (el zs k) b := by
  rcases h with ⟨rfl, h1, h2⟩ | ⟨rfl, h1⟩
  · refine .inl ⟨rfl, fun j hj => ?_, .inr ⟨by omega, rfl⟩⟩
    by_cases hj' : j + 1 = k
    · subst hj'
      rcases h2 with ⟨h2, _⟩ | ⟨_, h2⟩
      · omega
      · have e : j + 1 - 1 = j := by omega
        rw [e] at h2; omega
    · exact h1 j (by omega)
  · exact .inr ⟨rfl, h1⟩
theorem seen_down {zs : List Int} {k : Nat} {T : Int} {b : Bool} (hz : Words zs) (hk : k < zs.length) (h : Seen zs k T b) (hx : el zs k < T) : Seen zs (k + 1) T false := by
  rcases h with ⟨rfl, h1, h2⟩ | ⟨rfl, h1⟩
  · rcases h2 with ⟨rfl, rfl⟩ | ⟨hk0, rfl⟩
    · have := hz.el 0; omega
    · exact .inr ⟨rfl, k - 1, by omega, by have e : k - 1 + 1 = k := by omega
                                           rw [e]; exact hx⟩
  · exact .inr ⟨rfl, h1⟩
theorem seen_end {zs : List Int} {k : Nat} {T : Int} {b : Bool} (hk : zs.length ≤ k) (h : Seen zs k T b) : srt zs = b := by
  rcases h with ⟨rfl, h1, _⟩ | ⟨rfl, j, h1, h2⟩
  · exact (srt_iff zs).2 fun j hj => h1 j (by omega)
  · cases hb : srt zs with
    | false => rfl
    | true => have := (srt_iff zs).1 hb j h1; omega

set_option maxHeartbeats 400000 in
theorem walk (a0 : Option Addr) (len0 cap0 : Nat) (z0 : List Int) (w : World) (w0 : IsRow .u64 w a0 len0 cap0 z0) :
    Calls Ycjm.prog 14 #[.slice a0 len0 cap0] w fun e w' => e = .returned (.bool true) ∧ Below w.heap.size w w' := by
  obtain ⟨zs, hl, _, hm, hs, hw, _⟩ := sl_of_row w0
  clear w0
  have hz := words_of_wf hw
  have HS : Hid (Sl .u64 w a0 zs) := hs
  have HL : Hid (zs.length = len0) := hl
  have HZ : Hid (Words zs) := hz
  have hm' : len0 ≤ 9223372036854775807 := by omega
  clear hs hl hz hw hm
  go_enter Ycjm.func14, Ycjm.ntmps14
  go_wp2
  go_loop [3, 4, 9] (fun t b i => ∃ (k : Nat) (T : Int) (c : Bool), t = .int .u64 T ∧ b = .bool c ∧ i = .int .i64 k ∧ k ≤ len0 ∧ Seen zs k T c) (fun _ _ i => len0 - (intOf i).toNat)
  case atStart => exact ⟨0, 0, true, rfl, rfl, rfl, Nat.zero_le _, .inl ⟨rfl, fun j hj => by omega, .inl ⟨rfl, rfl⟩⟩⟩
  case round =>
    obtain ⟨k, T, c, rfl, rfl, rfl, hk, hse⟩ := hrel
    by_cases hlt : k < len0
    · obtain ⟨b, off, ha, _, hc⟩ := HS.out.at (n := k) (by rw [HL.out]; omega)
      subst ha
      have c0 : w.cell? ⟨b, off + k, none⟩ = some (.int .u64 (el zs k)) := hc k (by rw [HL.out]; omega)
      clear hc
      go_wp2
      · have hx : T ≤ el zs k := by assumption
        go_round
        case rel => exact ⟨k + 1, _, _, rfl, rfl, by go_num, by omega, seen_up hse hx⟩
        case measure => simp [intOf]; omega
      · have hx : ¬ T ≤ el zs k := by omega
        go_round
        case rel => exact ⟨k + 1, _, _, rfl, rfl, by go_num, by omega, seen_down HZ.out (by rw [HL.out]; omega) hse (by omega)⟩
        case measure => simp [intOf]; omega
    · have he := seen_end (by rw [HL.out]; omega) hse
      have HE : Hid (srt zs = c) := he
      clear he hse
      go_wp2_with fail
      refine (sorted_any a0 len0 cap0 zs w HL.out hm' HS.out).mono ?_
      rintro e w' ⟨rfl, n, rfl⟩
      rw [HE.out]
      go_wp2
      go_ret
      exact ⟨ret_bool (by simp), drews ⟨n, rfl⟩ (Below.refl _ _)⟩

/-! ### the row's step -/
set_option maxRecDepth 100000 in
theorem lifted (os : Os) (started : os.Started) (H : Type) (enc : TypeId × Value → H) :
    ReturnsInHanded {} Ycjm.checked os 14 .any (Rows.lawS930001IMaxSpec.pre6 enc Ycjm.prog Ycjm.f14 Rows.lawS930001IMaxRow.domain false) (Rows.lawS930001IMaxSpec.post enc Ycjm.prog Ycjm.f14 false true false false) := by
  refine returnsInHanded_of_change (C := Ycjm.checked) own started (by kernel_rfl) Ycjm.func14
    (ChangeSpec.witness6 (enc := enc) (C := Ycjm.checked) false ⟨#[], #[.slice none 0 0], []⟩ 8 (by kernel_rfl) (by kernel_rfl) (by kernel_rfl) (by kernel_rfl)) ?_
  intro W base args ds gs before hval0 hW hcnd _
  have hval : ∀ (j : Nat) t v, Ycjm.f14.params[j]? = some t → args[j]? = some v → Value.okWide Ycjm.prog W .any base t v := hval0
  have hW' := hW
  obtain ⟨p, q, hA0, hV, rfl, hfz, hnd⟩ := hW
  have hA : DataW.TrodAll enc Ycjm.prog W 0 (fun _ => true) true Ycjm.f14.params.toList args.toList ds p := hA0
  rw [Ycjm.params14] at hA hval
  obtain ⟨v0, vs0, d0, ds0, p0, q0, hargs, rfl, rfl, h0, r0⟩ := trodAll_cons hA
  obtain ⟨rfl, rfl, rfl⟩ := trodAll_nil r0
  obtain rfl : args = #[v0] := by cases args; simp_all
  obtain ⟨rfl, rfl⟩ := trodVars_none hV
  obtain ⟨a0, len0, cap0, rfl⟩ := okWide_slice Ycjm.underlying38 (hval 0 38 v0 rfl rfl)
  have k0 := h0
  have lt0 : ∀ x ∈ p0, x.block < W.heap.size := by obtain ⟨m, hm⟩ := k0; exact DataW.trod_lt m _ _ _ hm
  obtain ⟨z0, w0⟩ : ∃ zs, IsRow .u64 W a0 len0 cap0 zs := by
    obtain ⟨fuel, hf⟩ := h0
    rcases open_ints Ycjm.underlying38 Ycjm.underlying22 (by kernel_rfl) hf with ⟨hcs, _⟩ | ⟨x, l, c, zs, hcs, _, hl, hm, hz, _, hcell, hwz⟩
    · simp [Value.cells] at hcs
      obtain ⟨rfl, rfl, rfl⟩ := hcs
      exact ⟨[], .inl ⟨rfl, rfl, rfl, rfl⟩⟩
    · simp [Value.cells] at hcs
      obtain ⟨rfl, rfl, rfl⟩ := hcs
      exact ⟨zs, .inr ⟨_, rfl, hl, hm, by simpa using hz, hcell, hwz⟩⟩
  clear hA0 hval0
  refine (walk a0 len0 cap0 z0 W w0).mono fun e W' ⟨he, bel⟩ => ?_
  subst he
  exact ⟨_, rfl, _, _, _, [], _, [], hW', trodAll_mk1 (shut_bool Ycjm.underlying4 _), (trodAll_cons_mk (Below.trod laidOut (by kernel_rfl) (of_decide_eq_true (by kernel_rfl)) k0 bel lt0) trodAll_mk0), rfl, bel.frame _, fun h => by cases h⟩

theorem over : Rows.lawS930001IMaxRow.holds Ycjm.pinned (OpenSpec.ofChange Rows.lawS930001IMaxSpec) :=
  OpenClaim.holds_of_wide 14 Ycjm.f14 rfl rfl rfl rfl rfl rfl rfl ⟨rfl, rfl, rfl, rfl, rfl⟩ rfl rfl rfl rfl rfl (by kernel_rfl) Ycjm.func14 (by kernel_rfl)
    (of_decide_eq_true (by kernel_rfl)) (by unfold Func.isWrapper; first | (rw [if_pos (by decide +kernel)]; kernel_rfl) | (rw [if_neg (by decide +kernel)]; exact ⟨rfl, rfl⟩))
    (fun os started H enc _ => lifted os started H enc)

/-- ████ THE STATEMENT ████ -/
theorem proved : Rows.LawS930001IMaxSaid := over
#print axioms proved
end Go.Proofs.Ymbrcj.lawS930001IMax
