/-
  'Rows.LawS930001EExactSaid': the guide's shell at this function, its walk filled.
-/
import Derived.Test.YmbrciRows
import Derived.WalkKit
import Derived.ProofKit
import Derived.OpenShut
import Derived.ShutString
import Derived.ChangeOld
import Derived.Below
import Derived.Test.YmbrciVal
namespace Go.Proofs.Ymbrci.lawS930001EExact
open Go.ChangeShapes Go.WideShapes Go.ChangeAt Go.RowKit
open Go.ChangeMaps (open_string shut_string)
set_option linter.unusedVariables false

theorem own : ownKnob Ycim.prog.godebug = none := by kernel_rfl
theorem laidOut : laidOutB Ycim.prog = true := by kernel_rfl

/-- WHAT THE WALK IS TOLD OF A SLICE OF INTEGERS THAT CAME IN: it is nil; or it leads to a row of 'cap' cells, the numbers 'zs' (the first 'len' are its elements, the rest its spare room), each fitting its kind. -/
def IsRow (k : IntKind) (w : World) (a : Option Addr) (len cap : Nat) (zs : List Int) : Prop :=
  (a = none ∧ len = 0 ∧ cap = 0 ∧ zs = []) ∨
  ∃ x, a = some x ∧ len ≤ cap ∧ cap ≤ maxLen ∧ zs.length = cap ∧ (∀ i, i < zs.length → w.cell? (x.add i) = some (.int k (zs.getD i 0))) ∧ ∀ n ∈ zs, (Lit.int k n).wf = true

theorem eq_true_of {a b : Int} (h : a = b) : (a == b) = true := by simp [h]

set_option maxHeartbeats 1000000 in
theorem walk (a0 : Option Addr) (len0 cap0 : Nat) (z0 : List Int) (w : World) (w0 : IsRow .u8 w a0 len0 cap0 z0) :
    Calls Ycim.prog 14 #[.slice a0 len0 cap0] w fun e w' => e = .returned (.bool true) ∧ Below w.heap.size w w' := by
  obtain ⟨zs, hl, _, hm, hs, hw, _⟩ := sl_of_row w0
  clear w0
  have hz := bytes_of_wf hw
  have HS : Hid (Sl .u8 w a0 zs) := hs
  have HL : Hid (zs.length = len0) := hl
  have HZ : Hid (Bytes zs) := hz
  have hm' : len0 ≤ 9223372036854775807 := by omega
  clear hs hl hz hw hm
  go_enter Ycim.func14, Ycim.ntmps14
  go_wp2_with fail
  refine (decode_any a0 len0 cap0 zs w HL.out hm' HZ.out HS.out).mono ?_
  rintro e w' ⟨rfl, rfl⟩
  go_wp2
  go_loop [6] (fun i => ∃ k : Nat, i = .int .i64 k ∧ k ≤ 9 ∧ k ≤ len0 ∧ Prom (zs.take k)) (fun i => 9 - (intOf i).toNat)
  case atStart => exact ⟨0, rfl, by omega, by omega, by simpa using Prom.nil⟩
  case round =>
    obtain ⟨k, rfl, hk9, hk, hp⟩ := hrel
    have HP : Hid (Prom (zs.take k)) := hp
    clear hp
    by_cases hlt : k < len0
    · obtain ⟨b, off, ha, _, hc⟩ := HS.out.at (n := k) (by rw [HL.out]; omega)
      subst ha
      have c0 : w'.cell? ⟨b, off + k, none⟩ = some (.int .u8 (el zs k)) := hc k (by rw [HL.out]; omega)
      have HC : Hid (∀ i, i < zs.length → w'.cell? ⟨b, off + i, none⟩ = some (.int .u8 (el zs i))) := hc
      clear hc
      have hb := HZ.out.el k
      by_cases hgo : k < 9 ∧ 128 ≤ el zs k
      · obtain ⟨h9, h128⟩ := hgo
        go_wp2
        go_round
        case rel => exact ⟨k + 1, by go_num, by omega, by omega, by rw [take_succ_el (by rw [HL.out]; omega)]; exact HP.out.snoc h128⟩
        case measure => simp [intOf]; omega
      · have hlk : k < zs.length := by rw [HL.out]; exact hlt
        have hpq : ∀ q, q < k → 128 ≤ el zs q := fun q hq => by
          have := HP.out (el (zs.take k) q) (el_mem (by simp; omega))
          rwa [el_take hq] at this
        have HPQ : Hid (∀ q, q < k → 128 ≤ el zs q) := hpq
        clear hpq
        by_cases h9 : k < 9
        · have h128 : ¬ 128 ≤ el zs k := by omega
          have h9' : ¬ k = 9 := by omega
          by_cases h0 : 0 < k ∧ el zs k = 0
          · obtain ⟨e1, e2, e3⟩ := dvs (table_long hk9 HP.out hlk h0.1 h0.2)
            obtain ⟨h0, h00⟩ := h0
            clear HP HPQ
            go_wp2
            go_ret
            exact ⟨rfl, Below.refl _ _⟩
          · by_cases h00 : 0 < k
            · have hb0 : ¬ el zs k = 0 := by omega
              have hok := table_ok hk9 HP.out hlk hb.1 (by omega) (by omega) (by omega)
              obtain ⟨e1, e2, e3⟩ := dvs hok.1
              have hV := hok.2
              have E1 : Hid (dv zs = val (zs.take (k + 1))) := e1
              clear hok e1 HP
              go_wp2
              go_loop [8, 9] (fun t j => ∃ m : Nat, m ≤ k ∧ j = .int .i64 ((m : Int) - 1) ∧ t = .int .u64 (val ((zs.take (k + 1)).drop m))) (fun _ j => (intOf j + 1).toNat)
              case atStart => exact ⟨k, by omega, by go_num, by rw [val_back0 hlk hb.1 (by omega)]⟩
              case round =>
                obtain ⟨m, hmk, rfl, rfl⟩ := hrel
                by_cases hm0 : 0 < m
                · obtain ⟨q, rfl⟩ : ∃ q, m = q + 1 := ⟨m - 1, by omega⟩
                  have cq : w'.cell? ⟨b, off + q, none⟩ = some (.int .u8 (el zs q)) := HC.out q (by omega)
                  have hbq := HZ.out.el q
                  have hpq : 128 ≤ el zs q := HPQ.out q (by omega)
                  have hst := val_back (zs := zs) hlk (m := q) (by omega)
                  have hle := val_drop_le (zs.take (k + 1)) q
                  have hnn := val_nonneg ((zs.take (k + 1)).drop (q + 1))
                  rw [hst] at hle
                  have HST : Hid (val ((zs.take (k + 1)).drop q) = el zs q % 128 + 128 * val ((zs.take (k + 1)).drop (q + 1))) := hst
                  clear hst
                  generalize val ((zs.take (k + 1)).drop (q + 1)) = V at *
                  have hVb : V * 128 + (el zs q - 128) ≤ 18446744073709551615 := by omega
                  have hVb2 : V * 128 ≤ 18446744073709551615 := by omega
                  go_wp2
                  go_round
                  case rel => exact ⟨q, by omega, by go_num, by rw [HST.out]; go_num⟩
                  case measure => simp [intOf]
                · obtain rfl : m = 0 := by omega
                  rw [List.drop_zero, ← E1.out]
                  go_wp2
                  go_ret
                  exact ⟨rfl, Below.refl _ _⟩
            · have h000 : k ≤ 0 := by omega
              have hok := table_ok hk9 HP.out hlk hb.1 (by omega) (by omega) (by omega)
              obtain ⟨e1, e2, e3⟩ := dvs hok.1
              have hV := hok.2
              have E1 : Hid (dv zs = val (zs.take (k + 1))) := e1
              clear hok e1 HP
              go_wp2
              go_loop [8, 9] (fun t j => ∃ m : Nat, m ≤ k ∧ j = .int .i64 ((m : Int) - 1) ∧ t = .int .u64 (val ((zs.take (k + 1)).drop m))) (fun _ j => (intOf j + 1).toNat)
              case atStart => exact ⟨k, by omega, by go_num, by rw [val_back0 hlk hb.1 (by omega)]⟩
              case round =>
                obtain ⟨m, hmk, rfl, rfl⟩ := hrel
                by_cases hm0 : 0 < m
                · obtain ⟨q, rfl⟩ : ∃ q, m = q + 1 := ⟨m - 1, by omega⟩
                  have cq : w'.cell? ⟨b, off + q, none⟩ = some (.int .u8 (el zs q)) := HC.out q (by omega)
                  have hbq := HZ.out.el q
                  have hpq : 128 ≤ el zs q := HPQ.out q (by omega)
                  have hst := val_back (zs := zs) hlk (m := q) (by omega)
                  have hle := val_drop_le (zs.take (k + 1)) q
                  have hnn := val_nonneg ((zs.take (k + 1)).drop (q + 1))
                  rw [hst] at hle
                  have HST : Hid (val ((zs.take (k + 1)).drop q) = el zs q % 128 + 128 * val ((zs.take (k + 1)).drop (q + 1))) := hst
                  clear hst
                  generalize val ((zs.take (k + 1)).drop (q + 1)) = V at *
                  have hVb : V * 128 + (el zs q - 128) ≤ 18446744073709551615 := by omega
                  have hVb2 : V * 128 ≤ 18446744073709551615 := by omega
                  go_wp2
                  go_round
                  case rel => exact ⟨q, by omega, by go_num, by rw [HST.out]; go_num⟩
                  case measure => simp [intOf]
                · obtain rfl : m = 0 := by omega
                  rw [List.drop_zero, ← E1.out]
                  go_wp2
                  go_ret
                  exact ⟨rfl, Below.refl _ _⟩
        · have h9' : 9 ≤ k := by omega
          by_cases h2 : 2 ≤ el zs k
          · obtain ⟨e1, e2, e3⟩ := dvs (table_over HP.out hlk (by omega) h2)
            clear HP HPQ
            go_wp2
            go_ret
            exact ⟨rfl, Below.refl _ _⟩
          · by_cases h0 : el zs k = 0
            · obtain ⟨e1, e2, e3⟩ := dvs (table_long hk9 HP.out hlk (by omega) h0)
              clear HP HPQ
              go_wp2
              go_ret
              exact ⟨rfl, Below.refl _ _⟩
            · have h00 : 0 < k := by omega
              have hok := table_ok hk9 HP.out hlk hb.1 (by omega) (by omega) (by omega)
              obtain ⟨e1, e2, e3⟩ := dvs hok.1
              have hV := hok.2
              have E1 : Hid (dv zs = val (zs.take (k + 1))) := e1
              clear hok e1 HP
              go_wp2
              go_loop [8, 9] (fun t j => ∃ m : Nat, m ≤ k ∧ j = .int .i64 ((m : Int) - 1) ∧ t = .int .u64 (val ((zs.take (k + 1)).drop m))) (fun _ j => (intOf j + 1).toNat)
              case atStart => exact ⟨k, by omega, by go_num, by rw [val_back0 hlk hb.1 (by omega)]⟩
              case round =>
                obtain ⟨m, hmk, rfl, rfl⟩ := hrel
                by_cases hm0 : 0 < m
                · obtain ⟨q, rfl⟩ : ∃ q, m = q + 1 := ⟨m - 1, by omega⟩
                  have cq : w'.cell? ⟨b, off + q, none⟩ = some (.int .u8 (el zs q)) := HC.out q (by omega)
                  have hbq := HZ.out.el q
                  have hpq : 128 ≤ el zs q := HPQ.out q (by omega)
                  have hst := val_back (zs := zs) hlk (m := q) (by omega)
                  have hle := val_drop_le (zs.take (k + 1)) q
                  have hnn := val_nonneg ((zs.take (k + 1)).drop (q + 1))
                  rw [hst] at hle
                  have HST : Hid (val ((zs.take (k + 1)).drop q) = el zs q % 128 + 128 * val ((zs.take (k + 1)).drop (q + 1))) := hst
                  clear hst
                  generalize val ((zs.take (k + 1)).drop (q + 1)) = V at *
                  have hVb : V * 128 + (el zs q - 128) ≤ 18446744073709551615 := by omega
                  have hVb2 : V * 128 ≤ 18446744073709551615 := by omega
                  go_wp2
                  go_round
                  case rel => exact ⟨q, by omega, by go_num, by rw [HST.out]; go_num⟩
                  case measure => simp [intOf]
                · obtain rfl : m = 0 := by omega
                  rw [List.drop_zero, ← E1.out]
                  go_wp2
                  go_ret
                  exact ⟨rfl, Below.refl _ _⟩
    · have hkl : k = zs.length := by rw [HL.out]; omega
      obtain ⟨e1, e2, e3⟩ := dvs (table_end hk9 HP.out hkl)
      clear hkl HP
      by_cases h9 : k < 9
      · go_wp2
        go_ret
        exact ⟨rfl, Below.refl _ _⟩
      · go_wp2
        go_ret
        exact ⟨rfl, Below.refl _ _⟩

/-! ### the row's step -/
set_option maxRecDepth 100000 in
theorem lifted (os : Os) (started : os.Started) (H : Type) (enc : TypeId × Value → H) :
    ReturnsInHanded {} Ycim.checked os 14 .any (Rows.lawS930001EExactSpec.pre6 enc Ycim.prog Ycim.f14 Rows.lawS930001EExactRow.domain false) (Rows.lawS930001EExactSpec.post enc Ycim.prog Ycim.f14 false true false false) := by
  refine returnsInHanded_of_change (C := Ycim.checked) own started (by kernel_rfl) Ycim.func14
    (ChangeSpec.witness6 (enc := enc) (C := Ycim.checked) false ⟨#[], #[.slice none 0 0], []⟩ 8 (by kernel_rfl) (by kernel_rfl) (by kernel_rfl) (by kernel_rfl)) ?_
  intro W base args ds gs before hval0 hW hcnd _
  have hval : ∀ (j : Nat) t v, Ycim.f14.params[j]? = some t → args[j]? = some v → Value.okWide Ycim.prog W .any base t v := hval0
  have hW' := hW
  obtain ⟨p, q, hA0, hV, rfl, hfz, hnd⟩ := hW
  have hA : DataW.TrodAll enc Ycim.prog W 0 (fun _ => true) true Ycim.f14.params.toList args.toList ds p := hA0
  rw [Ycim.params14] at hA hval
  obtain ⟨v0, vs0, d0, ds0, p0, q0, hargs, rfl, rfl, h0, r0⟩ := trodAll_cons hA
  obtain ⟨rfl, rfl, rfl⟩ := trodAll_nil r0
  obtain rfl : args = #[v0] := by cases args; simp_all
  obtain ⟨rfl, rfl⟩ := trodVars_none hV
  obtain ⟨a0, len0, cap0, rfl⟩ := okWide_slice Ycim.underlying22 (hval 0 22 v0 rfl rfl)
  have k0 := h0
  have lt0 : ∀ x ∈ p0, x.block < W.heap.size := by obtain ⟨m, hm⟩ := k0; exact DataW.trod_lt m _ _ _ hm
  obtain ⟨z0, w0⟩ : ∃ zs, IsRow .u8 W a0 len0 cap0 zs := by
    obtain ⟨fuel, hf⟩ := h0
    rcases open_ints Ycim.underlying22 Ycim.underlying5 (by kernel_rfl) hf with ⟨hcs, _⟩ | ⟨x, l, c, zs, hcs, _, hl, hm, hz, _, hcell, hwz⟩
    · simp [Value.cells] at hcs
      obtain ⟨rfl, rfl, rfl⟩ := hcs
      exact ⟨[], .inl ⟨rfl, rfl, rfl, rfl⟩⟩
    · simp [Value.cells] at hcs
      obtain ⟨rfl, rfl, rfl⟩ := hcs
      exact ⟨zs, .inr ⟨_, rfl, hl, hm, by simpa using hz, hcell, hwz⟩⟩
  clear hA0 hval0
  refine (walk a0 len0 cap0 z0 W w0).mono fun e W' ⟨he, bel⟩ => ?_
  subst he
  exact ⟨_, rfl, _, _, _, [], _, [], hW', trodAll_mk1 (shut_bool Ycim.underlying4 _), (trodAll_cons_mk (Below.trod laidOut (by kernel_rfl) (of_decide_eq_true (by kernel_rfl)) k0 bel lt0) trodAll_mk0), rfl, bel.frame _, fun h => by cases h⟩

theorem over : Rows.lawS930001EExactRow.holds Ycim.pinned (OpenSpec.ofChange Rows.lawS930001EExactSpec) :=
  OpenClaim.holds_of_wide 14 Ycim.f14 rfl rfl rfl rfl rfl rfl rfl ⟨rfl, rfl, rfl, rfl, rfl⟩ rfl rfl rfl rfl rfl (by kernel_rfl) Ycim.func14 (by kernel_rfl)
    (of_decide_eq_true (by kernel_rfl)) (by unfold Func.isWrapper; first | (rw [if_pos (by decide +kernel)]; kernel_rfl) | (rw [if_neg (by decide +kernel)]; exact ⟨rfl, rfl⟩))
    (fun os started H enc _ => lifted os started H enc)

/-- ████ THE STATEMENT ████ -/
theorem proved : Rows.LawS930001EExactSaid := over
#print axioms proved
end Go.Proofs.Ymbrci.lawS930001EExact
