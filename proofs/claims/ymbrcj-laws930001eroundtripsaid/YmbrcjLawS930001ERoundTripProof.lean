/-
  'Rows.LawS930001ERoundTripSaid': the guide's shell at this function, its walk filled.
-/
import Derived.Test.YmbrcjRows
import Derived.WalkKit
import Derived.ProofKit
import Derived.OpenShut
import Derived.ShutString
import Derived.ChangeOld
import Derived.Below
import Derived.Test.YmbrcjEnc
namespace Go.Proofs.Ymbrcj.lawS930001ERoundTrip
open Go.ChangeShapes Go.WideShapes Go.ChangeAt Go.RowKit
open Go.ChangeMaps (open_string shut_string)
set_option linter.unusedVariables false

theorem own : ownKnob Ycjm.prog.godebug = none := by kernel_rfl
theorem laidOut : laidOutB Ycjm.prog = true := by kernel_rfl

/-- WHAT THE WALK IS TOLD OF A SLICE OF INTEGERS THAT CAME IN: it is nil; or it leads to a row of 'cap' cells, the numbers 'zs' (the first 'len' are its elements, the rest its spare room), each fitting its kind. -/
def IsRow (k : IntKind) (w : World) (a : Option Addr) (len cap : Nat) (zs : List Int) : Prop :=
  (a = none ∧ len = 0 ∧ cap = 0 ∧ zs = []) ∨
  ∃ x, a = some x ∧ len ≤ cap ∧ cap ≤ maxLen ∧ zs.length = cap ∧ (∀ i, i < zs.length → w.cell? (x.add i) = some (.int k (zs.getD i 0))) ∧ ∀ n ∈ zs, (Lit.int k n).wf = true



set_option maxHeartbeats 1000000 in
theorem walk (a0 : Int) (a1 : Int) (a2 : Option Addr) (len2 cap2 : Nat) (z2 : List Int) (w : World) (w0 : (Lit.int .u64 a0).wf = true) (w1 : (Lit.int .u8 a1).wf = true) (w2 : IsRow .u8 w a2 len2 cap2 z2) :
    Calls Ycjm.prog 3 #[.int .u64 a0, .int .u8 a1, .slice a2 len2 cap2] w fun e w' => e = .returned (.bool true) ∧ Below w.heap.size w w' := by
  obtain ⟨ts, ht, htc, mt, st, wt, _⟩ := sl_of_row w2
  clear w2
  have hx0 := u64_bd w0
  have hx1 := u8_bd w1
  have hb := wrap_bd (a0 * 2 ^ (a1 % 64).toNat)
  clear w0 w1
  by_cases hbig : 1024 < len2
  · go_enter Ycjm.func3, Ycjm.ntmps3
    go_wp2
    go_ret
    exact ⟨rfl, Below.refl _ _⟩
  obtain ⟨x, hx⟩ : ∃ x, x = IntKind.u64.wrap (a0 * 2 ^ (a1 % 64).toNat) := ⟨_, rfl⟩
  rw [← hx] at hb
  have hx' := hx.symm
  clear hx
  have ST : Hid (Sl .u8 w a2 ts) := st
  have HT : Hid (ts.length = len2) := ht
  have BT : Hid (Bytes ts) := bytes_of_wf wt
  have hl := E_len x
  have BE : Hid (Bytes (E x)) := E_bytes hb.1 hb.2
  have HP : Hid (∀ k, k < (E x).length → dec ((E x).take k) 0 0 = (0, 0, 1)) := fun k hk => dec_E_pre hb.1 hb.2 hk
  have HD : Hid (dec (E x ++ ts) 0 0 = (x, ((E x).length : Int), 0)) := dec_E hb.1 hb.2 ts
  clear st ht wt htc mt
  go_enter Ycjm.func3, Ycjm.ntmps3
  go_wp2_with fail
  refine (eencode_any x w hb.1 hb.2).mono ?_
  rintro e w1 ⟨v1, rfl, ho1, hb1⟩
  obtain ⟨p, c, hv, hc, mc, sp, _⟩ := ho1.shape
  subst hv
  have O1 : Hid (Owns .u8 5 w.heap.size w1 (.slice p (E x).length c) (E x)) := ho1
  have S1 : Hid (Sl .u8 w1 p (E x)) := sp
  have T1 : Hid (Sl .u8 w1 a2 ts) := ST.out.later hb1 (Nat.le_refl _)
  have B1 : Hid (Below w.heap.size w w1) := hb1
  have hsz : w.heap.size ≤ w1.heap.size := hb1.size
  clear ho1 sp ST hb1
  go_wp2
  go_loop [10] (fun i => ∃ k : Nat, i = .int .i64 k ∧ k ≤ (E x).length) (fun i => (E x).length - (intOf i).toNat)
  case atStart => exact ⟨0, rfl, by omega⟩
  case round =>
    obtain ⟨k, rfl, hk⟩ := hrel
    by_cases hlt : k < (E x).length
    · have s0 := run_pre Ycjm.underlying23 size8 p (E x).length c k (by omega)
      have HK : Hid (((E x).take k).length = k) := by show _ = _; rw [List.length_take]; omega
      obtain ⟨e1, e2, e3⟩ := dvs (HP.out k hlt)
      have E1 : Hid (_ ∧ _) := And.intro e1 (And.intro e2 e3)
      clear e1 e2 e3
      go_wp2_with fail
      refine (decode_any p k c ((E x).take k) w1 HK.out (by omega) (BE.out.take k) (S1.out.pre k)).mono ?_
      rintro e w2 ⟨rfl, rfl⟩
      rw [E1.out.1, E1.out.2.1, E1.out.2.2]
      go_wp2
      go_round
      case rel => exact ⟨k + 1, by go_num, by omega⟩
      case measure => simp [intOf]; omega
    · obtain rfl : k = (E x).length := by omega
      go_wp2_with (at_builtin; refine ap8 _ rfl (.tmp 52) (.tmp 53) rfl rfl O1.out hsz _ _ _ ts rfl HT.out.symm T1.out ?c2 ?c3)
      case c2 => rw [HT.out]; omega
      case c3 =>
        intro v' w2 hap
        obtain ⟨p', c', hv, hc', mc', sp', _⟩ := hap.owns.shape
        have hn : (E x ++ ts).length = (E x).length + len2 := by rw [List.length_append, HT.out]
        rw [hn] at hv hc'
        have HN : Hid ((E x ++ ts).length = (E x).length + len2) := hn
        clear hn
        subst hv
        have S2 : Hid (Sl .u8 w2 p' (E x ++ ts)) := sp'
        have B2 : Hid (Below w.heap.size w w2) := B1.out.trans (hap.below O1.out hsz)
        clear hap sp' O1 S1 T1 B1
        obtain ⟨e1, e2, e3⟩ := dvs HD.out
        have E1 : Hid (_ ∧ _) := And.intro e1 (And.intro e2 e3)
        clear e1 e2 e3
        go_wp2_with fail
        refine (decode_any p' ((E x).length + len2) c' (E x ++ ts) w2 HN.out (by omega) (BE.out.append BT.out) S2.out).mono ?_
        rintro e w3 ⟨rfl, rfl⟩
        rw [E1.out.1, E1.out.2.1, E1.out.2.2]
        go_wp2
        go_ret
        exact ⟨ret_bool (by simp), B2.out⟩

/-! ### the row's step -/
set_option maxRecDepth 100000 in
theorem lifted (os : Os) (started : os.Started) (H : Type) (enc : TypeId × Value → H) :
    ReturnsInHanded {} Ycjm.checked os 3 .any (Rows.lawS930001ERoundTripSpec.pre6 enc Ycjm.prog Ycjm.f3 Rows.lawS930001ERoundTripRow.domain false) (Rows.lawS930001ERoundTripSpec.post enc Ycjm.prog Ycjm.f3 false true false false) := by
  refine returnsInHanded_of_change (C := Ycjm.checked) own started (by kernel_rfl) Ycjm.func3
    (ChangeSpec.witness6 (enc := enc) (C := Ycjm.checked) false ⟨#[], #[.int .u64 0, .int .u8 0, .slice none 0 0], []⟩ 8 (by kernel_rfl) (by kernel_rfl) (by kernel_rfl) (by kernel_rfl)) ?_
  intro W base args ds gs before hval0 hW hcnd _
  have hval : ∀ (j : Nat) t v, Ycjm.f3.params[j]? = some t → args[j]? = some v → Value.okWide Ycjm.prog W .any base t v := hval0
  have hW' := hW
  obtain ⟨p, q, hA0, hV, rfl, hfz, hnd⟩ := hW
  have hA : DataW.TrodAll enc Ycjm.prog W 0 (fun _ => true) true Ycjm.f3.params.toList args.toList ds p := hA0
  rw [Ycjm.params3] at hA hval
  obtain ⟨v0, vs0, d0, ds0, p0, q0, hargs, rfl, rfl, h0, r0⟩ := trodAll_cons hA
  obtain ⟨v1, vs1, d1, ds1, p1, q1, rfl, rfl, rfl, h1, r1⟩ := trodAll_cons r0
  obtain ⟨v2, vs2, d2, ds2, p2, q2, rfl, rfl, rfl, h2, r2⟩ := trodAll_cons r1
  obtain ⟨rfl, rfl, rfl⟩ := trodAll_nil r2
  obtain rfl : args = #[v0, v1, v2] := by cases args; simp_all
  obtain ⟨rfl, rfl⟩ := trodVars_none hV
  obtain ⟨a0, rfl, rfl, rfl, w0⟩ := open_int Ycjm.underlying22 (hval 0 22 v0 rfl rfl) h0
  obtain ⟨a1, rfl, rfl, rfl, w1⟩ := open_int Ycjm.underlying5 (hval 1 5 v1 rfl rfl) h1
  obtain ⟨a2, len2, cap2, rfl⟩ := okWide_slice Ycjm.underlying23 (hval 2 23 v2 rfl rfl)
  have k2 := h2
  have lt2 : ∀ x ∈ p2, x.block < W.heap.size := by obtain ⟨m, hm⟩ := k2; exact DataW.trod_lt m _ _ _ hm
  obtain ⟨z2, w2⟩ : ∃ zs, IsRow .u8 W a2 len2 cap2 zs := by
    obtain ⟨fuel, hf⟩ := h2
    rcases open_ints Ycjm.underlying23 Ycjm.underlying5 (by kernel_rfl) hf with ⟨hcs, _⟩ | ⟨x, l, c, zs, hcs, _, hl, hm, hz, _, hcell, hwz⟩
    · simp [Value.cells] at hcs
      obtain ⟨rfl, rfl, rfl⟩ := hcs
      exact ⟨[], .inl ⟨rfl, rfl, rfl, rfl⟩⟩
    · simp [Value.cells] at hcs
      obtain ⟨rfl, rfl, rfl⟩ := hcs
      exact ⟨zs, .inr ⟨_, rfl, hl, hm, by simpa using hz, hcell, hwz⟩⟩
  clear hA0 hval0
  refine (walk a0 a1 a2 len2 cap2 z2 W w0 w1 w2).mono fun e W' ⟨he, bel⟩ => ?_
  subst he
  exact ⟨_, rfl, _, _, _, [], _, [], hW', trodAll_mk1 (shut_bool Ycjm.underlying4 _), (trodAll_cons_mk (shut_int Ycjm.underlying22 w0) (trodAll_cons_mk (shut_int Ycjm.underlying5 w1) (trodAll_cons_mk (Below.trod laidOut (by kernel_rfl) (of_decide_eq_true (by kernel_rfl)) k2 bel lt2) trodAll_mk0))), rfl, bel.frame _, fun h => by cases h⟩

theorem over : Rows.lawS930001ERoundTripRow.holds Ycjm.pinned (OpenSpec.ofChange Rows.lawS930001ERoundTripSpec) :=
  OpenClaim.holds_of_wide 3 Ycjm.f3 rfl rfl rfl rfl rfl rfl rfl ⟨rfl, rfl, rfl, rfl, rfl⟩ rfl rfl rfl rfl rfl (by kernel_rfl) Ycjm.func3 (by kernel_rfl)
    (of_decide_eq_true (by kernel_rfl)) (by unfold Func.isWrapper; first | (rw [if_pos (by decide +kernel)]; kernel_rfl) | (rw [if_neg (by decide +kernel)]; exact ⟨rfl, rfl⟩))
    (fun os started H enc _ => lifted os started H enc)

/-- ████ THE STATEMENT ████ -/
theorem proved : Rows.LawS930001ERoundTripSaid := over
#print axioms proved
end Go.Proofs.Ymbrcj.lawS930001ERoundTrip
