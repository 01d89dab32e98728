/-
  'Rows.LawS930001EShapeSaid': the guide's shell at this function, its walk filled.
-/
import Derived.Test.YmbrcjRows
import Derived.WalkKit
import Derived.ProofKit
import Derived.OpenShut
import Derived.ShutString
import Derived.ChangeOld
import Derived.Below
import Derived.Test.YmbrcjEnc
namespace Go.Proofs.Ymbrcj.lawS930001EShape
open Go.ChangeShapes Go.WideShapes Go.ChangeAt Go.RowKit
open Go.ChangeMaps (open_string shut_string)
set_option linter.unusedVariables false

theorem own : ownKnob Ycjm.prog.godebug = none := by kernel_rfl
theorem laidOut : laidOutB Ycjm.prog = true := by kernel_rfl

/-- WHAT THE WALK IS TOLD OF A SLICE OF INTEGERS THAT CAME IN: it is nil; or it leads to a row of 'cap' cells, the numbers 'zs' (the first 'len' are its elements, the rest its spare room), each fitting its kind. -/
def IsRow (k : IntKind) (w : World) (a : Option Addr) (len cap : Nat) (zs : List Int) : Prop :=
  (a = none ∧ len = 0 ∧ cap = 0 ∧ zs = []) ∨
  ∃ x, a = some x ∧ len ≤ cap ∧ cap ≤ maxLen ∧ zs.length = cap ∧ (∀ i, i < zs.length → w.cell? (x.add i) = some (.int k (zs.getD i 0))) ∧ ∀ n ∈ zs, (Lit.int k n).wf = true

/-- The promising bytes that the law makes of its filling. -/
def pr (fs : List Int) : Nat → List Int
  | 0 => []
  | n + 1 => pr fs n ++ [el fs n % 128 + 128]
theorem pr_len (fs : List Int) : ∀ n, (pr fs n).length = n
  | 0 => rfl
  | n + 1 => by rw [pr, List.length_append, pr_len fs n]; rfl
theorem pr_prom (fs : List Int) : ∀ n, Prom (pr fs n)
  | 0 => Prom.nil
  | n + 1 => (pr_prom fs n).snoc (by omega)
theorem pr_bytes (fs : List Int) : ∀ n, Bytes (pr fs n)
  | 0 => Bytes.nil
  | n + 1 => (pr_bytes fs n).append (Bytes.one (by omega) (by omega))
theorem pr_val (fs : List Int) (n : Nat) : val (pr fs (n + 1)) = val (pr fs n) + el fs n % 128 * 128 ^ n := by
  rw [pr, val_append, pr_len, val_cons, val_nil]
  congr 2
  omega
/-- Sum and place, as long as they count. -/
def Sums (fs : List Int) (n : Nat) (S P : Int) : Prop := n ≤ 9 → S = val (pr fs n) ∧ P = 128 ^ n
theorem p128_le (n : Nat) (h : n ≤ 9) : (128 : Int) ^ n ≤ 9223372036854775808 ∧ 0 < (128 : Int) ^ n := by
  have h1 := p128_le9 h
  have h2 : 0 < (128 : Nat) ^ n := Nat.pow_pos (by omega)
  rw [icast128]
  omega
theorem sums_step {fs : List Int} {n : Nat} {S P : Int} (h : Sums fs n S P) : Sums fs (n + 1) (IntKind.u64.wrap (S + IntKind.u64.wrap (el fs n % 128 * P))) (IntKind.u64.wrap (P * 128)) := by
  intro hn
  obtain ⟨rfl, rfl⟩ := h (by omega)
  have h1 := val_lt (pr fs (n + 1))
  have h2 := val_nonneg (pr fs (n + 1))
  have h3 := val_nonneg (pr fs n)
  have hp := p128_le (n + 1) hn
  have hp' := p128_le n (by omega)
  rw [pr_len] at h1
  have hv := pr_val fs n
  have e1 : (128 : Int) ^ (n + 1) = 128 ^ n * 128 := Int.pow_succ ..
  have h5 : 0 ≤ el fs n % 128 * 128 ^ n := Int.mul_nonneg (by omega) (by omega)
  rw [IntWalk.u64_in (el fs n % 128 * 128 ^ n) ⟨h5, by omega⟩, IntWalk.u64_in _ ⟨by omega, by omega⟩, IntWalk.u64_in _ ⟨by omega, by omega⟩]
  exact ⟨hv.symm, e1.symm⟩
theorem sums_zero {fs : List Int} {n : Nat} {S P : Int} (h : Sums fs n S P) (hz : el fs n = 0) (h0 : 0 ≤ S) (h1 : S ≤ 18446744073709551615) : Sums fs (n + 1) S (IntKind.u64.wrap (P * 128)) := by
  have := sums_step h
  rw [hz] at this
  have e0 : IntKind.u64.wrap (0 % 128 * P) = 0 := by rw [show (0 : Int) % 128 * P = 0 by simp]; exact IntWalk.u64_in _ ⟨by omega, by omega⟩
  rw [e0, IntWalk.u64_in _ ⟨by omega, by omega⟩, Int.add_zero] at this
  exact this
theorem sums_end {fs : List Int} {n : Nat} {S P b : Int} (h : Sums fs n S P) (hn : n ≤ 9) (hb0 : 0 ≤ b) (hb : b < 128) (h9 : n = 9 → b ≤ 1) : IntKind.u64.wrap (S + IntKind.u64.wrap (b * P)) = val (pr fs n ++ [b]) := by
  obtain ⟨rfl, rfl⟩ := h hn
  have h1 := val_bound (ps := pr fs n) (b := b) (by rw [pr_len]; exact hn) hb0 hb (by rw [pr_len]; exact h9)
  have h3 := val_nonneg (pr fs n)
  have hp' := p128_le n hn
  have h5 : 0 ≤ b * 128 ^ n := Int.mul_nonneg hb0 (by omega)
  rw [val_append, val_one hb0 hb, pr_len] at *
  rw [IntWalk.u64_in (b * 128 ^ n) ⟨h5, by omega⟩, IntWalk.u64_in _ ⟨by omega, by omega⟩]
theorem dec_ten (fs : List Int) (r : List Int) : dec (pr fs 10 ++ r) 0 0 = (0, 0, 3) := by
  rw [pr, List.append_assoc]
  exact dec_over' (pr_prom fs 9) (pr_len fs 9) (b := el fs 9 % 128 + 128) (by omega) _

set_option maxHeartbeats 2000000 in
theorem walk (a0 : Option Addr) (len0 cap0 : Nat) (z0 : List Int) (a1 : Int) (a2 : Int) (a3 : Bool) (a4 : Option Addr) (len4 cap4 : Nat) (z4 : List Int) (w : World) (w0 : IsRow .u8 w a0 len0 cap0 z0) (w1 : (Lit.int .u8 a1).wf = true) (w2 : (Lit.int .u8 a2).wf = true) (w4 : IsRow .u8 w a4 len4 cap4 z4) :
    Calls Ycjm.prog 4 #[.slice a0 len0 cap0, .int .u8 a1, .int .u8 a2, .bool a3, .slice a4 len4 cap4] w fun e w' => e = .returned (.bool true) ∧ Below w.heap.size w w' := by
  obtain ⟨fs, hf, hfc, mf, sf, wf, _⟩ := sl_of_row w0
  obtain ⟨ts, ht, htc, mt, st, wt, _⟩ := sl_of_row w4
  clear w0 w4
  have hx1 := u8_bd w1
  have hx2 := u8_bd w2
  clear w1 w2
  by_cases hbig : 1024 < len4
  · go_enter Ycjm.func4, Ycjm.ntmps4
    go_wp2
    go_ret
    exact ⟨rfl, Below.refl _ _⟩
  have SF : Hid (Sl .u8 w a0 fs) := sf
  have HF : Hid (fs.length = len0) := hf
  have BF : Hid (Bytes fs) := bytes_of_wf wf
  have ST : Hid (Sl .u8 w a4 ts) := st
  have HT : Hid (ts.length = len4) := ht
  have BT : Hid (Bytes ts) := bytes_of_wf wt
  have m0 : len0 ≤ 9223372036854775807 := by omega
  clear sf hf wf hfc mf st ht wt htc mt
  obtain ⟨K, hK⟩ : ∃ K : Nat, a1 * 9 % 11 = K := ⟨(a1 * 9 % 11).toNat, by omega⟩
  have hK10 : K ≤ 10 := by omega
  obtain ⟨en, hen⟩ : ∃ en : Int, a2 % 128 = en := ⟨_, rfl⟩
  have hen0 : 0 ≤ en := by omega
  have hen1 : en < 128 := by omega
  have H0 : Hid (∀ g, (Value.slice none 0 0).ownBlock = some g → g < w.heap.size) := fun g hg => by simp [Value.ownBlock] at hg
  go_enter Ycjm.func4, Ycjm.ntmps4
  go_wp2
  rw [hK, hen]
  clear hK hen
  go_loopw [13, 14, 15, 16] (fun d s p i wr => ∃ (q : Nat) (S P : Int), i = .int .i64 q ∧ q ≤ K ∧ s = .int .u64 S ∧ p = .int .u64 P ∧ 0 ≤ S ∧ S ≤ 18446744073709551615 ∧ 0 ≤ P ∧ P ≤ 18446744073709551615 ∧ Ap .u8 5 w.heap.size w (.slice none 0 0) [] wr d (pr fs q) ∧ Sums fs q S P) (fun _ _ _ i _ => K - (intOf i).toNat)
  case atStart => exact ⟨0, 0, 1, rfl, by omega, rfl, rfl, by omega, by omega, by omega, by omega, Ap.start (Owns.nil _ _ _ _), fun _ => ⟨rfl, rfl⟩⟩
  case round =>
    obtain ⟨q, S, P, rfl, hq, rfl, rfl, hS0, hS1, hP0, hP1, hap, hsum⟩ := hrel
    have HA : Hid (Ap .u8 5 w.heap.size w (.slice none 0 0) [] wr _ (pr fs q)) := hap
    have HM : Hid (Sums fs q S P) := hsum
    have hsz : w.heap.size ≤ wr.heap.size := hap.size
    have hpl : Hid ((pr fs q).length = q) := pr_len fs q
    clear hap hsum
    by_cases hlt : q < K
    · by_cases hin : q < len0
      · obtain ⟨b, off, ha, hbl, hc⟩ := SF.out.at (n := q) (by rw [HF.out]; omega)
        subst ha
        have c0 : wr.cell? ⟨b, off + q, none⟩ = some (.int .u8 (el fs q)) := (HA.out.belowNil.cell hbl).trans (hc q (by rw [HF.out]; omega))
        have hbb := BF.out.el q
        clear hc
        go_wp2_with (at_builtin; refine ap8 _ rfl (.tmp 44) (.tmp 47) rfl rfl (HA.out.owns.alloc _) ?c1 _ _ _ [el fs q % 128 + 128] rfl rfl (sl_one _ _ _ _) ?c2 ?c3)
        case c1 => first | omega | (simp; omega)
        case c2 => simp only [List.nil_append, hpl.out]; simp; omega
        case c3 =>
          intro v' w1 hap
          have HB : Hid (Ap .u8 5 w.heap.size w (.slice none 0 0) [] w1 v' (pr fs (q + 1))) := (HA.out.alloc _ H0.out).trans hap H0.out
          clear hap
          go_wp2
          go_roundw
          case rel => exact ⟨q + 1, _, _, by go_num, by omega, rfl, rfl, (wrap_bd _).1, (wrap_bd _).2, (wrap_bd _).1, (wrap_bd _).2, HB.out, sums_step HM.out⟩
          case measure => simp [intOf]; omega
      · have hz : el fs q = 0 := el_ge (by rw [HF.out]; omega)
        have HZ : Hid (el fs q = 0) := hz
        clear hz
        go_wp2_with (at_builtin; refine ap8 _ rfl (.tmp 44) (.tmp 47) rfl rfl (HA.out.owns.alloc _) ?e1 _ _ _ [128] rfl rfl (sl_one _ _ _ _) ?e2 ?e3)
        case e1 => first | omega | (simp; omega)
        case e2 => simp only [List.nil_append, hpl.out]; simp; omega
        case e3 =>
          intro v' w1 hap
          have HB : Hid (Ap .u8 5 w.heap.size w (.slice none 0 0) [] w1 v' (pr fs (q + 1))) := by
            have := (HA.out.alloc _ H0.out).trans hap H0.out
            rw [pr, HZ.out]; exact this
          clear hap
          go_wp2
          go_roundw
          case rel => exact ⟨q + 1, _, _, by go_num, by omega, rfl, rfl, hS0, hS1, (wrap_bd _).1, (wrap_bd _).2, HB.out, sums_zero HM.out HZ.out hS0 hS1⟩
          case measure => simp [intOf]; omega
    · obtain rfl : q = K := by omega
      cases a3 with
      | true =>
        obtain ⟨p, c, hv, hc, mc, sp, _⟩ := HA.out.owns.shape
        rw [List.nil_append, hpl.out] at hv hc
        subst hv
        have S1 : Hid (Sl .u8 wr p (pr fs q)) := sp
        have BL : Hid (Below w.heap.size w wr) := HA.out.belowNil
        clear sp HA
        by_cases h10 : q = 10
        · have hd : dec (pr fs q) 0 0 = (0, 0, 3) := by
            have := dec_ten fs []
            rw [List.append_nil] at this
            rw [h10]; exact this
          have h10' : 10 ≤ q := by omega
          clear h10
          obtain ⟨e1, e2, e3⟩ := dvs hd
          have E1 : Hid (_ ∧ _) := And.intro e1 (And.intro e2 e3)
          clear e1 e2 e3
          go_wp2_with fail
          refine (decode_any p q _ (pr fs q) _ hpl.out (by omega) (pr_bytes fs q) S1.out).mono ?_
          rintro e w9 ⟨rfl, rfl⟩
          rw [E1.out.1, E1.out.2.1, E1.out.2.2]
          go_wp2
          go_ret
          exact ⟨rfl, BL.out⟩
        · have hd : dec (pr fs q) 0 0 = (0, 0, 1) := dec_trunc (pr_prom fs q) (by rw [hpl.out]; omega)
          have h10' : q < 10 := by omega
          clear h10
          obtain ⟨e1, e2, e3⟩ := dvs hd
          have E1 : Hid (_ ∧ _) := And.intro e1 (And.intro e2 e3)
          clear e1 e2 e3
          go_wp2_with fail
          refine (decode_any p q _ (pr fs q) _ hpl.out (by omega) (pr_bytes fs q) S1.out).mono ?_
          rintro e w9 ⟨rfl, rfl⟩
          rw [E1.out.1, E1.out.2.1, E1.out.2.2]
          go_wp2
          go_ret
          exact ⟨rfl, BL.out⟩
      | false =>
        go_wp2_with (at_builtin; refine ap8 _ rfl (.tmp 59) (.tmp 61) rfl rfl (HA.out.owns.alloc _) ?f1 _ _ _ [en] rfl rfl (sl_one _ _ _ _) ?f2 ?f3)
        case f1 => first | omega | (simp; omega)
        case f2 => simp only [List.nil_append, hpl.out]; simp; omega
        case f3 =>
        intro v1 w1 hap
        have HB : Hid (Ap .u8 5 w.heap.size w (.slice none 0 0) [] w1 v1 (pr fs q ++ [en])) := (HA.out.alloc _ H0.out).trans hap H0.out
        have T1 : Hid (Sl .u8 w1 a4 ts) := ST.out.later HB.out.belowNil (Nat.le_refl _)
        have hsz1 : w.heap.size ≤ w1.heap.size := HB.out.size
        clear hap HA hsz
        go_wp2_with (at_builtin; refine ap8 _ rfl (.tmp 63) (.tmp 64) rfl rfl HB.out.owns hsz1 _ _ _ ts rfl HT.out.symm T1.out ?g2 ?g3)
        case g2 => simp only [List.nil_append, List.length_append, hpl.out, HT.out]; simp; omega
        case g3 =>
        intro v2 w2 hap
        have HC : Hid (Ap .u8 5 w.heap.size w (.slice none 0 0) [] w2 v2 (pr fs q ++ [en] ++ ts)) := HB.out.trans hap H0.out
        clear hap HB T1
        have hlen : (pr fs q ++ en :: ts).length = q + 1 + len4 := by rw [List.length_append, List.length_cons, hpl.out, HT.out]; omega
        obtain ⟨p, c, hv, hc, mc, sp, _⟩ := HC.out.owns.shape
        have eL : ([] : List Int) ++ (pr fs q ++ [en] ++ ts) = pr fs q ++ en :: ts := by simp
        rw [eL] at hv hc sp
        rw [hlen] at hv hc
        subst hv
        have HN : Hid ((pr fs q ++ en :: ts).length = q + 1 + len4) := hlen
        have S1 : Hid (Sl .u8 w2 p (pr fs q ++ en :: ts)) := sp
        have BL : Hid (Below w.heap.size w w2) := HC.out.belowNil
        have BY : Hid (Bytes (pr fs q ++ en :: ts)) := by
          have := ((pr_bytes fs q).append (Bytes.one hen0 (by omega))).append BT.out
          show Bytes _
          rwa [List.append_assoc] at this
        clear sp HC eL hlen
        by_cases h10 : q = 10
        · have hd : dec (pr fs q ++ en :: ts) 0 0 = (0, 0, 3) := by rw [h10]; exact dec_ten fs _
          have h10' : 10 ≤ q := by omega
          clear h10
          obtain ⟨e1, e2, e3⟩ := dvs hd
          have E1 : Hid (_ ∧ _) := And.intro e1 (And.intro e2 e3)
          clear e1 e2 e3
          go_wp2_with fail
          refine (decode_any p (q + 1 + len4) _ (pr fs q ++ en :: ts) _ HN.out (by omega) BY.out S1.out).mono ?_
          rintro e w9 ⟨rfl, rfl⟩
          rw [E1.out.1, E1.out.2.1, E1.out.2.2]
          go_wp2
          go_ret
          exact ⟨rfl, BL.out⟩
        have h10' : q < 10 := by omega
        clear h10
        by_cases h9 : q = 9 ∧ 1 < en
        · obtain ⟨h9, hen⟩ := h9
          have hd : dec (pr fs q ++ en :: ts) 0 0 = (0, 0, 3) := dec_over' (pr_prom fs q) (by rw [hpl.out]; exact h9) hen ts
          have h9' : 9 ≤ q := by omega
          clear h9
          obtain ⟨e1, e2, e3⟩ := dvs hd
          have E1 : Hid (_ ∧ _) := And.intro e1 (And.intro e2 e3)
          clear e1 e2 e3
          go_wp2_with fail
          refine (decode_any p (q + 1 + len4) _ (pr fs q ++ en :: ts) _ HN.out (by omega) BY.out S1.out).mono ?_
          rintro e w9 ⟨rfl, rfl⟩
          rw [E1.out.1, E1.out.2.1, E1.out.2.2]
          go_wp2
          go_ret
          exact ⟨rfl, BL.out⟩
        by_cases h0 : 0 < q ∧ en = 0
        · obtain ⟨h0, hen⟩ := h0
          subst hen
          have hd : dec (pr fs q ++ 0 :: ts) 0 0 = (0, 0, 2) := dec_long' (pr_prom fs q) (by rw [hpl.out]; omega) (by rw [hpl.out]; exact h0) ts
          by_cases h99 : 9 ≤ q
          · clear h9
            obtain ⟨e1, e2, e3⟩ := dvs hd
            have E1 : Hid (_ ∧ _) := And.intro e1 (And.intro e2 e3)
            clear e1 e2 e3
            go_wp2_with fail
            refine (decode_any p (q + 1 + len4) _ (pr fs q ++ 0 :: ts) _ HN.out (by omega) BY.out S1.out).mono ?_
            rintro e w9 ⟨rfl, rfl⟩
            rw [E1.out.1, E1.out.2.1, E1.out.2.2]
            go_wp2
            go_ret
            exact ⟨rfl, BL.out⟩
          · clear h9
            obtain ⟨e1, e2, e3⟩ := dvs hd
            have E1 : Hid (_ ∧ _) := And.intro e1 (And.intro e2 e3)
            clear e1 e2 e3
            go_wp2_with fail
            refine (decode_any p (q + 1 + len4) _ (pr fs q ++ 0 :: ts) _ HN.out (by omega) BY.out S1.out).mono ?_
            rintro e w9 ⟨rfl, rfl⟩
            rw [E1.out.1, E1.out.2.1, E1.out.2.2]
            go_wp2
            go_ret
            exact ⟨rfl, BL.out⟩
        have hd : dec (pr fs q ++ en :: ts) 0 0 = (val (pr fs q ++ [en]), (q : Int) + 1, 0) := by
          have := dec_ok (pr_prom fs q) (by rw [hpl.out]; omega) hen0 hen1 (by rw [hpl.out]; omega) (by rw [hpl.out]; omega) ts
          rwa [hpl.out] at this
        have HV : Hid (IntKind.u64.wrap (S + IntKind.u64.wrap (en * P)) = val (pr fs q ++ [en])) := sums_end HM.out (by omega) hen0 hen1 (by omega)
        by_cases h99 : 9 ≤ q
        · have hen' : ¬ 1 < en := by omega
          have hen'' : ¬ en = 0 := by omega
          clear h9 h0
          obtain ⟨e1, e2, e3⟩ := dvs hd
          have E1 : Hid (_ ∧ _) := And.intro e1 (And.intro e2 e3)
          clear e1 e2 e3
          go_wp2_with fail
          refine (decode_any p (q + 1 + len4) _ (pr fs q ++ en :: ts) _ HN.out (by omega) BY.out S1.out).mono ?_
          rintro e w9 ⟨rfl, rfl⟩
          rw [E1.out.1, E1.out.2.1, E1.out.2.2]
          have hv := HV.out
          go_wp2
          go_ret
          exact ⟨ret_bool (by simp), BL.out⟩
        · by_cases h00 : 0 < q
          · have hen'' : ¬ en = 0 := by omega
            clear h9 h0
            obtain ⟨e1, e2, e3⟩ := dvs hd
            have E1 : Hid (_ ∧ _) := And.intro e1 (And.intro e2 e3)
            clear e1 e2 e3
            go_wp2_with fail
            refine (decode_any p (q + 1 + len4) _ (pr fs q ++ en :: ts) _ HN.out (by omega) BY.out S1.out).mono ?_
            rintro e w9 ⟨rfl, rfl⟩
            rw [E1.out.1, E1.out.2.1, E1.out.2.2]
            have hv := HV.out
            go_wp2
            go_ret
            exact ⟨ret_bool (by simp), BL.out⟩
          · clear h9 h0
            obtain ⟨e1, e2, e3⟩ := dvs hd
            have E1 : Hid (_ ∧ _) := And.intro e1 (And.intro e2 e3)
            clear e1 e2 e3
            go_wp2_with fail
            refine (decode_any p (q + 1 + len4) _ (pr fs q ++ en :: ts) _ HN.out (by omega) BY.out S1.out).mono ?_
            rintro e w9 ⟨rfl, rfl⟩
            rw [E1.out.1, E1.out.2.1, E1.out.2.2]
            have hv := HV.out
            go_wp2
            go_ret
            exact ⟨ret_bool (by simp), BL.out⟩

/-! ### the row's step -/
set_option maxRecDepth 100000 in
theorem lifted (os : Os) (started : os.Started) (H : Type) (enc : TypeId × Value → H) :
    ReturnsInHanded {} Ycjm.checked os 4 .any (Rows.lawS930001EShapeSpec.pre6 enc Ycjm.prog Ycjm.f4 Rows.lawS930001EShapeRow.domain false) (Rows.lawS930001EShapeSpec.post enc Ycjm.prog Ycjm.f4 false true false false) := by
  refine returnsInHanded_of_change (C := Ycjm.checked) own started (by kernel_rfl) Ycjm.func4
    (ChangeSpec.witness6 (enc := enc) (C := Ycjm.checked) false ⟨#[], #[.slice none 0 0, .int .u8 0, .int .u8 0, .bool false, .slice none 0 0], []⟩ 8 (by kernel_rfl) (by kernel_rfl) (by kernel_rfl) (by kernel_rfl)) ?_
  intro W base args ds gs before hval0 hW hcnd _
  have hval : ∀ (j : Nat) t v, Ycjm.f4.params[j]? = some t → args[j]? = some v → Value.okWide Ycjm.prog W .any base t v := hval0
  have hW' := hW
  obtain ⟨p, q, hA0, hV, rfl, hfz, hnd⟩ := hW
  have hA : DataW.TrodAll enc Ycjm.prog W 0 (fun _ => true) true Ycjm.f4.params.toList args.toList ds p := hA0
  rw [Ycjm.params4] at hA hval
  obtain ⟨v0, vs0, d0, ds0, p0, q0, hargs, rfl, rfl, h0, r0⟩ := trodAll_cons hA
  obtain ⟨v1, vs1, d1, ds1, p1, q1, rfl, rfl, rfl, h1, r1⟩ := trodAll_cons r0
  obtain ⟨v2, vs2, d2, ds2, p2, q2, rfl, rfl, rfl, h2, r2⟩ := trodAll_cons r1
  obtain ⟨v3, vs3, d3, ds3, p3, q3, rfl, rfl, rfl, h3, r3⟩ := trodAll_cons r2
  obtain ⟨v4, vs4, d4, ds4, p4, q4, rfl, rfl, rfl, h4, r4⟩ := trodAll_cons r3
  obtain ⟨rfl, rfl, rfl⟩ := trodAll_nil r4
  obtain rfl : args = #[v0, v1, v2, v3, v4] := by cases args; simp_all
  obtain ⟨rfl, rfl⟩ := trodVars_none hV
  obtain ⟨a0, len0, cap0, rfl⟩ := okWide_slice Ycjm.underlying23 (hval 0 23 v0 rfl rfl)
  have k0 := h0
  have lt0 : ∀ x ∈ p0, x.block < W.heap.size := by obtain ⟨m, hm⟩ := k0; exact DataW.trod_lt m _ _ _ hm
  obtain ⟨z0, w0⟩ : ∃ zs, IsRow .u8 W a0 len0 cap0 zs := by
    obtain ⟨fuel, hf⟩ := h0
    rcases open_ints Ycjm.underlying23 Ycjm.underlying5 (by kernel_rfl) hf with ⟨hcs, _⟩ | ⟨x, l, c, zs, hcs, _, hl, hm, hz, _, hcell, hwz⟩
    · simp [Value.cells] at hcs
      obtain ⟨rfl, rfl, rfl⟩ := hcs
      exact ⟨[], .inl ⟨rfl, rfl, rfl, rfl⟩⟩
    · simp [Value.cells] at hcs
      obtain ⟨rfl, rfl, rfl⟩ := hcs
      exact ⟨zs, .inr ⟨_, rfl, hl, hm, by simpa using hz, hcell, hwz⟩⟩
  obtain ⟨a1, rfl, rfl, rfl, w1⟩ := open_int Ycjm.underlying5 (hval 1 5 v1 rfl rfl) h1
  obtain ⟨a2, rfl, rfl, rfl, w2⟩ := open_int Ycjm.underlying5 (hval 2 5 v2 rfl rfl) h2
  obtain ⟨a3, rfl, rfl, rfl⟩ := open_bool Ycjm.underlying4 (hval 3 4 v3 rfl rfl) h3
  obtain ⟨a4, len4, cap4, rfl⟩ := okWide_slice Ycjm.underlying23 (hval 4 23 v4 rfl rfl)
  have k4 := h4
  have lt4 : ∀ x ∈ p4, x.block < W.heap.size := by obtain ⟨m, hm⟩ := k4; exact DataW.trod_lt m _ _ _ hm
  obtain ⟨z4, w4⟩ : ∃ zs, IsRow .u8 W a4 len4 cap4 zs := by
    obtain ⟨fuel, hf⟩ := h4
    rcases open_ints Ycjm.underlying23 Ycjm.underlying5 (by kernel_rfl) hf with ⟨hcs, _⟩ | ⟨x, l, c, zs, hcs, _, hl, hm, hz, _, hcell, hwz⟩
    · simp [Value.cells] at hcs
      obtain ⟨rfl, rfl, rfl⟩ := hcs
      exact ⟨[], .inl ⟨rfl, rfl, rfl, rfl⟩⟩
    · simp [Value.cells] at hcs
      obtain ⟨rfl, rfl, rfl⟩ := hcs
      exact ⟨zs, .inr ⟨_, rfl, hl, hm, by simpa using hz, hcell, hwz⟩⟩
  clear hA0 hval0
  refine (walk a0 len0 cap0 z0 a1 a2 a3 a4 len4 cap4 z4 W w0 w1 w2 w4).mono fun e W' ⟨he, bel⟩ => ?_
  subst he
  exact ⟨_, rfl, _, _, _, [], _, [], hW', trodAll_mk1 (shut_bool Ycjm.underlying4 _), (trodAll_cons_mk (Below.trod laidOut (by kernel_rfl) (of_decide_eq_true (by kernel_rfl)) k0 bel lt0) (trodAll_cons_mk (shut_int Ycjm.underlying5 w1) (trodAll_cons_mk (shut_int Ycjm.underlying5 w2) (trodAll_cons_mk (shut_bool Ycjm.underlying4 _) (trodAll_cons_mk (Below.trod laidOut (by kernel_rfl) (of_decide_eq_true (by kernel_rfl)) k4 bel lt4) trodAll_mk0))))), rfl, bel.frame _, fun h => by cases h⟩

theorem over : Rows.lawS930001EShapeRow.holds Ycjm.pinned (OpenSpec.ofChange Rows.lawS930001EShapeSpec) :=
  OpenClaim.holds_of_wide 4 Ycjm.f4 rfl rfl rfl rfl rfl rfl rfl ⟨rfl, rfl, rfl, rfl, rfl⟩ rfl rfl rfl rfl rfl (by kernel_rfl) Ycjm.func4 (by kernel_rfl)
    (of_decide_eq_true (by kernel_rfl)) (by unfold Func.isWrapper; first | (rw [if_pos (by decide +kernel)]; kernel_rfl) | (rw [if_neg (by decide +kernel)]; exact ⟨rfl, rfl⟩))
    (fun os started H enc _ => lifted os started H enc)

/-- ████ THE STATEMENT ████ -/
theorem proved : Rows.LawS930001EShapeSaid := over
#print axioms proved
end Go.Proofs.Ymbrcj.lawS930001EShape
