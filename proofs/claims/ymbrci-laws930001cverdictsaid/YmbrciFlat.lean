/-
  A list of values, one behind the other ('flat'); AppendAll; the comparison zzs930001deq.
-/
import Derived.Test.YmbrciApp
namespace Go.Proofs.Ymbrci
open Go.RowKit

def flat (xs : List Int) : List Int := xs.flatMap E
theorem flat_nil : flat [] = [] := rfl
theorem flat_cons (x : Int) (xs : List Int) : flat (x :: xs) = E x ++ flat xs := by simp [flat]
theorem flat_append (xs ys : List Int) : flat (xs ++ ys) = flat xs ++ flat ys := by simp [flat]
theorem flat_snoc (xs : List Int) (x : Int) : flat (xs ++ [x]) = flat xs ++ E x := by simp [flat]
theorem flat_len : ∀ xs : List Int, xs.length ≤ (flat xs).length ∧ (flat xs).length ≤ 10 * xs.length
  | [] => by simp [flat]
  | x :: xs => by
    have h1 := flat_len xs
    have h2 := E_len x
    rw [flat_cons, List.length_append, List.length_cons]; omega
theorem flat_bytes {xs : List Int} (h : Words xs) : Bytes (flat xs) := by
  intro y hy
  obtain ⟨x, hx, hy'⟩ := List.mem_flatMap.1 hy
  exact E_bytes (h x hx).1 (h x hx).2 y hy'
theorem flat_take_succ {xs : List Int} {q : Nat} (h : q < xs.length) : flat (xs.take (q + 1)) = flat (xs.take q) ++ E (el xs q) := by
  rw [take_succ_el h, flat_snoc]
theorem flat_take_len (xs : List Int) (q : Nat) : (flat (xs.take q)).length ≤ 10 * q := by
  have h := (flat_len (xs.take q)).2
  rw [List.length_take] at h; omega

/-- A slice in another block is untouched by appends. -/
theorem Ap.sl {k k' : IntKind} {e : TypeId} {base : Nat} {w0 w : World} {v0 v : Value} {xs ks zs : List Int} {a : Option Addr} (h : Ap k e base w0 v0 xs w v ks) (hs : Sl k' w0 a zs) (hne : 0 < zs.length → ∀ b off, a = some ⟨b, off, none⟩ → v0.ownBlock ≠ some b) : Sl k' w a zs := by
  by_cases hz : 0 < zs.length
  · obtain ⟨b, off, ha, hlt, hc⟩ := hs.at hz
    exact .inr ⟨b, off, ha, fun i hi => (World.cell?_of_block (w := w0) (h.block b hlt fun e1 => hne hz b off ha e1.symm)).trans (hc i hi)⟩
  · exact .inl (List.eq_nil_of_length_eq_zero (by omega))

/-- What is the call's own lies in no block that was there before. -/
theorem Owns.notOld {k k' : IntKind} {e : TypeId} {w w1 : World} {v : Value} {ds zs : List Int} {a : Option Addr} (h : Owns k e w.heap.size w1 v ds) (hs : Sl k' w a zs) : 0 < zs.length → ∀ b off, a = some ⟨b, off, none⟩ → v.ownBlock ≠ some b := fun hz b off ha e1 => by
  obtain ⟨b', off', ha', hlt, _⟩ := hs.at hz
  rw [ha] at ha'
  simp at ha'
  have := (h.lt b e1).1
  omega

set_option maxHeartbeats 2000000 in
theorem appendAll_any (v : Value) (ds : List Int) (a : Option Addr) (n c : Nat) (xs : List Int) (w : World) (base : Nat) (hn : xs.length = n) (mn : n ≤ 1000000000) (hw : Words xs) (hown : Owns .u8 5 base w v ds) (hb : base ≤ w.heap.size) (hbd : ds.length ≤ 1000000000) (hs : Sl .u64 w a xs) (hne : 0 < xs.length → ∀ b off, a = some ⟨b, off, none⟩ → v.ownBlock ≠ some b) :
    Calls Ycim.prog 27 #[v, .slice a n c] w fun e w' => ∃ v', e = .returned v' ∧ Ap .u8 5 base w v ds w' v' (flat xs) := by
  have HO : Hid (Owns .u8 5 base w v ds) := hown
  have HN : Hid (xs.length = n) := hn
  have HS : Hid (Sl .u64 w a xs) := hs
  have HW : Hid (Words xs) := hw
  have HNE : Hid (0 < xs.length → ∀ b off, a = some ⟨b, off, none⟩ → v.ownBlock ≠ some b) := hne
  clear hown hn hs hw hne
  go_enter Ycim.func27, Ycim.ntmps27
  go_wp2
  go_loopw [0, 9] (fun d i wr => ∃ q : Nat, i = .int .i64 q ∧ q ≤ n ∧ Ap .u8 5 base w v ds wr d (flat (xs.take q))) (fun _ i _ => n - (intOf i).toNat)
  case atStart => exact ⟨0, rfl, by omega, Ap.start HO.out⟩
  case round =>
    obtain ⟨q, rfl, hq, hap⟩ := hrel
    have HA : Hid (Ap .u8 5 base w v ds wr _ (flat (xs.take q))) := hap
    have hsz : base ≤ wr.heap.size := Nat.le_trans hb hap.size
    clear hap
    by_cases hlt : q < n
    · have SX := HA.out.sl HS.out HNE.out
      obtain ⟨ba, oa, ea, _, hca⟩ := SX.at (n := q) (by rw [HN.out]; omega)
      subst ea
      have k1 : wr.cell? ⟨ba, oa + q, none⟩ = some (.int .u64 (el xs q)) := hca q (by rw [HN.out]; omega)
      have hx := HW.out.el q
      clear hca SX
      go_wp2_with fail
      have hl := flat_take_len xs q
      refine (append_any _ (ds ++ flat (xs.take q)) (el xs q) wr base hx.1 hx.2 HA.out.owns hsz (by rw [List.length_append]; omega)).mono ?_
      clear hl
      rintro e w2 ⟨v2, rfl, hap⟩
      have HB : Hid (Ap .u8 5 base w v ds w2 v2 (flat (xs.take (q + 1)))) := by
        have := HA.out.trans hap fun g hg => (HO.out.lt g hg).2
        rwa [← flat_take_succ (by rw [HN.out]; exact hlt)] at this
      clear hap HA k1
      go_wp2
      go_roundw
      case rel => exact ⟨q + 1, by go_num, by omega, HB.out⟩
      case measure => simp [intOf]; omega
    · obtain rfl : q = n := by omega
      go_wp2
      go_ret
      exact ⟨_, rfl, by have := HA.out; rwa [List.take_of_length_le (by rw [HN.out]; exact Nat.le_refl _)] at this⟩

/-! ### the same bytes -/
def sameB (xs ys : List Int) : Bool := decide (xs = ys)
theorem sameB_false {xs ys : List Int} (h : xs ≠ ys) : sameB xs ys = false := decide_eq_false h
theorem sameB_true {xs ys : List Int} (h : xs = ys) : sameB xs ys = true := decide_eq_true h
set_option maxHeartbeats 1000000 in
theorem deq_any (a b : Option Addr) (la lb ca cb : Nat) (xs ys : List Int) (w : World) (hx : xs.length = la) (hy : ys.length = lb) (ma : la ≤ 9223372036854775807) (mb : lb ≤ 9223372036854775807) (sx : Sl .u8 w a xs) (sy : Sl .u8 w b ys) :
    Calls Ycim.prog 29 #[.slice a la ca, .slice b lb cb] w fun e w' => e = .returned (.bool (sameB xs ys)) ∧ ∃ n, w' = w.drewN n := by
  have SX : Hid (Sl .u8 w a xs) := sx
  have SY : Hid (Sl .u8 w b ys) := sy
  have HX : Hid (xs.length = la) := hx
  have HY : Hid (ys.length = lb) := hy
  clear sx sy hx hy
  by_cases h1 : la = lb
  · subst h1
    go_enter Ycim.func29, Ycim.ntmps29
    go_wp2
    go_loopw [5] (fun i wr => ∃ (m n : Nat), i = .int .i64 m ∧ m ≤ la ∧ wr = w.drewN n ∧ ∀ j, j < m → el xs j = el ys j) (fun i _ => la - (intOf i).toNat)
    case atStart => exact ⟨0, 0, rfl, by omega, rfl, fun j hj => by omega⟩
    case round =>
      obtain ⟨q, n, rfl, hm, hw, hj⟩ := hrel
      subst hw
      have HJ : Hid (∀ j, j < q → el xs j = el ys j) := hj
      clear hj
      by_cases h0 : q < la
      · obtain ⟨ba, oa, ea, _, hca⟩ := SX.out.at (n := q) (by rw [HX.out]; omega)
        obtain ⟨bb, ob, eb, _, hcb⟩ := SY.out.at (n := q) (by rw [HY.out]; omega)
        subst ea
        subst eb
        have c1 : w.cell? ⟨ba, oa + q, none⟩ = some (.int .u8 (el xs q)) := hca q (by rw [HX.out]; omega)
        have c2 : w.cell? ⟨bb, ob + q, none⟩ = some (.int .u8 (el ys q)) := hcb q (by rw [HY.out]; omega)
        clear hca hcb
        by_cases h : el xs q = el ys q
        · have d0 : (el xs q != el ys q) = false := by simp; omega
          have HQ : Hid (el xs q = el ys q) := h
          clear h
          go_wp2
          go_quiet (fail)
          go_wp2
          go_roundw
          case rel =>
            refine ⟨q + 1, _, by go_num, by omega, rfl, fun j hj => ?_⟩
            by_cases e : j = q
            · rw [e]; exact HQ.out
            · exact HJ.out j (by omega)
          case measure => simp [intOf]; omega
        · have d0 : (el xs q != el ys q) = true := by simpa using h
          go_wp2
          go_quiet (fail)
          go_wp2
          go_ret
          exact ⟨ret_bool (sameB_false (fun e => h (by rw [e]))).symm, _, by simp; rfl⟩
      · obtain rfl : q = la := by omega
        go_wp2
        go_ret
        exact ⟨ret_bool (sameB_true (list_ext (by rw [HX.out, HY.out]) (by rw [HX.out]; exact HJ.out))).symm, n, rfl⟩
  · have d0 : ((la : Int) != (lb : Int)) = true := by simp; omega
    go_enter Ycim.func29, Ycim.ntmps29
    go_wp2
    go_ret
    exact ⟨ret_bool (sameB_false (fun e => h1 (by rw [← HX.out, ← HY.out, e]))).symm, 0, rfl⟩
end Go.Proofs.Ymbrci
