/-
  zzs930001cbuf, cprefix, cat; AppendSorted.
-/
import Derived.Test.YmbrciFlat
import Derived.Test.YmbrciDig
import Derived.Test.YmbrciSorted
namespace Go.Proofs.Ymbrci
open Go.RowKit

theorem and127c {c : Int} (h₀ : 0 ≤ c) (h₁ : c ≤ 255) : bits .and .u8 c 127 = c % 128 := by
  rw [u8_and c 127 h₀ (by omega) (by omega) (by omega), show (127 : Int).toNat = 127 from rfl, nat_mask7]
  omega
/-! ### the marked buffer -/
def cfill (ds : List Int) (s : Nat) : List Int := ds ++ List.replicate s 165
theorem cfill_len (ds : List Int) (s : Nat) : (cfill ds s).length = ds.length + s := by simp [cfill]
theorem cfill_left {ds : List Int} {s i : Nat} (h : i < ds.length) : el (cfill ds s) i = el ds i := el_left h
theorem cfill_right {ds : List Int} {s i : Nat} (h : ds.length ≤ i) (h' : i < ds.length + s) : el (cfill ds s) i = 165 := by
  unfold cfill
  rw [el_right h, el_lt (by rw [List.length_replicate]; omega)]
  simp
theorem cfill_take (ds : List Int) (s : Nat) : (cfill ds s).take ds.length = ds := List.take_left
set_option maxHeartbeats 2000000 in
theorem cbuf_any (a : Option Addr) (n c s : Nat) (ds : List Int) (w : World) (hn : ds.length = n) (mn : n ≤ 1024) (ms : s ≤ 255) (hs : Sl .u8 w a ds) :
    Calls Ycim.prog 23 #[.slice a n c, .int .u8 (s : Int)] w fun e w' => e = .returned (.slice (some ⟨w.heap.size, 0, none⟩) (n + s) (n + s)) ∧ Owns .u8 5 w.heap.size w' (.slice (some ⟨w.heap.size, 0, none⟩) (n + s) (n + s)) (cfill ds s) ∧ Below w.heap.size w w' := by
  have SD : Hid (Sl .u8 w a ds) := hs
  have HD : Hid (ds.length = n) := hn
  clear hs hn
  obtain ⟨F, hF⟩ : ∃ F, F = cfill ds s := ⟨_, rfl⟩
  have HF1 : Hid (F.length = n + s) := by show _ = _; rw [hF, cfill_len, HD.out]
  have HF2 : Hid (∀ i, i < n → el F i = el ds i) := fun i hi => by rw [hF, cfill_left (by rw [HD.out]; exact hi)]
  have HF3 : Hid (∀ i, n ≤ i → i < n + s → el F i = 165) := fun i h1 h2 => by rw [hF, cfill_right (by rw [HD.out]; exact h1) (by rw [HD.out]; exact h2)]
  rw [← hF]
  clear hF
  go_enter Ycim.func23, Ycim.ntmps23
  go_wp2_with (at_make; refine mk8 _ rfl (.tmp 11) (.tmp 11) rfl (base := w.heap.size) _ _ (n + s) rfl rfl ?m1 ?m1b ?m2 (Nat.le_refl _) ?m3)
  case m1 => omega
  case m1b => omega
  case m2 => omega
  case m3 =>
  intro w1 hown hbel
  have O1 : Hid (Owns .u8 5 w.heap.size w1 (.slice (some ⟨w.heap.size, 0, none⟩) (n + s) (n + s)) (List.replicate (n + s) 0)) := hown
  have B1 : Hid (Below w.heap.size w w1) := hbel
  clear hown hbel
  go_wp2
  go_loopw [6] (fun i wr => ∃ (q : Nat) (zs : List Int), i = .int .i64 q ∧ q ≤ n + s ∧ zs.length = n + s ∧ Owns .u8 5 w.heap.size wr (.slice (some ⟨w.heap.size, 0, none⟩) (n + s) (n + s)) zs ∧ Below w.heap.size w wr ∧ ∀ j, j < q → el zs j = el F j) (fun i _ => n + s - (intOf i).toNat)
  case atStart => exact ⟨0, List.replicate (n + s) 0, rfl, by omega, List.length_replicate, O1.out, B1.out, fun j hj => by omega⟩
  case round =>
  clear O1 B1
  obtain ⟨q, zs, rfl, hq, hzl, ho, hbe, hj⟩ := hrel
  have HO : Hid (Owns .u8 5 w.heap.size wr (.slice (some ⟨w.heap.size, 0, none⟩) (n + s) (n + s)) zs) := ho
  have HB : Hid (Below w.heap.size w wr) := hbe
  have HJ : Hid (∀ j, j < q → el zs j = el F j) := hj
  have HZ : Hid (zs.length = n + s) := hzl
  clear ho hbe hj hzl
  by_cases hlt : q < n + s
  · have k2 : wr.cell? ⟨w.heap.size, q, none⟩ = some (.int .u8 (el zs q)) := (HO.out.at (by rw [HZ.out]; exact hlt)).1
    have k3 : wr.frozen? ⟨w.heap.size, q, none⟩ = false := (HO.out.at (by rw [HZ.out]; exact hlt)).2
    by_cases hl0 : q < n
    · have SX := SD.out.later HB.out (Nat.le_refl _)
      obtain ⟨ba, oa, ea, _, hca⟩ := SX.at (n := q) (by rw [HD.out]; omega)
      subst ea
      have k1 : wr.cell? ⟨ba, oa + q, none⟩ = some (.int .u8 (el ds q)) := hca q (by rw [HD.out]; omega)
      clear hca SX
      go_wp2
      go_roundw
      case rel => exact ⟨q + 1, zs.set q (el ds q), by go_num, by omega, by rw [List.length_set, HZ.out], HO.out.set _ _, HB.out.setCell (Nat.le_refl _) _, fun j hj => by
        by_cases e : j = q
        · rw [e, el_set_same _ (by rw [HZ.out]; exact hlt), HF2.out q hl0]
        · rw [el_set_other _ e]; exact HJ.out j (by omega)⟩
      case measure => simp [intOf]; omega
    · go_wp2
      go_roundw
      case rel => exact ⟨q + 1, zs.set q 165, by go_num, by omega, by rw [List.length_set, HZ.out], HO.out.set _ _, HB.out.setCell (Nat.le_refl _) _, fun j hj => by
        by_cases e : j = q
        · rw [e, el_set_same _ (by rw [HZ.out]; exact hlt), HF3.out q (by omega) (by omega)]
        · rw [el_set_other _ e]; exact HJ.out j (by omega)⟩
      case measure => simp [intOf]; omega
  · have e1 : zs = F := list_ext (by rw [HZ.out, HF1.out]) (by rw [HZ.out]; intro i hi; exact HJ.out i (by omega))
    rw [e1] at HO
    go_wp2
    go_ret
    exact ⟨rfl, HO.out, HB.out⟩

/-! ### the front -/
set_option maxHeartbeats 1000000 in
theorem cprefix_any (a b : Option Addr) (la lb ca cb : Nat) (ys : List Int) (w : World) (hy : ys.length = lb) (hl : lb ≤ la) (ma : la ≤ 9223372036854775807) (sx : Sl .u8 w a ys) (sy : Sl .u8 w b ys) :
    Calls Ycim.prog 25 #[.slice a la ca, .slice b lb cb] w fun e w' => e = .returned (.bool true) ∧ ∃ n, w' = w.drewN n := by
  have SX : Hid (Sl .u8 w a ys) := sx
  have SY : Hid (Sl .u8 w b ys) := sy
  have HY : Hid (ys.length = lb) := hy
  clear sx sy hy
  go_enter Ycim.func25, Ycim.ntmps25
  go_wp2
  go_loopw [5] (fun i wr => ∃ (m n : Nat), i = .int .i64 m ∧ m ≤ lb ∧ wr = w.drewN n) (fun i _ => lb - (intOf i).toNat)
  case atStart => exact ⟨0, 0, rfl, by omega, rfl⟩
  case round =>
    obtain ⟨q, n, rfl, hm, hw⟩ := hrel
    subst hw
    by_cases h0 : q < lb
    · obtain ⟨ba, oa, ea, _, hca⟩ := SX.out.at (n := q) (by rw [HY.out]; omega)
      obtain ⟨bb, ob, eb, _, hcb⟩ := SY.out.at (n := q) (by rw [HY.out]; omega)
      subst ea
      subst eb
      have c1 : w.cell? ⟨ba, oa + q, none⟩ = some (.int .u8 (el ys q)) := hca q (by rw [HY.out]; omega)
      have c2 : w.cell? ⟨bb, ob + q, none⟩ = some (.int .u8 (el ys q)) := hcb q (by rw [HY.out]; omega)
      have h1 : q < la := by omega
      clear hca hcb
      go_wp2
      go_quiet (fail)
      go_wp2
      go_roundw
      case rel => exact ⟨q + 1, _, by go_num, by omega, rfl⟩
      case measure => simp [intOf]; omega
    · go_wp2
      go_ret
      exact ⟨rfl, n, rfl⟩

/-! ### one encoding in its place -/
theorem E_digit_at {x : Int} {n i : Nat} (h0 : 0 ≤ x) (h1 : x ≤ 18446744073709551615) (hn : (E x).length = n) (hi : i < n) : el (E x) i = x / 2 ^ (7 * i) % 128 + (if i + 1 < n then 128 else 0) := by
  subst hn; exact E_digit x h0 h1 i hi
set_option maxHeartbeats 2000000 in
theorem cat_any (a : Option Addr) (la ca pos n : Nat) (g : Int) (zs : List Int) (w : World) (hz : zs.length = la) (ma : la ≤ 9223372036854775807) (g0 : 0 ≤ g) (g1 : g ≤ 18446744073709551615) (hn : (E g).length = n) (hfit : pos + n ≤ la) (hat : ∀ j, j < n → el zs (pos + j) = el (E g) j) (hs : Sl .u8 w a zs) :
    Calls Ycim.prog 26 #[.slice a la ca, .int .i64 (pos : Int), .int .u64 g] w fun e w' => e = .returned (.int .i64 ((pos + n : Nat) : Int)) ∧ w' = w := by
  have HS : Hid (Sl .u8 w a zs) := hs
  have HZ : Hid (zs.length = la) := hz
  have HA : Hid (∀ j, j < n → el zs (pos + j) = el (E g) j) := hat
  have HN : Hid ((E g).length = n) := hn
  have hl := E_len g
  rw [hn] at hl
  clear hs hz hat hn
  go_enter Ycim.func26, Ycim.ntmps26
  go_wp2_with fail
  refine (cgroups_any g w g0 g1).mono ?_
  rintro e w5 ⟨rfl, hw5⟩
  rw [hw5, HN.out]
  clear hw5 w5
  have hf2 : ¬ ((la : Int) - (pos : Int) < (n : Int)) := by omega
  go_wp2
  go_loop [8] (fun i => ∃ j : Nat, i = .int .i64 j ∧ j ≤ n) (fun i => n - (intOf i).toNat)
  case atStart => exact ⟨0, rfl, by omega⟩
  case round =>
    obtain ⟨j, rfl, hj⟩ := hrel
    by_cases hlt : j < n
    · obtain ⟨ba, oa, ea, _, hca⟩ := HS.out.at (n := pos + j) (by rw [HZ.out]; omega)
      subst ea
      have k1 : w.cell? ⟨ba, oa + (pos + j), none⟩ = some (.int .u8 (el (E g) j)) := by
        rw [hca (pos + j) (by rw [HZ.out]; omega), HA.out j hlt]
      have hd := E_digit_at g0 g1 HN.out hlt
      have hq0 : 0 ≤ g / 2 ^ (7 * j) := Int.ediv_nonneg g0 (by rw [p7]; have := p128_pos j; omega)
      have hq1 : g / 2 ^ (7 * j) ≤ 18446744073709551615 := Int.le_trans (Int.ediv_le_self _ g0) g1
      have m1 := and127c (c := g / 2 ^ (7 * j) % 256) (by omega) (by omega)
      have m3 : g / 2 ^ (7 * j) % 256 % 128 = g / 2 ^ (7 * j) % 128 := by omega
      rw [m3] at m1
      have m2 : (g / 2 ^ (7 * j) % 128 + 128) % 256 = g / 2 ^ (7 * j) % 128 + 128 := by omega
      have hpj : pos + j < la := by omega
      clear m3 hca
      by_cases hlast : j + 1 < n
      · rw [if_pos hlast] at hd
        rw [hd] at k1
        have hl2 : (j : Int) < (n : Int) - 1 := by omega
        clear hd
        go_wp2
        go_round
        case rel => exact ⟨j + 1, by go_num, by omega⟩
        case measure => simp [intOf]; omega
      · rw [if_neg hlast, Int.add_zero] at hd
        rw [hd] at k1
        have hl2 : ¬ ((j : Int) < (n : Int) - 1) := by omega
        clear hd
        go_wp2
        go_round
        case rel => exact ⟨j + 1, by go_num, by omega⟩
        case measure => simp [intOf]; omega
    · go_wp2
      go_ret
      exact ⟨ret_int (by omega), rfl⟩

/-! ### AppendSorted -/
/-- The number ahead of the q-th (0 ahead of the first), and the gap between them. -/
def prv (xs : List Int) (q : Nat) : Int := if q = 0 then 0 else el xs (q - 1)
def gp (xs : List Int) (q : Nat) : Int := el xs q - prv xs q
def gapsTo (xs : List Int) (q : Nat) : List Int := (List.range q).map (gp xs)
theorem prv_succ (xs : List Int) (q : Nat) : prv xs (q + 1) = el xs q := by simp [prv]
theorem gapsTo_len (xs : List Int) (q : Nat) : (gapsTo xs q).length = q := by simp [gapsTo]
theorem gapsTo_succ (xs : List Int) (q : Nat) : gapsTo xs (q + 1) = gapsTo xs q ++ [gp xs q] := by simp [gapsTo, List.range_succ]
theorem gapsTo_el {xs : List Int} {q i : Nat} (h : i < q) : el (gapsTo xs q) i = gp xs i := by
  rw [el_lt (by rw [gapsTo_len]; exact h)]; simp [gapsTo]
theorem gap_bd {xs : List Int} (hw : Words xs) (hs : srt xs = true) {q : Nat} (hq : q < xs.length) : 0 ≤ prv xs q ∧ prv xs q ≤ el xs q ∧ el xs q ≤ 18446744073709551615 := by
  have h1 := hw.el q
  unfold prv
  by_cases h0 : q = 0
  · rw [if_pos h0]; omega
  · rw [if_neg h0]
    have h2 := (srt_iff xs).1 hs (q - 1) (by omega)
    rw [show q - 1 + 1 = q by omega] at h2
    have h3 := hw.el (q - 1)
    omega
theorem gapsTo_words {xs : List Int} (hw : Words xs) (hs : srt xs = true) {q : Nat} (hq : q ≤ xs.length) : Words (gapsTo xs q) := fun x hx => by
  obtain ⟨i, hi, rfl⟩ := List.mem_map.1 hx
  have := gap_bd hw hs (q := i) (by rw [List.mem_range] at hi; omega)
  unfold gp; omega
theorem Ap.drew {k : IntKind} {e : TypeId} {base : Nat} {w w' : World} {v v' : Value} {xs ks : List Int} {n : Nat} (h : Ap k e base (w.drewN n) v xs w' v' ks) : Ap k e base w v xs w' v' ks :=
  ⟨h.owns, h.os, h.tape, h.output, h.size, h.block, h.own, h.same, h.spare⟩
def AsPost (base : Nat) (w : World) (v : Value) (ds xs : List Int) (e : Ending) (w' : World) : Prop :=
  ∃ v', e = .returned (.tuple #[v', .bool (srt xs)]) ∧ Ap .u8 5 base w v ds w' v' (if srt xs = true then flat (gapsTo xs xs.length) else [])
set_option maxHeartbeats 2000000 in
theorem appendSorted_any (v : Value) (ds : List Int) (a : Option Addr) (n c : Nat) (xs : List Int) (w : World) (base : Nat) (hn : xs.length = n) (mn : n ≤ 1000000000) (hw : Words xs) (hown : Owns .u8 5 base w v ds) (hb : base ≤ w.heap.size) (hbd : ds.length ≤ 1000000000) (hs : Sl .u64 w a xs) (hne : 0 < xs.length → ∀ b off, a = some ⟨b, off, none⟩ → v.ownBlock ≠ some b) :
    Calls Ycim.prog 24 #[v, .slice a n c] w (AsPost base w v ds xs) := by
  have HN : Hid (xs.length = n) := hn
  have HW : Hid (Words xs) := hw
  have HNE : Hid (0 < xs.length → ∀ b off, a = some ⟨b, off, none⟩ → v.ownBlock ≠ some b) := hne
  have HO0 : Hid (Owns .u8 5 base w v ds) := hown
  have HS0 : Hid (Sl .u64 w a xs) := hs
  clear hown hn hs hw hne
  go_enter Ycim.func24, Ycim.ntmps24
  go_wp2_with fail
  refine (sorted_any a n c xs w HN.out (by omega) HS0.out).mono ?_
  rintro e w1 ⟨rfl, hq1⟩
  have hsz1 : base ≤ w1.heap.size := by obtain ⟨m, rfl⟩ := hq1; exact hb
  have HO : Hid (Owns .u8 5 base w1 v ds) := HO0.out.quiet hq1
  have HS : Hid (Sl .u64 w1 a xs) := HS0.out.quiet hq1
  have HQ : Hid (∀ w' v' ks, Ap .u8 5 base w1 v ds w' v' ks → Ap .u8 5 base w v ds w' v' ks) := by
    obtain ⟨m, rfl⟩ := hq1; exact fun _ _ _ h => h.drew
  clear hq1 HO0 HS0 hb
  cases hsrt : srt xs with
  | false =>
    have HSR : Hid (srt xs = false) := hsrt
    clear hsrt
    go_wp2
    go_ret2
    exact ⟨v, by rw [HSR.out]; rfl, by rw [HSR.out]; exact HQ.out _ _ _ (Ap.start HO.out)⟩
  | true =>
    have HSR : Hid (srt xs = true) := hsrt
    clear hsrt
    go_wp2
    go_loopw [0, 6, 15] (fun d p i wr => ∃ q : Nat, i = .int .i64 q ∧ q ≤ n ∧ p = .int .u64 (prv xs q) ∧ Ap .u8 5 base w1 v ds wr d (flat (gapsTo xs q))) (fun _ _ i _ => n - (intOf i).toNat)
    case atStart => exact ⟨0, rfl, by omega, rfl, Ap.start HO.out⟩
    case round =>
      obtain ⟨q, rfl, hq, rfl, hap⟩ := hrel
      have HA : Hid (Ap .u8 5 base w1 v ds wr u0 (flat (gapsTo xs q))) := hap
      have hsz : base ≤ wr.heap.size := Nat.le_trans hsz1 hap.size
      clear hap
      by_cases hlt : q < n
      · have SX := HA.out.sl HS.out HNE.out
        obtain ⟨ba, oa, ea, _, hca⟩ := SX.at (n := q) (by rw [HN.out]; omega)
        subst ea
        have k1 : wr.cell? ⟨ba, oa + q, none⟩ = some (.int .u64 (el xs q)) := hca q (by rw [HN.out]; omega)
        obtain ⟨b0, b1, b2⟩ := gap_bd HW.out HSR.out (q := q) (by rw [HN.out]; exact hlt)
        have HG : Hid (el xs q - prv xs q = gp xs q) := rfl
        have HP : Hid (prv xs (q + 1) = el xs q) := prv_succ xs q
        obtain ⟨x, hx⟩ : ∃ x, el xs q = x := ⟨_, rfl⟩
        obtain ⟨y, hy⟩ : ∃ y, prv xs q = y := ⟨_, rfl⟩
        rw [hx] at k1 b1 b2 HG HP
        rw [hy] at b0 b1 HG ⊢
        clear hca SX hx hy
        go_wp2_with fail
        have hl : (flat (gapsTo xs q)).length ≤ 10 * q := by have := (flat_len (gapsTo xs q)).2; rwa [gapsTo_len] at this
        refine (append_any _ (ds ++ flat (gapsTo xs q)) (x - y) wr base (by omega) (by omega) HA.out.owns hsz (by rw [List.length_append]; omega)).mono ?_
        clear hl
        rintro e w2 ⟨v2, rfl, hap⟩
        have HB : Hid (Ap .u8 5 base w1 v ds w2 v2 (flat (gapsTo xs (q + 1)))) := by
          have := HA.out.trans hap fun g hg => (HO.out.lt g hg).2
          rwa [HG.out, ← flat_snoc, ← gapsTo_succ] at this
        clear hap HA k1
        go_wp2
        go_roundw
        case rel => exact ⟨q + 1, by go_num, by omega, by rw [HP.out], HB.out⟩
        case measure => simp [intOf]; omega
      · obtain rfl : q = n := by omega
        go_wp2
        go_ret2
        exact ⟨u0, by rw [HSR.out]; rfl, by rw [HSR.out, if_pos rfl, HN.out]; exact HQ.out _ _ _ HA.out⟩
theorem flat_at {G : List Int} {q n : Nat} (hq : q < G.length) (hn : (E (el G q)).length = n) : (flat (G.take q)).length + n ≤ (flat G).length ∧ (flat (G.take (q + 1))).length = (flat (G.take q)).length + n ∧ ∀ j, j < n → el (flat G) ((flat (G.take q)).length + j) = el (E (el G q)) j := by
  have h1 : flat G = flat (G.take q) ++ (E (el G q) ++ flat (G.drop (q + 1))) := by
    rw [← flat_cons, ← drop_el hq, ← flat_append, List.take_append_drop]
  refine ⟨?_, ?_, fun j hj => ?_⟩
  · rw [h1, List.length_append, List.length_append, hn]; omega
  · rw [flat_take_succ hq, List.length_append, hn]
  · rw [h1, el_at, el_left (by rw [hn]; exact hj)]
end Go.Proofs.Ymbrci
