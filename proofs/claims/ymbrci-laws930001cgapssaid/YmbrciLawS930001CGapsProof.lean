/-
  'Rows.LawS930001CGapsSaid': the guide's shell at this function, its walk filled.
-/
import Derived.Test.YmbrciRows
import Derived.WalkKit
import Derived.ProofKit
import Derived.OpenShut
import Derived.ShutString
import Derived.ChangeOld
import Derived.Below
import Derived.Test.YmbrciCLib
namespace Go.Proofs.Ymbrci.lawS930001CGaps
open Go.ChangeShapes Go.WideShapes Go.ChangeAt Go.RowKit
open Go.ChangeMaps (open_string shut_string)
set_option linter.unusedVariables false

theorem own : ownKnob Ycim.prog.godebug = none := by kernel_rfl
theorem laidOut : laidOutB Ycim.prog = true := by kernel_rfl

/-- WHAT THE WALK IS TOLD OF A SLICE OF INTEGERS THAT CAME IN: it is nil; or it leads to a row of 'cap' cells, the numbers 'zs' (the first 'len' are its elements, the rest its spare room), each fitting its kind. -/
def IsRow (k : IntKind) (w : World) (a : Option Addr) (len cap : Nat) (zs : List Int) : Prop :=
  (a = none ∧ len = 0 ∧ cap = 0 ∧ zs = []) ∨
  ∃ x, a = some x ∧ len ≤ cap ∧ cap ≤ maxLen ∧ zs.length = cap ∧ (∀ i, i < zs.length → w.cell? (x.add i) = some (.int k (zs.getD i 0))) ∧ ∀ n ∈ zs, (Lit.int k n).wf = true

/-- What the loop that sums the gaps keeps. -/
structure Inv (n q : Nat) (X G : List Int) (S : Int) : Prop where
  lx : X.length = n
  lg : G.length = n
  wx : Words X
  s0 : 0 ≤ S
  s1 : S ≤ 18446744073709551615
  sq : S = prv X q
  gap : ∀ j, j < q → el G j = gp X j ∧ 0 ≤ el G j
theorem prv_set {X : List Int} {q j : Nat} (u : Int) (h : j ≤ q) : prv (X.set q u) j = prv X j := by
  unfold prv
  split
  · rfl
  · exact el_set_other _ (by omega)
theorem Inv.start (n : Nat) : Inv n 0 (List.replicate n 0) (List.replicate n 0) 0 :=
  ⟨List.length_replicate, List.length_replicate, fun x hx => by rw [(List.mem_replicate.1 hx).2]; omega, by omega, by omega, rfl, fun j hj => by omega⟩
theorem Inv.step {n q : Nat} {X G : List Int} {S g : Int} (h : Inv n q X G S) (hq : q < n) (g0 : 0 ≤ g) (g1 : S + g ≤ 18446744073709551615) : Inv n (q + 1) (X.set q (S + g)) (G.set q g) (S + g) := by
  have hs := h.s0
  refine ⟨by rw [List.length_set, h.lx], by rw [List.length_set, h.lg], h.wx.set (by omega) g1 q, by omega, g1, by rw [prv_succ, el_set_same _ (by rw [h.lx]; exact hq)], fun j hj => ?_⟩
  by_cases e : j = q
  · subst e
    rw [el_set_same _ (by rw [h.lg]; exact hq)]
    unfold gp
    rw [el_set_same _ (by rw [h.lx]; exact hq), prv_set _ (Nat.le_refl _), ← h.sq]
    omega
  · have := h.gap j (by omega)
    rw [el_set_other _ e]
    unfold gp at this ⊢
    rw [el_set_other _ e, prv_set _ (by omega)]
    exact this
theorem Inv.srt {n : Nat} {X G : List Int} {S : Int} (h : Inv n n X G S) : srt X = true := by
  rw [srt_iff]
  intro j hj
  rw [h.lx] at hj
  have h1 := h.gap (j + 1) hj
  unfold gp at h1
  rw [prv_succ] at h1
  omega
theorem Inv.gaps {n : Nat} {X G : List Int} {S : Int} (h : Inv n n X G S) : gapsTo X X.length = G := by
  rw [h.lx]
  refine list_ext (by rw [gapsTo_len, h.lg]) fun i hi => ?_
  rw [gapsTo_len] at hi
  rw [gapsTo_el hi, (h.gap i hi).1]

set_option maxRecDepth 100000 in
set_option maxHeartbeats 8000000 in
theorem walk (a0 : Option Addr) (len0 cap0 : Nat) (z0 : List Int) (a1 : Option Addr) (len1 cap1 : Nat) (z1 : List Int) (a2 : Int) (a3 : Int) (w : World) (w0 : IsRow .u8 w a0 len0 cap0 z0) (w1 : IsRow .u64 w a1 len1 cap1 z1) (w2 : (Lit.int .u8 a2).wf = true) (w3 : (Lit.int .u8 a3).wf = true) :
    Calls Ycim.prog 9 #[.slice a0 len0 cap0, .slice a1 len1 cap1, .int .u8 a2, .int .u8 a3] w fun e w' => e = .returned (.bool true) ∧ Below w.heap.size w w' := by
  obtain ⟨ds, hd, hdc, md, sd, wd, nd⟩ := sl_of_row w0
  obtain ⟨xs, hx, hxc, mx, sx, wx, nx⟩ := sl_of_row w1
  have h2 := u8_bd w2
  have h3 := u8_bd w3
  clear w0 w1 w2 w3
  by_cases hbig : 1024 < len0
  · go_enter Ycim.func9, Ycim.ntmps9
    go_wp2
    go_ret
    exact ⟨rfl, Below.refl _ _⟩
  by_cases hbig1 : 1024 < len1
  · go_enter Ycim.func9, Ycim.ntmps9
    go_wp2
    go_ret
    exact ⟨rfl, Below.refl _ _⟩
  obtain ⟨s, hs⟩ : ∃ s : Nat, a3 = s := ⟨a3.toNat, by omega⟩
  subst hs
  have SD : Hid (Sl .u8 w a0 ds) := sd
  have HD : Hid (ds.length = len0) := hd
  have SX : Hid (Sl .u64 w a1 xs) := sx
  have HX : Hid (xs.length = len1) := hx
  have HW : Hid (Words xs) := words_of_wf wx
  clear sd hd sx hx wx nd nx wd hdc md hxc mx
  go_enter Ycim.func9, Ycim.ntmps9
  go_wp2_with (at_make; refine mk64 _ rfl (.tmp 28) (.tmp 28) rfl (base := w.heap.size) _ _ len1 rfl rfl ?m1 ?m1b ?m2 (Nat.le_refl _) ?m3)
  case m1 => rfl
  case m1b => rfl
  case m2 => omega
  case m3 =>
  intro w1 hown hbel
  have O1 : Hid (Owns .u64 27 w.heap.size w1 (.slice (some ⟨w.heap.size, 0, none⟩) len1 len1) (List.replicate len1 0)) := hown
  have B1 : Hid (Below w.heap.size w w1) := hbel
  have hlt1 := (hown.lt w.heap.size rfl).2
  have hsz1 : w.heap.size ≤ w1.heap.size := hbel.size
  clear hown hbel
  go_wp2_with (at_make; refine mk64 _ rfl (.tmp 31) (.tmp 31) rfl (base := w.heap.size) _ _ len1 rfl rfl ?n1 ?n1b ?n2 hsz1 ?n3)
  case n1 => rfl
  case n1b => rfl
  case n2 => omega
  case n3 =>
  intro w2 hown hbel
  have OX : Hid (Owns .u64 27 w.heap.size w2 (.slice (some ⟨w.heap.size, 0, none⟩) len1 len1) (List.replicate len1 0)) := O1.out.later hbel (Nat.le_refl _)
  have OG : Hid (Owns .u64 27 w.heap.size w2 (.slice (some ⟨w1.heap.size, 0, none⟩) len1 len1) (List.replicate len1 0)) := hown
  have B2 : Hid (Below w.heap.size w w2) := B1.out.trans (hbel.mono hsz1)
  obtain ⟨gb, hgb⟩ : ∃ gb, w1.heap.size = gb := ⟨_, rfl⟩
  rw [hgb] at OG hlt1 ⊢
  clear hown hbel O1 B1 hsz1 hgb
  go_wp2
  go_loopw [11, 12] (fun su i wr => ∃ (q : Nat) (X G : List Int) (S : Int), i = .int .i64 q ∧ q ≤ len1 ∧ su = .int .u64 S ∧ Owns .u64 27 w.heap.size wr (.slice (some ⟨w.heap.size, 0, none⟩) len1 len1) X ∧ Owns .u64 27 w.heap.size wr (.slice (some ⟨gb, 0, none⟩) len1 len1) G ∧ Below w.heap.size w wr ∧ Inv len1 q X G S) (fun _ i _ => len1 - (intOf i).toNat)
  case atStart => exact ⟨0, _, _, 0, rfl, by omega, rfl, OX.out, OG.out, B2.out, Inv.start len1⟩
  case round =>
  clear OX OG B2
  obtain ⟨q, X, G, S, rfl, hq, rfl, ho1, ho2, hbe, hinv⟩ := hrel
  have OX : Hid (Owns .u64 27 w.heap.size wr (.slice (some ⟨w.heap.size, 0, none⟩) len1 len1) X) := ho1
  have OG : Hid (Owns .u64 27 w.heap.size wr (.slice (some ⟨gb, 0, none⟩) len1 len1) G) := ho2
  have B2 : Hid (Below w.heap.size w wr) := hbe
  have HI : Hid (Inv len1 q X G S) := hinv
  have hS0 := hinv.s0
  have hS1 := hinv.s1
  clear ho1 ho2 hbe hinv
  by_cases hlt : q < len1
  · have hsx := SX.out.later B2.out (Nat.le_refl _)
    obtain ⟨ba, oa, ea, _, hca⟩ := hsx.at (n := q) (by rw [HX.out]; omega)
    subst ea
    have k1 : wr.cell? ⟨ba, oa + q, none⟩ = some (.int .u64 (el xs q)) := hca q (by rw [HX.out]; omega)
    have hne1 : gb ≠ w.heap.size := by omega
    have k2 := (OG.out.at (j := q) (by rw [HI.out.lg]; exact hlt))
    have k3 : wr.cell? ⟨gb, q, none⟩ = some (.int .u64 (el G q)) := k2.1
    have k4 : wr.frozen? ⟨gb, q, none⟩ = false := k2.2
    have hOX : ∀ u, Owns .u64 27 w.heap.size (wr.setCell ⟨gb, q, none⟩ (.int .u64 u)) (.slice (some ⟨w.heap.size, 0, none⟩) len1 len1) X := fun u => OX.out.apartSet _ (by simp [Value.ownBlock]; omega)
    have HOX : Hid (∀ u, Owns .u64 27 w.heap.size (wr.setCell ⟨gb, q, none⟩ (.int .u64 u)) (.slice (some ⟨w.heap.size, 0, none⟩) len1 len1) X) := hOX
    have k5 : ∀ u, (wr.setCell ⟨gb, q, none⟩ (.int .u64 u)).cell? ⟨w.heap.size, q, none⟩ = some (.int .u64 (el X q)) := fun u => ((HOX.out u).at (by rw [HI.out.lx]; exact hlt)).1
    have k6 : ∀ u, (wr.setCell ⟨gb, q, none⟩ (.int .u64 u)).frozen? ⟨w.heap.size, q, none⟩ = false := fun u => ((HOX.out u).at (by rw [HI.out.lx]; exact hlt)).2
    clear hOX hca hsx k2
    have hk0 : 0 ≤ a2 % 64 := by omega
    have hk1 : a2 % 64 < 64 := by omega
    obtain ⟨k, hk⟩ : ∃ k : Nat, a2 % 64 = k := ⟨(a2 % 64).toNat, by omega⟩
    rw [hk] at hk0 hk1
    obtain ⟨g, hg⟩ : ∃ g, IntKind.u64.wrap (el xs q * 2 ^ k) = g := ⟨_, rfl⟩
    have hgb := wrap_bd (el xs q * 2 ^ k)
    rw [hg] at hgb
    obtain ⟨g0, g1⟩ := hgb
    by_cases hov : S + g ≤ 18446744073709551615
    · have hnl : ¬ S + g < S := by omega
      go_wp2
      go_roundw
      case rel => exact ⟨q + 1, X.set q (S + g), G.set q g, S + g, by go_num, by omega, rfl, (HOX.out g).set _ _, (OG.out.set _ _).apartSet _ (by simp [Value.ownBlock]; omega), (B2.out.setCell (p := ⟨gb, q, none⟩) (by show _ ≤ gb; omega) _).setCell (Nat.le_refl _) _, HI.out.step hlt g0 hov⟩
      case measure => simp [intOf]; omega
    · have hw64 : IntKind.u64.wrap (S + g) = S + g - 18446744073709551616 := by
        simp [IntKind.wrap, IntKind.bits, IntKind.signed]; omega
      have hnl : S + g - 18446744073709551616 < S := by omega
      go_wp2
      go_roundw
      case rel => exact ⟨q + 1, X.set q (S + 0), G.set q 0, S + 0, by go_num, by omega, by rw [Int.add_zero], by rw [Int.add_zero]; exact (HOX.out 0).set _ _, (OG.out.set _ _).apartSet _ (by simp [Value.ownBlock]; omega), (B2.out.setCell (p := ⟨gb, q, none⟩) (by show _ ≤ gb; omega) _).setCell (Nat.le_refl _) _, HI.out.step hlt (by omega) (by omega)⟩
      case measure => simp [intOf]; omega
  · obtain rfl : q = len1 := by omega
    have HSR : Hid (srt X = true) := HI.out.srt
    have HGP : Hid (gapsTo X X.length = G) := HI.out.gaps
    have HLX : Hid (X.length = q) := HI.out.lx
    have HLG : Hid (G.length = q) := HI.out.lg
    have HWX : Hid (Words X) := HI.out.wx
    have HGW : Hid (Words G) := by
      show Words G
      rw [← HGP.out]; exact gapsTo_words HWX.out HSR.out (Nat.le_refl _)
    clear HI hlt hq
    obtain ⟨w3, hw3⟩ : ∃ w3 : World, w3 = wr := ⟨_, rfl⟩
    rw [← hw3] at OX OG B2 ⊢
    clear hw3 hS0 hS1
    go_wp2_with fail
    refine (cbuf_any a0 len0 cap0 s ds w3 HD.out (by omega) (by omega) (SD.out.later B2.out (Nat.le_refl _))).mono ?_
    rintro e w4 ⟨rfl, hown, hbel⟩
    obtain ⟨bb, hbb⟩ : ∃ bb, w3.heap.size = bb := ⟨_, rfl⟩
    have hgl := (OG.out.lt gb rfl).2
    have hxl := (OX.out.lt w.heap.size rfl).2
    have OX4 : Hid (Owns .u64 27 w.heap.size w4 (.slice (some ⟨w.heap.size, 0, none⟩) q q) X) := OX.out.later hbel (Nat.le_refl _)
    have OG4 : Hid (Owns .u64 27 w.heap.size w4 (.slice (some ⟨gb, 0, none⟩) q q) G) := OG.out.later hbel (Nat.le_refl _)
    have B4 : Hid (Below w.heap.size w w4) := B2.out.trans (hbel.mono B2.out.size)
    have hb4 := hbel.size
    rw [hbb] at hown hgl hxl hb4 ⊢
    have O4 : Hid (Owns .u8 5 bb w4 (.slice (some ⟨bb, 0, none⟩) (len0 + s) (len0 + s)) (cfill ds s)) := hown
    have K4 : Hid (Owns .u8 5 bb w4 (.slice (some ⟨bb, 0, none⟩) len0 (len0 + s)) ((cfill ds s).take len0)) := hown.pre (by rw [cfill_len, HD.out]; omega)
    have HCT : Hid ((cfill ds s).take len0 = ds) := by show _ = _; rw [← HD.out]; exact cfill_take ds s
    have s0 := run_pre Ycim.underlying22 size8 (some ⟨bb, 0, none⟩) (len0 + s) (len0 + s) len0 (by omega)
    clear hown hbel OX OG B2 hbb
    go_wp2_with fail
    refine (appendSorted_any (.slice (some ⟨bb, 0, none⟩) len0 (len0 + s)) ((cfill ds s).take len0) (some ⟨w.heap.size, 0, none⟩) q q X w4 bb HLX.out (by omega) HWX.out K4.out hb4 (by rw [HCT.out, HD.out]; omega) OX4.out.sl.2.2.2 (fun _ b off hb e1 => by simp [Value.ownBlock] at hb e1; omega)).mono ?_
    rintro e w5 ⟨v5, rfl, hap⟩
    rw [HSR.out, if_pos rfl, HGP.out] at hap
    rw [HSR.out]
    have hbuf := hap.buf O4.out (by omega)
    have B5 : Hid (Below w.heap.size w w5) := B4.out.trans ((hap.below K4.out hb4).mono (by omega))
    have SB5 : Hid (Sl .u8 w5 (some ⟨bb, 0, none⟩) ds) := .inr ⟨bb, 0, rfl, fun i hi => by
      rw [Nat.zero_add, hbuf.1 i (by rw [← HD.out]; omega) (.inl (by rw [← HD.out]; exact hi)), cfill_left hi]⟩
    have OG5 : Hid (Owns .u64 27 w.heap.size w5 (.slice (some ⟨gb, 0, none⟩) q q) G) := hap.other OG4.out (.inr (by simp [Value.ownBlock]; omega))
    obtain ⟨p5, c5, hv5, hc5, mc5, sp5, _⟩ := hap.owns.shape
    obtain ⟨N, hN⟩ : ∃ N, (ds ++ flat G).length = N := ⟨_, rfl⟩
    rw [HCT.out] at hv5 hc5 sp5
    rw [hN] at hv5 hc5
    have mN : N ≤ 9223372036854775807 := by omega
    have HN : Hid (len0 + (flat G).length = N) := by show _ = _; rw [← hN, List.length_append, HD.out]
    have hN2 : len0 ≤ N := by have := HN.out; omega
    have S5 : Hid (Sl .u8 w5 p5 (ds ++ flat G)) := sp5
    have HNN : Hid ((ds ++ flat G).length = N) := hN
    have SP5 : Hid (Sl .u8 w5 p5 ds) := by
      have := sp5.pre len0
      rw [← HD.out, List.take_left] at this
      exact this
    rw [hv5]
    clear hap hbuf hv5 hc5 mc5 sp5 hN s0 O4 K4 B4 OX4 OG4
    go_wp2_with fail
    refine (cprefix_any p5 a0 N len0 c5 cap0 ds w5 HD.out hN2 mN SP5.out (SD.out.later B5.out (Nat.le_refl _))).mono ?_
    rintro e w6 ⟨rfl, hq6⟩
    have B6 : Hid (Below w.heap.size w w6) := drews hq6 B5.out
    have SB6 : Hid (Sl .u8 w6 (some ⟨bb, 0, none⟩) ds) := SB5.out.quiet hq6
    have OG6 : Hid (Owns .u64 27 w.heap.size w6 (.slice (some ⟨gb, 0, none⟩) q q) G) := OG5.out.quiet hq6
    have S6 : Hid (Sl .u8 w6 p5 (ds ++ flat G)) := S5.out.quiet hq6
    clear hq6 B5 SB5 OG5 S5 SP5
    go_wp2_with fail
    refine (cprefix_any (some ⟨bb, 0, none⟩) a0 (len0 + s) len0 (len0 + s) cap0 ds w6 HD.out (by omega) (by omega) SB6.out (SD.out.later B6.out (Nat.le_refl _))).mono ?_
    rintro e w7 ⟨rfl, hq7⟩
    have B7 : Hid (Below w.heap.size w w7) := drews hq7 B6.out
    have OG7 : Hid (Owns .u64 27 w.heap.size w7 (.slice (some ⟨gb, 0, none⟩) q q) G) := OG6.out.quiet hq7
    have S7 : Hid (Sl .u8 w7 p5 (ds ++ flat G)) := S6.out.quiet hq7
    clear hq7 B6 SB6 OG6 S6
    go_wp2
    go_loopw [17, 18] (fun ps i wr => ∃ (r P : Nat), i = .int .i64 r ∧ r ≤ q ∧ ps = .int .i64 P ∧ P = len0 + (flat (G.take r)).length ∧ wr = w7) (fun _ i _ => q - (intOf i).toNat)
    case atStart => exact ⟨0, len0, rfl, by omega, rfl, rfl, rfl⟩
    case round =>
    obtain ⟨r, P, rfl, hr, rfl, hP, hwr⟩ := hrel
    rw [hwr]
    have HP : Hid (P = len0 + (flat (G.take r)).length) := hP
    clear hP hwr
    by_cases hlt : r < q
    · have k1 : w7.cell? ⟨gb, r, none⟩ = some (.int .u64 (el G r)) := (OG7.out.at (by rw [HLG.out]; exact hlt)).1
      have hgw := HGW.out.el r
      obtain ⟨n, hn⟩ : ∃ n, (E (el G r)).length = n := ⟨_, rfl⟩
      obtain ⟨f1, f2, f3⟩ := flat_at (by rw [HLG.out]; exact hlt) hn
      have hPn : P + n ≤ N := by have := HP.out; have := HN.out; omega
      have HF2 : Hid ((flat (G.take (r + 1))).length = (flat (G.take r)).length + n) := f2
      have HAT : Hid (∀ j, j < n → el (ds ++ flat G) (P + j) = el (E (el G r)) j) := fun j hj => by
        rw [← f3 j hj, HP.out, ← HD.out, Nat.add_assoc, el_at]
      have HEN : Hid ((E (el G r)).length = n) := hn
      clear f1 f2 f3 hn
      go_wp2_with fail
      refine (cat_any p5 N c5 P n (el G r) (ds ++ flat G) w7 HNN.out mN hgw.1 hgw.2 HEN.out hPn HAT.out S7.out).mono ?_
      rintro e w8 ⟨rfl, hw8⟩
      rw [hw8]
      clear hw8 w8
      go_wp2
      go_roundw
      case rel => exact ⟨r + 1, P + n, by go_num, by omega, by go_num, by rw [HF2.out, HP.out]; omega, trivial⟩
      case measure => simp [intOf]; omega
    · obtain rfl : r = q := by omega
      have hPN : P = N := by rw [HP.out, ← HN.out, List.take_of_length_le (by rw [HLG.out]; exact Nat.le_refl _)]
      subst hPN
      go_wp2
      go_ret
      exact ⟨rfl, B7.out⟩

/-! ### the row's step -/
set_option maxRecDepth 100000 in
theorem lifted (os : Os) (started : os.Started) (H : Type) (enc : TypeId × Value → H) :
    ReturnsInHanded {} Ycim.checked os 9 .any (Rows.lawS930001CGapsSpec.pre6 enc Ycim.prog Ycim.f9 Rows.lawS930001CGapsRow.domain false) (Rows.lawS930001CGapsSpec.post enc Ycim.prog Ycim.f9 false true false false) := by
  refine returnsInHanded_of_change (C := Ycim.checked) own started (by kernel_rfl) Ycim.func9
    (ChangeSpec.witness6 (enc := enc) (C := Ycim.checked) false ⟨#[], #[.slice none 0 0, .slice none 0 0, .int .u8 0, .int .u8 0], []⟩ 8 (by kernel_rfl) (by kernel_rfl) (by kernel_rfl) (by kernel_rfl)) ?_
  intro W base args ds gs before hval0 hW hcnd _
  have hval : ∀ (j : Nat) t v, Ycim.f9.params[j]? = some t → args[j]? = some v → Value.okWide Ycim.prog W .any base t v := hval0
  have hW' := hW
  obtain ⟨p, q, hA0, hV, rfl, hfz, hnd⟩ := hW
  have hA : DataW.TrodAll enc Ycim.prog W 0 (fun _ => true) true Ycim.f9.params.toList args.toList ds p := hA0
  rw [Ycim.params9] at hA hval
  obtain ⟨v0, vs0, d0, ds0, p0, q0, hargs, rfl, rfl, h0, r0⟩ := trodAll_cons hA
  obtain ⟨v1, vs1, d1, ds1, p1, q1, rfl, rfl, rfl, h1, r1⟩ := trodAll_cons r0
  obtain ⟨v2, vs2, d2, ds2, p2, q2, rfl, rfl, rfl, h2, r2⟩ := trodAll_cons r1
  obtain ⟨v3, vs3, d3, ds3, p3, q3, rfl, rfl, rfl, h3, r3⟩ := trodAll_cons r2
  obtain ⟨rfl, rfl, rfl⟩ := trodAll_nil r3
  obtain rfl : args = #[v0, v1, v2, v3] := by cases args; simp_all
  obtain ⟨rfl, rfl⟩ := trodVars_none hV
  obtain ⟨a0, len0, cap0, rfl⟩ := okWide_slice Ycim.underlying22 (hval 0 22 v0 rfl rfl)
  have k0 := h0
  have lt0 : ∀ x ∈ p0, x.block < W.heap.size := by obtain ⟨m, hm⟩ := k0; exact DataW.trod_lt m _ _ _ hm
  obtain ⟨z0, w0⟩ : ∃ zs, IsRow .u8 W a0 len0 cap0 zs := by
    obtain ⟨fuel, hf⟩ := h0
    rcases open_ints Ycim.underlying22 Ycim.underlying5 (by kernel_rfl) hf with ⟨hcs, _⟩ | ⟨x, l, c, zs, hcs, _, hl, hm, hz, _, hcell, hwz⟩
    · simp [Value.cells] at hcs
      obtain ⟨rfl, rfl, rfl⟩ := hcs
      exact ⟨[], .inl ⟨rfl, rfl, rfl, rfl⟩⟩
    · simp [Value.cells] at hcs
      obtain ⟨rfl, rfl, rfl⟩ := hcs
      exact ⟨zs, .inr ⟨_, rfl, hl, hm, by simpa using hz, hcell, hwz⟩⟩
  obtain ⟨a1, len1, cap1, rfl⟩ := okWide_slice Ycim.underlying43 (hval 1 43 v1 rfl rfl)
  have k1 := h1
  have lt1 : ∀ x ∈ p1, x.block < W.heap.size := by obtain ⟨m, hm⟩ := k1; exact DataW.trod_lt m _ _ _ hm
  obtain ⟨z1, w1⟩ : ∃ zs, IsRow .u64 W a1 len1 cap1 zs := by
    obtain ⟨fuel, hf⟩ := h1
    rcases open_ints Ycim.underlying43 Ycim.underlying27 (by kernel_rfl) hf with ⟨hcs, _⟩ | ⟨x, l, c, zs, hcs, _, hl, hm, hz, _, hcell, hwz⟩
    · simp [Value.cells] at hcs
      obtain ⟨rfl, rfl, rfl⟩ := hcs
      exact ⟨[], .inl ⟨rfl, rfl, rfl, rfl⟩⟩
    · simp [Value.cells] at hcs
      obtain ⟨rfl, rfl, rfl⟩ := hcs
      exact ⟨zs, .inr ⟨_, rfl, hl, hm, by simpa using hz, hcell, hwz⟩⟩
  obtain ⟨a2, rfl, rfl, rfl, w2⟩ := open_int Ycim.underlying5 (hval 2 5 v2 rfl rfl) h2
  obtain ⟨a3, rfl, rfl, rfl, w3⟩ := open_int Ycim.underlying5 (hval 3 5 v3 rfl rfl) h3
  clear hA0 hval0
  refine (walk a0 len0 cap0 z0 a1 len1 cap1 z1 a2 a3 W w0 w1 w2 w3).mono fun e W' ⟨he, bel⟩ => ?_
  subst he
  exact ⟨_, rfl, _, _, _, [], _, [], hW', trodAll_mk1 (shut_bool Ycim.underlying4 _), (trodAll_cons_mk (Below.trod laidOut (by kernel_rfl) (of_decide_eq_true (by kernel_rfl)) k0 bel lt0) (trodAll_cons_mk (Below.trod laidOut (by kernel_rfl) (of_decide_eq_true (by kernel_rfl)) k1 bel lt1) (trodAll_cons_mk (shut_int Ycim.underlying5 w2) (trodAll_cons_mk (shut_int Ycim.underlying5 w3) trodAll_mk0)))), rfl, bel.frame _, fun h => by cases h⟩

theorem over : Rows.lawS930001CGapsRow.holds Ycim.pinned (OpenSpec.ofChange Rows.lawS930001CGapsSpec) :=
  OpenClaim.holds_of_wide 9 Ycim.f9 rfl rfl rfl rfl rfl rfl rfl ⟨rfl, rfl, rfl, rfl, rfl⟩ rfl rfl rfl rfl rfl (by kernel_rfl) Ycim.func9 (by kernel_rfl)
    (of_decide_eq_true (by kernel_rfl)) (by unfold Func.isWrapper; first | (rw [if_pos (by decide +kernel)]; kernel_rfl) | (rw [if_neg (by decide +kernel)]; exact ⟨rfl, rfl⟩))
    (fun os started H enc _ => lifted os started H enc)

/-- ████ THE STATEMENT ████ -/
theorem proved : Rows.LawS930001CGapsSaid := over
#print axioms proved
end Go.Proofs.Ymbrci.lawS930001CGaps
