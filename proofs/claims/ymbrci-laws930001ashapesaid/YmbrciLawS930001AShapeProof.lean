/-
  'Rows.LawS930001AShapeSaid' ('example.com/own/varint.LawS930001AShape'): an array parameter; the frame is typed by hand after the shells of this seat and the worked example IdRangearray.
-/
import Derived.Test.YmbrciRows
import Derived.WalkKit
import Derived.ProofKit
import Derived.OpenShut
import Derived.ShutString
import Derived.ChangeOld
import Derived.Below
import Derived.Test.YmbrciSig
import Derived.Test.YmbrciOwn
namespace Go.Proofs.Ymbrci.lawS930001AShape
open Go.ChangeShapes Go.WideShapes Go.ChangeAt Go.RowKit
set_option linter.unusedVariables false

theorem own : ownKnob Ycim.prog.godebug = none := by kernel_rfl
theorem laidOut : laidOutB Ycim.prog = true := by kernel_rfl
theorem cells29 : Ycim.prog.cellsOf 29 = 12 := by kernel_rfl
theorem cells5 : Ycim.prog.cellsOf 5 = 1 := by kernel_rfl

/-- The bytes that promise another. -/
def pr (zs : List Int) : List Int := zs.map fun b => b % 128 + 128
theorem pr_len (zs : List Int) : (pr zs).length = zs.length := by simp [pr]
theorem pr_snoc (zs : List Int) (x : Int) : pr (zs ++ [x]) = pr zs ++ [x % 128 + 128] := by simp [pr]
theorem pr_prom (zs : List Int) : Prom (pr zs) := fun x hx => by
  obtain ⟨y, _, rfl⟩ := List.mem_map.1 hx
  omega
theorem pr_bytes (zs : List Int) : Bytes (pr zs) := fun x hx => by
  obtain ⟨y, _, rfl⟩ := List.mem_map.1 hx
  omega
theorem shape3 {ps : List Int} {b : Int} {k : Nat} (hp : Prom ps) (hl : ps.length = k) (h : 9 < k ∨ (k = 9 ∧ 1 < b)) : dec (ps ++ [b]) 0 0 = (0, 0, 3) := by
  rcases h with h | ⟨h, hb⟩
  · have h9 : 9 < ps.length := by omega
    have h1 : 128 ≤ el ps 9 := hp _ (el_mem h9)
    refine table_over (k := 9) ?_ (by rw [List.length_append]; omega) rfl (by rw [el_left h9]; omega)
    rw [List.take_append_of_le_length (by omega)]
    exact hp.take 9
  · exact dec_over' hp (by omega) hb []
theorem val_par : ∀ zs : List Int, 0 < zs.length → val zs % 2 = el zs 0 % 2
  | [], h => by simp at h
  | x :: zs, _ => by rw [val_cons, el_zero]; omega
theorem unz_neg {u : Int} (h0 : 0 ≤ u) (h : u % 2 = 1) : unz u < 0 := by rw [unz_odd h]; omega
theorem unz_pos {u : Int} (h0 : 0 ≤ u) (h : u % 2 = 0) : 0 ≤ unz u := by rw [unz_even h]; omega
def ival : Option Value → Int
  | some (.int _ y) => y
  | _ => 0
theorem ints_of_cells {P : Program} {H : Type} {enc : TypeId × Value → H} {w : World} {base : Nat} {sp : Nat → Bool} {held : Bool} {fuel : Nat} {t e : TypeId} {cs : List Value} {x : DataW H × List MemPlace} {n : Nat} (ht : P.underlying t = some (.array n e)) (he : P.underlying e = some (.int .u8)) (hce : P.cellsOf e = 1) (hct : P.cellsOf t = n)
    (h : DataW.trod enc P w base sp held fuel t cs = some x) : ∃ zs : List Int, zs.length = n ∧ Bytes zs ∧ cs.length = n ∧ ∀ i, i < n → cs[i]? = some (.int .u8 (el zs i)) := by
  obtain ⟨xs, m, _, _, hlen, hxl, hel⟩ := DataW.trod_array ht h
  rw [hct] at hlen
  have hone : ∀ i, i < n → ∃ y, cs[i]? = some (.int .u8 y) ∧ 0 ≤ y ∧ y ≤ 255 := fun i hi => by
    have h1 := hel i hi
    rw [hce, Nat.mul_one] at h1
    obtain ⟨yy, hyy⟩ : ∃ yy, xs[i]? = some yy := ⟨_, List.getElem?_eq_getElem (by omega)⟩
    rw [hyy] at h1
    obtain ⟨y, hcy, _, hw⟩ := DataW.trod_int he h1
    refine ⟨y, ?_, u8_bd hw⟩
    have h2 : (cs.drop i)[0]? = some (.int .u8 y) := by
      have h3 : ((cs.drop i).take 1)[0]? = some (.int .u8 y) := by rw [hcy]; rfl
      rwa [List.getElem?_take_of_lt (by omega)] at h3
    rwa [List.getElem?_drop, Nat.add_zero] at h2
  refine ⟨(List.range n).map fun i => ival cs[i]?, by simp, ?_, hlen, ?_⟩
  · intro y hy
    obtain ⟨i, hi, rfl⟩ := List.mem_map.1 hy
    obtain ⟨y, hy, hb⟩ := hone i (by simpa using hi)
    rw [hy]; exact hb
  · intro i hi
    obtain ⟨y, hy, hb⟩ := hone i hi
    have e : el ((List.range n).map fun i => ival cs[i]?) i = y := by
      rw [el_lt (by simpa using hi), List.getElem_map, List.getElem_range, hy]; rfl
    rw [hy, e]
set_option maxRecDepth 100000 in
set_option maxHeartbeats 8000000 in
theorem walk (cs : Array Value) (zs : List Int) (a1 a2 : Int) (w : World) (hs : cs.size = 12) (hc : ∀ i, i < 12 → cs[i]? = some (.int .u8 (el zs i))) (hl : zs.length = 12) (hz : Bytes zs) (w1 : (Lit.int .u8 a1).wf = true) (w2 : (Lit.int .u8 a2).wf = true) :
    Calls Ycim.prog 5 #[.agg cs, .int .u8 a1, .int .u8 a2] w fun e w' => e = .returned (.bool true) ∧ Below w.heap.size w w' := by
  have h1 := u8_bd w1
  have h2 := u8_bd w2
  clear w1 w2
  have HC : Hid (∀ i, i < 12 → cs[i]? = some (.int .u8 (el zs i))) := hc
  have HL : Hid (zs.length = 12) := hl
  have HZ : Hid (Bytes zs) := hz
  clear hs hc hl hz
  obtain ⟨k, hk⟩ : ∃ k : Nat, a1 % 12 = k := ⟨(a1 % 12).toNat, by omega⟩
  have hk12 : k < 12 := by omega
  obtain ⟨b, hb⟩ : ∃ b, a2 % 128 = b := ⟨_, rfl⟩
  have hb0 : 0 ≤ b := by omega
  have hb1 : b < 128 := by omega
  go_enter Ycim.func5, Ycim.ntmps5
  go_wp2
  try rw [hk]
  try rw [hb]
  obtain ⟨w0, hw0⟩ : ∃ w0, w.alloc (Obj.cells cs 29) = w0 := ⟨_, rfl⟩
  rw [hw0]
  have B0 : Hid (Below w.heap.size w w0) := by
    show Below _ _ _
    rw [← hw0]; exact (Below.refl _ _).alloc (Nat.le_refl _) _
  have hsz0 : w.heap.size < w0.heap.size := by rw [← hw0]; simp
  have SA : Hid (∀ i, i < 12 → w0.cell? ⟨w.heap.size, i, none⟩ = some (.int .u8 (el zs i))) := fun i hi => by
    rw [← hw0, cell_of_row (w.alloc (Obj.cells cs 29)) w.heap.size i cs 29 (0, 0) (MapKept.heap_alloc w _).1]
    exact HC.out i hi
  clear hw0 hk hb h1 h2
  go_loopw [9, 10] (fun d i wr => ∃ q : Nat, i = .int .i64 q ∧ q ≤ k ∧ Owns .u8 5 w0.heap.size wr d (pr (zs.take q)) ∧ Below w0.heap.size w0 wr) (fun _ i _ => k - (intOf i).toNat)
  case atStart => exact ⟨0, rfl, by omega, Owns.nil _ _ _ _, Below.refl _ _⟩
  case round =>
  obtain ⟨q, rfl, hq, ho, hbe⟩ := hrel
  have HO : Hid (Owns .u8 5 w0.heap.size wr u9 (pr (zs.take q))) := ho
  have HB : Hid (Below w0.heap.size w0 wr) := hbe
  have hsz := hbe.size
  clear ho hbe
  have HQL : Hid ((pr (zs.take q)).length = q) := by show _ = _; rw [pr_len, List.length_take, HL.out]; omega
  by_cases hlt : q < k
  · have k1 : wr.cell? ⟨w.heap.size, q, none⟩ = some (.int .u8 (el zs q)) := (HB.out.cell (p := ⟨w.heap.size, q, none⟩) hsz0).trans (SA.out q (by omega))
    have hx := HZ.out.el q
    have hq12 : q < 12 := by omega
    go_wp2_with (at_builtin; refine ap8 _ rfl (.tmp 28) (.tmp 34) rfl rfl (HO.out.alloc _) ?c1 _ _ _ [el zs q % 128 + 128] rfl rfl (sl_one _ _ _ _) ?c2 ?c3)
    case c1 => first | omega | (simp; omega)
    case c2 => have := HQL.out; rw [List.length_singleton]; omega
    case c3 =>
      intro v' w1 hap
      have H2 : Hid (Owns .u8 5 w0.heap.size w1 v' (pr (zs.take (q + 1)))) := by
        show Owns _ _ _ _ _ _
        rw [take_succ_el (by rw [HL.out]; exact hq12), pr_snoc]; exact hap.owns
      have H3 : Hid (Below w0.heap.size w0 w1) := (HB.out.alloc hsz _).trans (hap.below (HO.out.alloc _) (by simp; omega))
      clear hap
      go_wp2
      go_roundw
      case rel => exact ⟨q + 1, by go_num, by omega, H2.out, H3.out⟩
      case measure => simp [intOf]; omega
  · obtain rfl : q = k := by omega
    go_wp2_with (at_builtin; refine ap8 _ rfl (.tmp 36) (.tmp 38) rfl rfl (HO.out.alloc _) ?e1 _ _ _ [b] rfl rfl (sl_one _ _ _ _) ?e2 ?e3)
    case e1 => first | omega | (simp; omega)
    case e2 => have := HQL.out; rw [List.length_singleton]; omega
    case e3 =>
    intro v' w2 hap
    have B2 : Hid (Below w.heap.size w w2) := B0.out.trans (((HB.out.alloc hsz _).trans (hap.below (HO.out.alloc _) (by simp; omega))).mono (by omega))
    have hown := hap.owns
    obtain ⟨ps, hps⟩ : ∃ ps, pr (zs.take q) = ps := ⟨_, rfl⟩
    have PP : Hid (Prom ps) := by show Prom ps; rw [← hps]; exact pr_prom _
    have PB : Hid (Bytes ps) := by show Bytes ps; rw [← hps]; exact pr_bytes _
    have PL : Hid (ps.length = q) := by show _ = _; rw [← hps]; exact HQL.out
    rw [hps] at hown
    obtain ⟨p, c, hv, hcc, mc, sp, _⟩ := hown.shape
    have HZL : Hid ((ps ++ [b]).length = q + 1) := by show _ = _; rw [List.length_append, PL.out]; rfl
    rw [HZL.out] at hv hcc
    have BZ : Hid (Bytes (ps ++ [b])) := PB.out.append (Bytes.one hb0 (by omega))
    have SZ : Hid (Sl .u8 w2 p (ps ++ [b])) := sp
    subst hv
    clear hap hown sp hps HO HB HQL hsz
    by_cases hA : 9 < q ∨ (q = 9 ∧ 1 < b)
    · obtain ⟨e1, e2, e3⟩ := dvs (shape3 PP.out PL.out hA)
      have E1 : Hid (sv (ps ++ [b]) = 0) := sv_fail (by rw [e3]; omega)
      have E2 : Hid (dn (ps ++ [b]) = 0) := e2
      have E3 : Hid (dc (ps ++ [b]) = 3) := e3
      clear e1 e2 e3
      rcases hA with hA | ⟨hA, hA2⟩
      · skip
        go_wp2_with fail
        refine (decodeSigned_any p (q + 1) c (ps ++ [b]) w2 HZL.out (by omega) BZ.out SZ.out).mono ?_
        rintro e w3 ⟨rfl, hw3⟩
        rw [hw3, E1.out, E2.out, E3.out]
        clear hw3 w3
        go_wp2_with fail
        refine (decode_any p (q + 1) c (ps ++ [b]) w2 HZL.out (by omega) BZ.out SZ.out).mono ?_
        rintro e w3 ⟨rfl, hw3⟩
        rw [hw3, E2.out, E3.out]
        clear hw3 w3
        go_wp2
        go_ret
        exact ⟨rfl, B2.out⟩
      · subst hA
        go_wp2_with fail
        refine (decodeSigned_any p (9 + 1) c (ps ++ [b]) w2 HZL.out (by omega) BZ.out SZ.out).mono ?_
        rintro e w3 ⟨rfl, hw3⟩
        rw [hw3, E1.out, E2.out, E3.out]
        clear hw3 w3
        go_wp2_with fail
        refine (decode_any p (9 + 1) c (ps ++ [b]) w2 HZL.out (by omega) BZ.out SZ.out).mono ?_
        rintro e w3 ⟨rfl, hw3⟩
        rw [hw3, E2.out, E3.out]
        clear hw3 w3
        go_wp2
        go_ret
        exact ⟨rfl, B2.out⟩
    · by_cases hB : 0 < q ∧ b = 0
      · obtain ⟨hB1, hB2⟩ := hB
        subst hB2
        have hq9 : q ≤ 9 := by omega
        obtain ⟨e1, e2, e3⟩ := dvs (dec_long' PP.out (by rw [PL.out]; exact hq9) (by rw [PL.out]; exact hB1) [])
        have E1 : Hid (sv (ps ++ [0]) = 0) := sv_fail (by rw [e3]; omega)
        have E2 : Hid (dn (ps ++ [0]) = 0) := e2
        have E3 : Hid (dc (ps ++ [0]) = 2) := e3
        clear e1 e2 e3 hA
        have hA1 : ¬ 9 < q := by omega
        by_cases h9 : q = 9
        · subst h9
          go_wp2_with fail
          refine (decodeSigned_any p (9 + 1) c (ps ++ [0]) w2 HZL.out (by omega) BZ.out SZ.out).mono ?_
          rintro e w3 ⟨rfl, hw3⟩
          rw [hw3, E1.out, E2.out, E3.out]
          clear hw3 w3
          go_wp2_with fail
          refine (decode_any p (9 + 1) c (ps ++ [0]) w2 HZL.out (by omega) BZ.out SZ.out).mono ?_
          rintro e w3 ⟨rfl, hw3⟩
          rw [hw3, E2.out, E3.out]
          clear hw3 w3
          go_wp2
          go_ret
          exact ⟨rfl, B2.out⟩
        · have h9' : ¬ (q : Int) = 9 := by omega
          go_wp2_with fail
          refine (decodeSigned_any p (q + 1) c (ps ++ [0]) w2 HZL.out (by omega) BZ.out SZ.out).mono ?_
          rintro e w3 ⟨rfl, hw3⟩
          rw [hw3, E1.out, E2.out, E3.out]
          clear hw3 w3
          go_wp2_with fail
          refine (decode_any p (q + 1) c (ps ++ [0]) w2 HZL.out (by omega) BZ.out SZ.out).mono ?_
          rintro e w3 ⟨rfl, hw3⟩
          rw [hw3, E2.out, E3.out]
          clear hw3 w3
          go_wp2
          go_ret
          exact ⟨rfl, B2.out⟩
      · have hq9 : q ≤ 9 := by omega
        have hq3 : q = 9 ∨ q = 0 ∨ (0 < q ∧ q < 9) := by omega
        have hbq : (q = 9 → b ≤ 1) ∧ (0 < q → b ≠ 0) := by omega
        obtain ⟨e1, e2, e3⟩ := dvs (dec_ok PP.out (by rw [PL.out]; exact hq9) hb0 hb1 (by rw [PL.out]; intro h; omega) (by rw [PL.out]; intro h; omega) [])
        have hV0 : 0 ≤ val (ps ++ [b]) := val_nonneg _
        have hpar := val_par (ps ++ [b]) (by rw [HZL.out]; omega)
        have hes : sv (ps ++ [b]) = unz (val (ps ++ [b])) := by rw [sv_ok e3, e1]
        have E2 : Hid (dn (ps ++ [b]) = ((q + 1 : Nat) : Int)) := by show _ = _; rw [e2, PL.out]; omega
        have E3 : Hid (dc (ps ++ [b]) = 0) := e3
        obtain ⟨ba, oa, rfl, _, hca⟩ := SZ.out.at (n := 0) (by rw [HZL.out]; omega)
        have k1 : w2.cell? ⟨ba, oa, none⟩ = some (.int .u8 (el (ps ++ [b]) 0)) := hca 0 (by rw [HZL.out]; omega)
        have hf := BZ.out.el 0
        obtain ⟨f, hff⟩ : ∃ f, el (ps ++ [b]) 0 = f := ⟨_, rfl⟩
        rw [hff] at k1 hf hpar
        obtain ⟨s, hss⟩ : ∃ s, unz (val (ps ++ [b])) = s := ⟨_, rfl⟩
        have E1 : Hid (sv (ps ++ [b]) = s) := by show _ = _; rw [hes, hss]
        have hsg : (f % 2 = 1 ∧ s < 0) ∨ (f % 2 = 0 ∧ 0 ≤ s) := by
          rcases (show f % 2 = 1 ∨ f % 2 = 0 by omega) with h | h
          · exact .inl ⟨h, by rw [← hss]; exact unz_neg hV0 (by omega)⟩
          · exact .inr ⟨h, by rw [← hss]; exact unz_pos hV0 (by omega)⟩
        clear e1 e2 e3 hca hff hss hes hpar hV0 hA hB
        rcases hsg with ⟨g1, g2⟩ | ⟨g1, g2⟩
        · rcases hq3 with hq3 | hq3 | ⟨hq3, hq4⟩
          · subst hq3
            have hb2 : ¬ 1 < b := by omega
            have hb3 : ¬ b = 0 := by omega
            go_wp2_with fail
            refine (decodeSigned_any (some ⟨ba, oa, none⟩) (9 + 1) c (ps ++ [b]) w2 HZL.out (by omega) BZ.out SZ.out).mono ?_
            rintro e w3 ⟨rfl, hw3⟩
            rw [hw3, E1.out, E2.out, E3.out]
            clear hw3 w3
            go_wp2_with fail
            refine (decode_any (some ⟨ba, oa, none⟩) (9 + 1) c (ps ++ [b]) w2 HZL.out (by omega) BZ.out SZ.out).mono ?_
            rintro e w3 ⟨rfl, hw3⟩
            rw [hw3, E2.out, E3.out]
            clear hw3 w3
            go_wp2
            go_ret
            exact ⟨rfl, B2.out⟩
          · subst hq3
            go_wp2_with fail
            refine (decodeSigned_any (some ⟨ba, oa, none⟩) (0 + 1) c (ps ++ [b]) w2 HZL.out (by omega) BZ.out SZ.out).mono ?_
            rintro e w3 ⟨rfl, hw3⟩
            rw [hw3, E1.out, E2.out, E3.out]
            clear hw3 w3
            go_wp2_with fail
            refine (decode_any (some ⟨ba, oa, none⟩) (0 + 1) c (ps ++ [b]) w2 HZL.out (by omega) BZ.out SZ.out).mono ?_
            rintro e w3 ⟨rfl, hw3⟩
            rw [hw3, E2.out, E3.out]
            clear hw3 w3
            go_wp2
            go_ret
            exact ⟨rfl, B2.out⟩
          · have hb3 : ¬ b = 0 := by omega
            have h9' : ¬ (q : Int) = 9 := by omega
            have hA1 : ¬ 9 < q := by omega
            go_wp2_with fail
            refine (decodeSigned_any (some ⟨ba, oa, none⟩) (q + 1) c (ps ++ [b]) w2 HZL.out (by omega) BZ.out SZ.out).mono ?_
            rintro e w3 ⟨rfl, hw3⟩
            rw [hw3, E1.out, E2.out, E3.out]
            clear hw3 w3
            go_wp2_with fail
            refine (decode_any (some ⟨ba, oa, none⟩) (q + 1) c (ps ++ [b]) w2 HZL.out (by omega) BZ.out SZ.out).mono ?_
            rintro e w3 ⟨rfl, hw3⟩
            rw [hw3, E2.out, E3.out]
            clear hw3 w3
            go_wp2
            go_ret
            exact ⟨rfl, B2.out⟩
        · have g3 : ¬ s < 0 := by omega
          rcases hq3 with hq3 | hq3 | ⟨hq3, hq4⟩
          · subst hq3
            have hb2 : ¬ 1 < b := by omega
            have hb3 : ¬ b = 0 := by omega
            go_wp2_with fail
            refine (decodeSigned_any (some ⟨ba, oa, none⟩) (9 + 1) c (ps ++ [b]) w2 HZL.out (by omega) BZ.out SZ.out).mono ?_
            rintro e w3 ⟨rfl, hw3⟩
            rw [hw3, E1.out, E2.out, E3.out]
            clear hw3 w3
            go_wp2_with fail
            refine (decode_any (some ⟨ba, oa, none⟩) (9 + 1) c (ps ++ [b]) w2 HZL.out (by omega) BZ.out SZ.out).mono ?_
            rintro e w3 ⟨rfl, hw3⟩
            rw [hw3, E2.out, E3.out]
            clear hw3 w3
            go_wp2
            go_ret
            exact ⟨ret_bool (by rw [decide_eq_false (Int.not_lt.2 g2)]; rfl), B2.out⟩
          · subst hq3
            go_wp2_with fail
            refine (decodeSigned_any (some ⟨ba, oa, none⟩) (0 + 1) c (ps ++ [b]) w2 HZL.out (by omega) BZ.out SZ.out).mono ?_
            rintro e w3 ⟨rfl, hw3⟩
            rw [hw3, E1.out, E2.out, E3.out]
            clear hw3 w3
            go_wp2_with fail
            refine (decode_any (some ⟨ba, oa, none⟩) (0 + 1) c (ps ++ [b]) w2 HZL.out (by omega) BZ.out SZ.out).mono ?_
            rintro e w3 ⟨rfl, hw3⟩
            rw [hw3, E2.out, E3.out]
            clear hw3 w3
            go_wp2
            go_ret
            exact ⟨ret_bool (by rw [decide_eq_false (Int.not_lt.2 g2)]; rfl), B2.out⟩
          · have hb3 : ¬ b = 0 := by omega
            have h9' : ¬ (q : Int) = 9 := by omega
            have hA1 : ¬ 9 < q := by omega
            go_wp2_with fail
            refine (decodeSigned_any (some ⟨ba, oa, none⟩) (q + 1) c (ps ++ [b]) w2 HZL.out (by omega) BZ.out SZ.out).mono ?_
            rintro e w3 ⟨rfl, hw3⟩
            rw [hw3, E1.out, E2.out, E3.out]
            clear hw3 w3
            go_wp2_with fail
            refine (decode_any (some ⟨ba, oa, none⟩) (q + 1) c (ps ++ [b]) w2 HZL.out (by omega) BZ.out SZ.out).mono ?_
            rintro e w3 ⟨rfl, hw3⟩
            rw [hw3, E2.out, E3.out]
            clear hw3 w3
            go_wp2
            go_ret
            exact ⟨ret_bool (by rw [decide_eq_false (Int.not_lt.2 g2)]; rfl), B2.out⟩

set_option maxRecDepth 100000 in
theorem lifted (os : Os) (started : os.Started) (H : Type) (enc : TypeId × Value → H) :
    ReturnsInHanded {} Ycim.checked os 5 .any (Rows.lawS930001AShapeSpec.pre6 enc Ycim.prog Ycim.f5 Rows.lawS930001AShapeRow.domain false) (Rows.lawS930001AShapeSpec.post enc Ycim.prog Ycim.f5 false true false false) := by
  refine returnsInHanded_of_change (C := Ycim.checked) own started (by kernel_rfl) Ycim.func5
    (ChangeSpec.witness6 (enc := enc) (C := Ycim.checked) false ⟨#[], #[.agg #[.int .u8 0, .int .u8 0, .int .u8 0, .int .u8 0, .int .u8 0, .int .u8 0, .int .u8 0, .int .u8 0, .int .u8 0, .int .u8 0, .int .u8 0, .int .u8 0], .int .u8 0, .int .u8 0], []⟩ 8 (by kernel_rfl) (by kernel_rfl) (by kernel_rfl) (by kernel_rfl)) ?_
  intro W base args ds gs before hval0 hW hcnd _
  have hval : ∀ (j : Nat) t v, Ycim.f5.params[j]? = some t → args[j]? = some v → Value.okWide Ycim.prog W .any base t v := hval0
  have hW' := hW
  obtain ⟨p, q, hA0, hV, rfl, hfz, hnd⟩ := hW
  have hA : DataW.TrodAll enc Ycim.prog W 0 (fun _ => true) true Ycim.f5.params.toList args.toList ds p := hA0
  rw [Ycim.params5] at hA hval
  obtain ⟨v0, vs0, d0, ds0, p0, q0, hargs, rfl, rfl, h0, r0⟩ := trodAll_cons hA
  obtain ⟨v1, vs1, d1, ds1, p1, q1, rfl, rfl, rfl, h1, r1⟩ := trodAll_cons r0
  obtain ⟨v2, vs2, d2, ds2, p2, q2, rfl, rfl, rfl, h2, r2⟩ := trodAll_cons r1
  obtain ⟨rfl, rfl, rfl⟩ := trodAll_nil r2
  obtain rfl : args = #[v0, v1, v2] := by cases args; simp_all
  obtain ⟨rfl, rfl⟩ := trodVars_none hV
  obtain ⟨cs, rfl, hsz, _⟩ : ∃ cs, v0 = .agg cs ∧ cs.size = Ycim.prog.cellsOf 29 ∧ Row.okWide Ycim.prog W .any base 29 cs := by
    have := hval 0 29 v0 rfl rfl
    simpa [Value.okWide, Ycim.underlying29] using this
  rw [cells29] at hsz
  have k0 := h0
  have lt0 : ∀ x ∈ p0, x.block < W.heap.size := by obtain ⟨m, hm⟩ := k0; exact DataW.trod_lt m _ _ _ hm
  obtain ⟨zs, hzl, hzb, _, hcell⟩ : ∃ zs : List Int, zs.length = 12 ∧ Bytes zs ∧ cs.toList.length = 12 ∧ ∀ i, i < 12 → cs.toList[i]? = some (.int .u8 (el zs i)) := by
    obtain ⟨fuel, hf⟩ := h0
    exact ints_of_cells Ycim.underlying29 Ycim.underlying5 cells5 cells29 hf
  obtain ⟨a1, rfl, rfl, rfl, w1⟩ := open_int Ycim.underlying5 (hval 1 5 v1 rfl rfl) h1
  obtain ⟨a2, rfl, rfl, rfl, w2⟩ := open_int Ycim.underlying5 (hval 2 5 v2 rfl rfl) h2
  clear hA0 hval0
  refine (walk cs zs a1 a2 W hsz (fun i hi => by rw [← Array.getElem?_toList]; exact hcell i hi) hzl hzb w1 w2).mono fun e W' ⟨he, bel⟩ => ?_
  subst he
  exact ⟨_, rfl, _, _, _, [], _, [], hW', trodAll_mk1 (shut_bool Ycim.underlying4 _), (trodAll_cons_mk (Below.trod laidOut (by kernel_rfl) (of_decide_eq_true (by kernel_rfl)) k0 bel lt0) (trodAll_cons_mk (shut_int Ycim.underlying5 w1) (trodAll_cons_mk (shut_int Ycim.underlying5 w2) trodAll_mk0))), rfl, bel.frame _, fun h => by cases h⟩

theorem over : Rows.lawS930001AShapeRow.holds Ycim.pinned (OpenSpec.ofChange Rows.lawS930001AShapeSpec) :=
  OpenClaim.holds_of_wide 5 Ycim.f5 rfl rfl rfl rfl rfl rfl rfl ⟨rfl, rfl, rfl, rfl, rfl⟩ rfl rfl rfl rfl rfl (by kernel_rfl) Ycim.func5 (by kernel_rfl)
    (of_decide_eq_true (by kernel_rfl)) (by unfold Func.isWrapper; first | (rw [if_pos (by decide +kernel)]; kernel_rfl) | (rw [if_neg (by decide +kernel)]; exact ⟨rfl, rfl⟩))
    (fun os started H enc _ => lifted os started H enc)

/-- ████ THE STATEMENT ████ -/
theorem proved : Rows.LawS930001AShapeSaid := over
#print axioms proved
end Go.Proofs.Ymbrci.lawS930001AShape
