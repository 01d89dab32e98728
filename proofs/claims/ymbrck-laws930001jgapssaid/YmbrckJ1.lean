/-
  DecodeSorted and its one-pass reading zzs930001jmodel: the answer 'SortAns', that only one fits, the two contracts.
-/
import Derived.Test.YmbrckPass
namespace Go.Proofs.Ymbrck
open Go.RowKit

/-! ### running sums -/
def ps (xs : List Int) : Nat → Int
  | 0 => 0
  | j + 1 => ps xs j + el xs j
theorem ps_step {xs : List Int} (h : Words xs) (j : Nat) : ps xs j ≤ ps xs (j + 1) := by have := h.el j; rw [ps]; omega
theorem ps_nonneg {xs : List Int} (h : Words xs) : ∀ j, 0 ≤ ps xs j
  | 0 => Int.le_refl _
  | j + 1 => Int.le_trans (ps_nonneg h j) (ps_step h j)
theorem ps_mono {xs : List Int} (h : Words xs) (i : Nat) : ∀ d, ps xs i ≤ ps xs (i + d)
  | 0 => Int.le_refl _
  | d + 1 => Int.le_trans (ps_mono h i d) (ps_step h (i + d))
theorem ps_le {xs : List Int} (h : Words xs) {i j : Nat} (hij : i ≤ j) : ps xs i ≤ ps xs j := by
  have := ps_mono h i (j - i)
  rwa [show i + (j - i) = j by omega] at this
theorem ps_left (xs ys : List Int) : ∀ j, j ≤ xs.length → ps (xs ++ ys) j = ps xs j
  | 0, _ => rfl
  | j + 1, hj => by rw [ps, ps, ps_left xs ys j (by omega), el_left (by omega)]
theorem ps_snoc (xs : List Int) (v : Int) : ps (xs ++ [v]) (xs ++ [v]).length = ps xs xs.length + v := by
  rw [List.length_append, List.length_singleton, ps, ps_left xs [v] _ (Nat.le_refl _), el_right (Nat.le_refl _), Nat.sub_self, el_zero]

/-- What a decoder of sorted lists answers: the code, and the list where the code is 0. -/
def SortAns (zs : List Int) (code : Int) (ys : List Int) : Prop := ∃ xs c, AllOf zs xs c ∧
  ((c ≠ 0 ∧ code = c) ∨ (c = 0 ∧ ps xs xs.length ≤ 18446744073709551615 ∧ code = 0 ∧ ys.length = xs.length ∧ ∀ j, j < xs.length → el ys j = ps xs (j + 1)) ∨ (c = 0 ∧ 18446744073709551615 < ps xs xs.length ∧ code = 3))
theorem sortAns_one {zs ys ys' : List Int} {code code' : Int} (h : SortAns zs code ys) (h' : SortAns zs code' ys') : code = code' ∧ (code = 0 → ys = ys') := by
  obtain ⟨xs, c, h1, h2⟩ := h
  obtain ⟨xs', c', k1, k2⟩ := h'
  obtain ⟨rfl, rfl⟩ := allOf_one xs h1 k1
  rcases h2 with ⟨a, rfl⟩ | ⟨a, b, rfl, d, e⟩ | ⟨a, b, rfl⟩ <;> rcases k2 with ⟨a', rfl⟩ | ⟨a', b', rfl, d', e'⟩ | ⟨a', b', rfl⟩
  · exact ⟨rfl, fun h0 => absurd h0 a⟩
  · exact absurd a' a
  · exact absurd a' a
  · exact absurd a a'
  · exact ⟨rfl, fun _ => list_ext (by omega) fun i hi => by rw [e i (by omega), e' i (by omega)]⟩
  · omega
  · exact absurd a a'
  · omega
  · exact ⟨rfl, fun h0 => by omega⟩
theorem tup2 {v : Value} {a b : Int} (h : a = b) : Ending.returned (.tuple #[v, .int .i64 a]) = .returned (.tuple #[v, .int .i64 b]) := by rw [h]

/-! ### DecodeSorted -/
/-- The first q of the list have been summed up in place. -/
def Summed (xs L : List Int) (q : Nat) : Prop := L.length = xs.length ∧ (∀ j, j < q → el L j = ps xs (j + 1)) ∧ ∀ j, q ≤ j → el L j = el xs j
theorem summed_step {xs L : List Int} {q : Nat} (h : Summed xs L q) (hq : q < xs.length) {D : Int} (hD : D = ps xs (q + 1)) : Summed xs (L.set q D) (q + 1) := by
  obtain ⟨h1, h2, h3⟩ := h
  refine ⟨by rw [List.length_set, h1], fun j hj => ?_, fun j hj => ?_⟩
  · by_cases e : j = q
    · subst e; rw [el_set_same _ (by omega), hD]
    · rw [el_set_other _ (by omega)]; exact h2 j (by omega)
  · rw [el_set_other _ (by omega)]; exact h3 j (by omega)
/-- What the contracts of the two readers say (a plain name: the walk lets it stand). -/
def SortPost (zs : List Int) (len : Nat) (w : World) (e : Ending) (w' : World) : Prop := ∃ v code ys, e = .returned (.tuple #[v, .int .i64 code]) ∧ SortAns zs code ys ∧ (code ≠ 0 → v = .slice none 0 0) ∧ (code = 0 → Owns .u64 22 w.heap.size w' v ys) ∧ ys.length ≤ len ∧ Below w.heap.size w w'
set_option maxHeartbeats 2000000 in
theorem decodeSorted_any (a : Option Addr) (len cap : Nat) (zs : List Int) (w : World) (hl : zs.length = len) (hm : len ≤ 1000000000000) (hc : len ≤ cap) (hz : Bytes zs) (hs : Sl .u8 w a zs) :
    Calls Yckm.prog 9 #[.slice a len cap] w (SortPost zs len w) := by
  have HS : Hid (Sl .u8 w a zs) := hs
  have HL : Hid (zs.length = len) := hl
  have HZ : Hid (Bytes zs) := hz
  clear hs hl hz
  go_enter Yckm.func9, Yckm.ntmps9
  go_wp2_with fail
  refine (decodeAll_any a len cap zs w HL.out hm hc HZ.out HS.out).mono ?_
  rintro e w1 ⟨v1, xs, c, rfl, hall, hfl, hc0, hc3, hown, hbel⟩
  have hxl : xs.length ≤ len := by have := (flat_len xs).1; omega
  have HW : Hid (Words xs) := hall.1
  have HALL : Hid (AllOf zs xs c) := hall
  have HB : Hid (Below w.heap.size w w1) := hbel
  have HO : Hid (Owns .u64 22 w.heap.size w1 v1 xs) := hown
  obtain ⟨p, cp, hv, hcp, mcp, _, hpg⟩ := hown.shape
  clear hall hbel hown
  by_cases hcode : c = 0
  · subst hcode
    rcases hpg with ⟨rfl, rfl, rfl⟩ | ⟨g, rfl, hg⟩
    · -- no values at all
      subst hv
      go_wp2
      go_loop [8] (fun i => i = .int .i64 0) (fun _ => 0)
      case atStart => rfl
      case round =>
        subst hrel
        go_wp2
        go_ret2
        have hans : SortAns zs 0 [] := ⟨[], 0, HALL.out, .inr (.inl ⟨rfl, by show (0 : Int) ≤ _; omega, rfl, rfl, fun j hj => by simp at hj⟩)⟩
        exact ⟨_, 0, [], rfl, hans, fun h => absurd rfl h, fun _ => HO.out, by simp, HB.out⟩
    · subst hv
      obtain ⟨n, hn⟩ : ∃ n, xs.length = n := ⟨_, rfl⟩
      rw [hn] at hxl ⊢
      have HN : Hid (xs.length = n) := hn
      have HO2 := HO.out
      rw [hn] at HO2
      clear HO hn
      have HO : Hid (Owns .u64 22 w.heap.size w1 (.slice (some ⟨g, 0, none⟩) n cp) xs) := HO2
      clear HO2 hcp
      go_wp2
      go_loopw [7, 8] (fun t i wr => ∃ (q : Nat) (S : Int) (L : List Int), t = .int .u64 S ∧ i = .int .i64 q ∧ q ≤ n ∧ S = ps xs q ∧ 0 ≤ S ∧ S ≤ 18446744073709551615 ∧ Summed xs L q ∧ Owns .u64 22 w.heap.size wr (.slice (some ⟨g, 0, none⟩) n cp) L ∧ Below w.heap.size w wr) (fun _ i _ => n - (intOf i).toNat)
      case atStart => exact ⟨0, 0, xs, rfl, rfl, by omega, rfl, by omega, by omega, ⟨rfl, fun j hj => by omega, fun j _ => rfl⟩, HO.out, HB.out⟩
      case round =>
        clear HO HB
        obtain ⟨q, S, L, rfl, rfl, hq, hS, hS0, hS1, hsum, hown, hbel⟩ := hrel
        have HO : Hid (Owns .u64 22 w.heap.size wr (.slice (some ⟨g, 0, none⟩) n cp) L) := hown
        have HB : Hid (Below w.heap.size w wr) := hbel
        have HSU : Hid (Summed xs L q) := hsum
        have HSS : Hid (S = ps xs q) := hS
        have HLL : Hid (L.length = n) := by show _ = _; rw [hsum.1, HN.out]
        clear hown hbel hsum hS
        by_cases hlt : q < n
        · have c0 : wr.cell? ⟨g, q, none⟩ = some (.int .u64 (el xs q)) := by
            rw [← HSU.out.2.2 q (Nat.le_refl _)]
            exact (HO.out.at (j := q) (by rw [HLL.out]; omega)).1
          have f0 : wr.frozen? ⟨g, q, none⟩ = false := (HO.out.at (j := q) (by rw [HLL.out]; omega)).2
          have hwq := HW.out.el q
          by_cases hov : S + el xs q ≤ 18446744073709551615
          · have hov2 : ¬ S + el xs q < S := by omega
            have HC : Hid (Owns .u64 22 w.heap.size (wr.setCell ⟨g, q, none⟩ (.int .u64 (S + el xs q))) (.slice (some ⟨g, 0, none⟩) n cp) (L.set q (S + el xs q))) := HO.out.set q _
            have HE : Hid (Below w.heap.size w (wr.setCell ⟨g, q, none⟩ (.int .u64 (S + el xs q)))) := HB.out.setCell hg _
            go_wp2
            go_roundw
            case rel => exact ⟨q + 1, S + el xs q, L.set q (S + el xs q), rfl, by go_num, by omega, by rw [ps, HSS.out], by omega, by omega, summed_step HSU.out (by rw [HN.out]; exact hlt) (by rw [ps, HSS.out]), HC.out, HE.out⟩
            case measure => simp [intOf]; omega
          · obtain ⟨nx, hnx⟩ : ∃ nx, IntKind.u64.wrap (S + el xs q) = nx := ⟨_, rfl⟩
            have hnl : nx < S := by rw [← hnx, IntKind.wrap_u64]; omega
            have hbig : 18446744073709551615 < ps xs xs.length := by
              have h1 : ps xs (q + 1) ≤ ps xs xs.length := ps_le HW.out (by rw [HN.out]; omega)
              rw [ps, ← HSS.out] at h1
              omega
            go_wp2
            go_ret2
            exact ⟨_, 3, [], rfl, ⟨xs, 0, HALL.out, .inr (.inr ⟨rfl, hbig, rfl⟩)⟩, fun _ => rfl, fun h => by omega, by simp, HB.out⟩
        · obtain rfl : q = n := by omega
          go_wp2
          go_ret2
          exact ⟨_, 0, L, rfl, ⟨xs, 0, HALL.out, .inr (.inl ⟨rfl, by rw [HN.out, ← HSS.out]; exact hS1, rfl, by rw [HLL.out, HN.out], fun j hj => HSU.out.2.1 j (by rw [← HN.out]; exact hj)⟩)⟩, fun h => absurd rfl h, fun _ => HO.out, by rw [HLL.out]; exact hxl, HB.out⟩
  · have hcb : (c != 0) = true := by simpa using hcode
    subst hv
    go_wp2
    go_ret2
    exact ⟨_, c, [], rfl, ⟨xs, c, HALL.out, .inl ⟨hcode, rfl⟩⟩, fun _ => rfl, fun h => absurd h hcode, by simp, HB.out⟩

/-! ### the one-pass reading -/
/-- The sums so far (O), the last one (S), and whether one did not fit. -/
def JSt (xs O : List Int) (S : Int) (ov : Bool) : Prop := O.length = xs.length ∧ (ov = false → (∀ j, j < xs.length → el O j = ps xs (j + 1)) ∧ ps xs xs.length ≤ 18446744073709551615 ∧ S = ps xs xs.length) ∧ (ov = true → 18446744073709551615 < ps xs xs.length)
theorem jst_over {xs O : List Int} {S v S' : Int} {ov : Bool} (h : JSt xs O S ov) (hv : 0 ≤ v) (hov : 18446744073709551615 - S < v) : JSt (xs ++ [v]) (O ++ [S']) S' true := by
  obtain ⟨h1, h2, h3⟩ := h
  refine ⟨by simp [h1], fun h => absurd h (by simp), fun _ => ?_⟩
  rw [ps_snoc]
  cases ov with
  | false => have := (h2 rfl).2.2; omega
  | true => have := h3 rfl; omega
theorem jst_fits {xs O : List Int} {S v : Int} {ov : Bool} (h : JSt xs O S ov) (hv : 0 ≤ v) (hov : ¬ 18446744073709551615 - S < v) : JSt (xs ++ [v]) (O ++ [S + v]) (S + v) ov := by
  obtain ⟨h1, h2, h3⟩ := h
  refine ⟨by simp [h1], fun h => ?_, fun h => ?_⟩
  · obtain ⟨a, b, c⟩ := h2 h
    refine ⟨fun j hj => ?_, by rw [ps_snoc]; omega, by rw [ps_snoc, c]⟩
    rw [List.length_append, List.length_singleton] at hj
    by_cases e : j < xs.length
    · rw [el_left (by omega), ps_left _ _ _ (by omega)]; exact a j e
    · obtain rfl : j = xs.length := by omega
      have e1 := ps_snoc xs v
      rw [List.length_append, List.length_singleton] at e1
      rw [e1, ← h1, el_right (Nat.le_refl _), Nat.sub_self, el_zero, h1, c]
  · have := h3 h; rw [ps_snoc]; omega
theorem jst_end {zs xs O : List Int} {S : Int} {ov : Bool} (hall : AllOf zs xs 0) (h : JSt xs O S ov) : SortAns zs (if ov then 3 else 0) O := by
  refine ⟨xs, 0, hall, ?_⟩
  cases ov with
  | false => exact .inr (.inl ⟨rfl, (h.2.1 rfl).2.1, rfl, h.1, (h.2.1 rfl).1⟩)
  | true => exact .inr (.inr ⟨rfl, h.2.2 rfl, rfl⟩)
set_option maxHeartbeats 4000000 in
theorem jmodel_any (a : Option Addr) (len cap : Nat) (zs : List Int) (w : World) (hl : zs.length = len) (hm : len ≤ 1000000000000) (hz : Bytes zs) (hs : Sl .u8 w a zs) :
    Calls Yckm.prog 8 #[.slice a len cap] w (SortPost zs len w) := by
  have HS : Hid (Sl .u8 w a zs) := hs
  have HL : Hid (zs.length = len) := hl
  have HZ : Hid (Bytes zs) := hz
  have H0 : Hid (∀ g, (Value.slice none 0 0).ownBlock = some g → g < w.heap.size) := fun g hg => by simp [Value.ownBlock] at hg
  clear hs hl hz
  go_enter Yckm.func8, Yckm.ntmps8
  go_wp2
  go_loopw [4, 5, 6, 7, 8, 9, 10] (fun d su cu sc kk ob i wr => ∃ (xs pp O : List Int) (k q : Nat) (S V P : Int) (ov : Bool), su = .int .u64 S ∧ cu = .int .u64 V ∧ sc = .int .u64 P ∧ kk = .int .i64 k ∧ ob = .bool ov ∧ i = .int .i64 q ∧ q ≤ len ∧ k ≤ 9 ∧ 0 ≤ S ∧ S ≤ 18446744073709551615 ∧ 0 ≤ V ∧ V ≤ 18446744073709551615 ∧ 0 ≤ P ∧ P ≤ 18446744073709551615 ∧ Open zs xs pp q ∧ pp.length = k ∧ V = val pp ∧ P = 128 ^ k ∧ JSt xs O S ov ∧ Ap .u64 22 w.heap.size w (.slice none 0 0) [] wr d O) (fun _ _ _ _ _ _ i _ => len - (intOf i).toNat)
  case atStart => exact ⟨[], [], [], 0, 0, 0, 0, 1, false, rfl, rfl, rfl, rfl, rfl, rfl, by omega, by omega, by omega, by omega, by omega, by omega, by omega, by omega, open_start zs, rfl, rfl, rfl, ⟨rfl, fun _ => ⟨fun j hj => by simp at hj, by show (0 : Int) ≤ _; omega, rfl⟩, fun h => by cases h⟩, Ap.start (Owns.nil _ _ _ _)⟩
  case round =>
    obtain ⟨xs, pp, O, k, q, S, V, P, ov, rfl, rfl, rfl, rfl, rfl, rfl, hq, hk9, hS0, hS1, hV0, hV1, hP0, hP1, hop, hpk, hVv, hPv, hjs, hap⟩ := hrel
    have HA : Hid (Ap .u64 22 w.heap.size w (.slice none 0 0) [] wr _ O) := hap
    have HO : Hid (Open zs xs pp q) := hop
    have HPK : Hid (pp.length = k) := hpk
    have HVV0 : Hid (V = val pp) := hVv
    have HPV : Hid (P = 128 ^ k) := hPv
    have HJ : Hid (JSt xs O S ov) := hjs
    have hsz : w.heap.size ≤ wr.heap.size := hap.size
    have HOL : Hid (O.length ≤ len) := by
      have h1 := (flat_len xs).1
      have h2 := hop.2.2.2.2.2
      have h3 := hjs.1
      show _ ≤ _
      omega
    clear hap hop hpk hVv hPv hjs
    by_cases hlt : q < len
    · have hqz : Hid (q < zs.length) := by show _ < _; rw [HL.out]; exact hlt
      obtain ⟨b, off, ha, hbl, hc⟩ := HS.out.at (n := q) hqz.out
      subst ha
      have c0 : wr.cell? ⟨b, off + q, none⟩ = some (.int .u8 (el zs q)) := (HA.out.belowNil.cell hbl).trans (hc q hqz.out)
      have hbb := HZ.out.el q
      clear hc
      by_cases o1 : k = 9 ∧ 2 ≤ el zs q
      · obtain ⟨o1, o2⟩ := o1
        have hall := open_over HO.out hqz.out (by rw [HPK.out]; exact o1) (by omega)
        have o1' : 9 ≤ k := by omega
        clear o1
        go_wp2
        go_ret2
        exact ⟨_, 3, [], rfl, ⟨xs, 3, hall, .inl ⟨by omega, rfl⟩⟩, fun _ => rfl, fun h => by omega, by simp, HA.out.belowNil⟩
      by_cases l1 : 0 < k ∧ el zs q = 0
      · obtain ⟨l1, l2⟩ := l1
        have hall := open_long HO.out hqz.out (by rw [HPK.out]; exact l1) l2
        have l2' : el zs q ≤ 0 := by omega
        clear l2
        by_cases k9 : 9 ≤ k
        · clear o1
          go_wp2
          go_ret2
          exact ⟨_, 2, [], rfl, ⟨xs, 2, hall, .inl ⟨by omega, rfl⟩⟩, fun _ => rfl, fun h => by omega, by simp, HA.out.belowNil⟩
        · clear o1
          go_wp2
          go_ret2
          exact ⟨_, 2, [], rfl, ⟨xs, 2, hall, .inl ⟨by omega, rfl⟩⟩, fun _ => rfl, fun h => by omega, by simp, HA.out.belowNil⟩
      by_cases h128 : el zs q < 128
      · have hlast := open_last HO.out HZ.out hqz.out h128 (by rw [HPK.out]; omega) (by rw [HPK.out]; omega)
        have hgr := wrap_group pp (el zs q) (by rw [HPK.out]; omega)
        rw [HPK.out, ← HPV.out, ← HVV0.out] at hgr
        have HLAST : Hid (_ ∧ _) := hlast
        obtain ⟨VV, hVV⟩ : ∃ VV, IntKind.u64.wrap (V + IntKind.u64.wrap (el zs q % 128 * P)) = VV := ⟨_, rfl⟩
        have HVV : Hid (VV = val (pp ++ [el zs q])) := by show _ = _; rw [← hVV]; exact hgr.1
        have hVb : 0 ≤ VV ∧ VV ≤ 18446744073709551615 := by rw [← hVV]; exact wrap_bd _
        clear hlast hgr
        by_cases k9 : 9 ≤ k
        · have o2 : ¬ 2 ≤ el zs q := by omega
          have o3 : 0 < el zs q := by omega
          clear o1 l1
          by_cases hov : 18446744073709551615 - S < VV
          · obtain ⟨nx, hnx⟩ : ∃ nx, IntKind.u64.wrap (S + VV) = nx := ⟨_, rfl⟩
            have hnb : 0 ≤ nx ∧ nx ≤ 18446744073709551615 := by rw [← hnx]; exact wrap_bd _
            go_wp2_with (at_builtin; refine ap64 _ rfl (.tmp 54) (.tmp 56) rfl rfl (HA.out.owns.alloc _) ?d1AX _ _ _ [nx] rfl rfl (sl_one _ _ _ _) ?d2AX ?d3AX)
            case d1AX => first | omega | (simp; omega)
            case d2AX => have hol := HOL.out; first | omega | (simp; omega)
            case d3AX =>
              intro v' w1 hap
              have HC : Hid (Ap .u64 22 w.heap.size w (.slice none 0 0) [] w1 v' (O ++ [nx])) := (HA.out.alloc _ H0.out).trans hap H0.out
              clear hap
              go_wp2
              go_roundw
              case rel => exact ⟨xs ++ [VV], [], O ++ [nx], 0, q + 1, nx, 0, 1, true, rfl, rfl, rfl, rfl, rfl, by go_num, by omega, by omega, by omega, by omega, by omega, by omega, by omega, by omega, by rw [HVV.out]; exact HLAST.out.1, rfl, rfl, rfl, jst_over HJ.out (by omega) hov, HC.out⟩
              case measure => simp [intOf]; omega
          · have hfit : S + VV ≤ 18446744073709551615 := by omega
            go_wp2_with (at_builtin; refine ap64 _ rfl (.tmp 54) (.tmp 56) rfl rfl (HA.out.owns.alloc _) ?d1AY _ _ _ [S + VV] rfl rfl (sl_one _ _ _ _) ?d2AY ?d3AY)
            case d1AY => first | omega | (simp; omega)
            case d2AY => have hol := HOL.out; first | omega | (simp; omega)
            case d3AY =>
              intro v' w1 hap
              have HC : Hid (Ap .u64 22 w.heap.size w (.slice none 0 0) [] w1 v' (O ++ [S + VV])) := (HA.out.alloc _ H0.out).trans hap H0.out
              clear hap
              go_wp2
              go_roundw
              case rel => exact ⟨xs ++ [VV], [], O ++ [S + VV], 0, q + 1, S + VV, 0, 1, ov, rfl, rfl, rfl, rfl, rfl, by go_num, by omega, by omega, by omega, by omega, by omega, by omega, by omega, by omega, by rw [HVV.out]; exact HLAST.out.1, rfl, rfl, rfl, jst_fits HJ.out (by omega) (by omega), HC.out⟩
              case measure => simp [intOf]; omega
        · by_cases k0 : 0 < k
          · have o3 : 0 < el zs q := by omega
            clear o1 l1
            by_cases hov : 18446744073709551615 - S < VV
            · obtain ⟨nx, hnx⟩ : ∃ nx, IntKind.u64.wrap (S + VV) = nx := ⟨_, rfl⟩
              have hnb : 0 ≤ nx ∧ nx ≤ 18446744073709551615 := by rw [← hnx]; exact wrap_bd _
              go_wp2_with (at_builtin; refine ap64 _ rfl (.tmp 54) (.tmp 56) rfl rfl (HA.out.owns.alloc _) ?d1BX _ _ _ [nx] rfl rfl (sl_one _ _ _ _) ?d2BX ?d3BX)
              case d1BX => first | omega | (simp; omega)
              case d2BX => have hol := HOL.out; first | omega | (simp; omega)
              case d3BX =>
                intro v' w1 hap
                have HC : Hid (Ap .u64 22 w.heap.size w (.slice none 0 0) [] w1 v' (O ++ [nx])) := (HA.out.alloc _ H0.out).trans hap H0.out
                clear hap
                go_wp2
                go_roundw
                case rel => exact ⟨xs ++ [VV], [], O ++ [nx], 0, q + 1, nx, 0, 1, true, rfl, rfl, rfl, rfl, rfl, by go_num, by omega, by omega, by omega, by omega, by omega, by omega, by omega, by omega, by rw [HVV.out]; exact HLAST.out.1, rfl, rfl, rfl, jst_over HJ.out (by omega) hov, HC.out⟩
                case measure => simp [intOf]; omega
            · have hfit : S + VV ≤ 18446744073709551615 := by omega
              go_wp2_with (at_builtin; refine ap64 _ rfl (.tmp 54) (.tmp 56) rfl rfl (HA.out.owns.alloc _) ?d1BY _ _ _ [S + VV] rfl rfl (sl_one _ _ _ _) ?d2BY ?d3BY)
              case d1BY => first | omega | (simp; omega)
              case d2BY => have hol := HOL.out; first | omega | (simp; omega)
              case d3BY =>
                intro v' w1 hap
                have HC : Hid (Ap .u64 22 w.heap.size w (.slice none 0 0) [] w1 v' (O ++ [S + VV])) := (HA.out.alloc _ H0.out).trans hap H0.out
                clear hap
                go_wp2
                go_roundw
                case rel => exact ⟨xs ++ [VV], [], O ++ [S + VV], 0, q + 1, S + VV, 0, 1, ov, rfl, rfl, rfl, rfl, rfl, by go_num, by omega, by omega, by omega, by omega, by omega, by omega, by omega, by omega, by rw [HVV.out]; exact HLAST.out.1, rfl, rfl, rfl, jst_fits HJ.out (by omega) (by omega), HC.out⟩
                case measure => simp [intOf]; omega
          · clear o1 l1
            by_cases hov : 18446744073709551615 - S < VV
            · obtain ⟨nx, hnx⟩ : ∃ nx, IntKind.u64.wrap (S + VV) = nx := ⟨_, rfl⟩
              have hnb : 0 ≤ nx ∧ nx ≤ 18446744073709551615 := by rw [← hnx]; exact wrap_bd _
              go_wp2_with (at_builtin; refine ap64 _ rfl (.tmp 54) (.tmp 56) rfl rfl (HA.out.owns.alloc _) ?d1CX _ _ _ [nx] rfl rfl (sl_one _ _ _ _) ?d2CX ?d3CX)
              case d1CX => first | omega | (simp; omega)
              case d2CX => have hol := HOL.out; first | omega | (simp; omega)
              case d3CX =>
                intro v' w1 hap
                have HC : Hid (Ap .u64 22 w.heap.size w (.slice none 0 0) [] w1 v' (O ++ [nx])) := (HA.out.alloc _ H0.out).trans hap H0.out
                clear hap
                go_wp2
                go_roundw
                case rel => exact ⟨xs ++ [VV], [], O ++ [nx], 0, q + 1, nx, 0, 1, true, rfl, rfl, rfl, rfl, rfl, by go_num, by omega, by omega, by omega, by omega, by omega, by omega, by omega, by omega, by rw [HVV.out]; exact HLAST.out.1, rfl, rfl, rfl, jst_over HJ.out (by omega) hov, HC.out⟩
                case measure => simp [intOf]; omega
            · have hfit : S + VV ≤ 18446744073709551615 := by omega
              go_wp2_with (at_builtin; refine ap64 _ rfl (.tmp 54) (.tmp 56) rfl rfl (HA.out.owns.alloc _) ?d1CY _ _ _ [S + VV] rfl rfl (sl_one _ _ _ _) ?d2CY ?d3CY)
              case d1CY => first | omega | (simp; omega)
              case d2CY => have hol := HOL.out; first | omega | (simp; omega)
              case d3CY =>
                intro v' w1 hap
                have HC : Hid (Ap .u64 22 w.heap.size w (.slice none 0 0) [] w1 v' (O ++ [S + VV])) := (HA.out.alloc _ H0.out).trans hap H0.out
                clear hap
                go_wp2
                go_roundw
                case rel => exact ⟨xs ++ [VV], [], O ++ [S + VV], 0, q + 1, S + VV, 0, 1, ov, rfl, rfl, rfl, rfl, rfl, by go_num, by omega, by omega, by omega, by omega, by omega, by omega, by omega, by omega, by rw [HVV.out]; exact HLAST.out.1, rfl, rfl, rfl, jst_fits HJ.out (by omega) (by omega), HC.out⟩
                case measure => simp [intOf]; omega
      · have hm8 : k ≤ 8 := by omega
        have hmore := open_more HO.out HZ.out hqz.out (by rw [HPK.out]; exact hm8) (by omega)
        have hgr := wrap_group pp (el zs q) (by rw [HPK.out]; omega)
        rw [HPK.out, ← HPV.out, ← HVV0.out] at hgr
        have HM : Hid (Open zs xs (pp ++ [el zs q]) (q + 1)) := hmore
        have HGR : Hid (_ ∧ _) := hgr
        have h128' : 128 ≤ el zs q := by omega
        clear hmore hgr o1 l1
        by_cases k0 : 0 < k
        · have k00 : 1 ≤ k := by omega
          go_wp2
          go_roundw
          case rel => exact ⟨xs, pp ++ [el zs q], O, k + 1, q + 1, S, _, _, ov, rfl, rfl, rfl, by go_num, rfl, by go_num, by omega, by omega, by omega, by omega, (wrap_bd _).1, (wrap_bd _).2, (wrap_bd _).1, (wrap_bd _).2, HM.out, by rw [List.length_append, HPK.out]; rfl, HGR.out.1, by rw [HPV.out]; exact wrap_place k (by omega), HJ.out, HA.out⟩
          case measure => simp [intOf]; omega
        · have k00 : k ≤ 0 := by omega
          go_wp2
          go_roundw
          case rel => exact ⟨xs, pp ++ [el zs q], O, k + 1, q + 1, S, _, _, ov, rfl, rfl, rfl, by go_num, rfl, by go_num, by omega, by omega, by omega, by omega, (wrap_bd _).1, (wrap_bd _).2, (wrap_bd _).1, (wrap_bd _).2, HM.out, by rw [List.length_append, HPK.out]; rfl, HGR.out.1, by rw [HPV.out]; exact wrap_place k (by omega), HJ.out, HA.out⟩
          case measure => simp [intOf]; omega
    · by_cases k0 : 0 < k
      · have hall := (open_end HO.out (by rw [HL.out]; omega)).1 (by rw [HPK.out]; exact k0)
        go_wp2
        go_ret2
        exact ⟨_, 1, [], rfl, ⟨xs, 1, hall, .inl ⟨by omega, rfl⟩⟩, fun _ => rfl, fun h => by omega, by simp, HA.out.belowNil⟩
      · have hall := (open_end HO.out (by rw [HL.out]; omega)).2 (by rw [HPK.out]; omega)
        have hans := jst_end hall HJ.out
        cases ov with
        | false =>
          go_wp2
          go_ret2
          exact ⟨_, 0, O, rfl, hans, fun h => absurd rfl h, fun _ => HA.out.ownsNew, HOL.out, HA.out.belowNil⟩
        | true =>
          go_wp2
          go_ret2
          exact ⟨_, 3, O, rfl, hans, fun _ => rfl, fun h => by omega, HOL.out, HA.out.belowNil⟩
end Go.Proofs.Ymbrck
