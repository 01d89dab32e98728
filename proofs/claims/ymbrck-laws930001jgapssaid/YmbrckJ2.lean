/-
  zzs930001jgap: its contract; and the list of the gaps.
-/
import Derived.Test.YmbrckJ1
import Derived.Test.YmbrckPut
namespace Go.Proofs.Ymbrck
open Go.RowKit

/-- The i-th gap: the given number, or its complement, in the model's own words. -/
def gp (zs : List Int) (f : Int) (i : Nat) : Int := if (bits .and .u64 (f / 2 ^ (i % 64)) 1 == 1) = true then bits .xor .u64 IntKind.u64.max (el zs i) else el zs i
theorem gp_bd {zs : List Int} (hz : Words zs) (f : Int) (i : Nat) : 0 ≤ gp zs f i ∧ gp zs f i ≤ 18446744073709551615 := by
  unfold gp; split
  · exact u64_bd (wf_bits .xor .u64 _ _)
  · exact hz.el i
set_option maxHeartbeats 1000000 in
theorem jgap_any (a : Option Addr) (len cap : Nat) (zs : List Int) (f : Int) (i : Nat) (w : World) (hl : zs.length = len) (_hf0 : 0 ≤ f) (_hf1 : f ≤ 18446744073709551615) (hz : Words zs) (hi : i < len) (_hm : len ≤ 1000000) (hs : Sl .u64 w a zs) :
    Calls Yckm.prog 10 #[.slice a len cap, .int .u64 f, .int .i64 (i : Int)] w fun e w' => e = .returned (.int .u64 (gp zs f i)) ∧ w' = w := by
  obtain ⟨b, off, ha, _, hcc⟩ := hs.at (n := i) (by omega)
  subst ha
  have hc : w.cell? ⟨b, off + i, none⟩ = some (.int .u64 (el zs i)) := hcc i (by omega)
  have hw := hz.el i
  clear hz hs hcc hl
  by_cases hb : (bits .and .u64 (f / 2 ^ (i % 64)) 1 == 1) = true
  · have HG : Hid (gp zs f i = bits .xor .u64 IntKind.u64.max (el zs i)) := if_pos hb
    go_enter Yckm.func10, Yckm.ntmps10
    go_wp2
    go_ret
    exact ⟨ret_int HG.out.symm, rfl⟩
  · have HG : Hid (gp zs f i = el zs i) := if_neg hb
    have hb' : (bits .and .u64 (f / 2 ^ (i % 64)) 1 == 1) = false := by simpa using hb
    clear hb
    go_enter Yckm.func10, Yckm.ntmps10
    go_wp2
    go_ret
    exact ⟨ret_int HG.out.symm, rfl⟩
def gps (zs : List Int) (f : Int) : List Int := (List.range zs.length).map (gp zs f)
theorem gps_len (zs : List Int) (f : Int) : (gps zs f).length = zs.length := by simp [gps]
theorem gps_el (zs : List Int) (f : Int) {i : Nat} (h : i < zs.length) : el (gps zs f) i = gp zs f i := by
  rw [el_lt (by rw [gps_len]; exact h)]; simp [gps]
theorem gps_words {zs : List Int} (hz : Words zs) (f : Int) : Words (gps zs f) := fun x hx => by
  obtain ⟨i, _, rfl⟩ := List.mem_map.1 hx
  exact gp_bd hz f i
theorem flat_take_succ {xs : List Int} {q : Nat} (h : q < xs.length) : flat (xs.take (q + 1)) = flat (xs.take q) ++ E (el xs q) := by
  rw [take_succ_el h, flat_snoc]
/-- What is left of the room, and whether all has fitted. -/
def Room (gs : List Int) (q : Nat) (R : Int) (fit : Bool) : Prop := (fit = true → R = 18446744073709551615 - ps gs q ∧ ps gs q ≤ 18446744073709551615) ∧ (fit = false → 18446744073709551615 < ps gs q)
theorem room_start (gs : List Int) : Room gs 0 18446744073709551615 true := ⟨fun _ => ⟨by show _ = _ - (0 : Int); omega, by show (0 : Int) ≤ _; omega⟩, fun h => by cases h⟩
theorem room_over {gs : List Int} {q : Nat} {R R' : Int} {fit : Bool} (h : Room gs q R fit) (h0 : 0 ≤ el gs q) (hov : R < el gs q) : Room gs (q + 1) R' false := by
  refine ⟨fun h => absurd h (by simp), fun _ => ?_⟩
  rw [ps]
  cases fit with
  | true => have := (h.1 rfl).1; omega
  | false => have := h.2 rfl; omega
theorem room_fits {gs : List Int} {q : Nat} {R : Int} {fit : Bool} (h : Room gs q R fit) (h0 : 0 ≤ el gs q) (hov : ¬ R < el gs q) : Room gs (q + 1) (R - el gs q) fit := by
  refine ⟨fun hf => ?_, fun hf => ?_⟩
  · have := h.1 hf; rw [ps]; omega
  · have := h.2 hf; rw [ps]; omega
def ten : List Int := [128, 128, 128, 128, 128, 128, 128, 128, 128, 2]
theorem fault1 {ws : List Int} (h : Words ws) : AllOf (flat ws ++ [128]) ws 1 := ⟨h, [128], rfl, .inr ⟨by simp, by omega, dec_trunc (fun x hx => by simp at hx; omega) (by simp)⟩⟩
theorem fault2 {ws : List Int} (h : Words ws) : AllOf (flat ws ++ [133, 0]) ws 2 := ⟨h, _, rfl, .inr ⟨by simp, by omega, dec_long' (ps := [133]) (fun x hx => by simp at hx; omega) (by simp) (by simp) []⟩⟩
theorem fault3 {ws : List Int} (h : Words ws) : AllOf (flat ws ++ ten) ws 3 := ⟨h, _, rfl, .inr ⟨by simp [ten], by omega, dec_over' (ps := [128, 128, 128, 128, 128, 128, 128, 128, 128]) (fun x hx => by simp at hx; omega) rfl (b := 2) (by omega) []⟩⟩
theorem fault0 {ws : List Int} (h : Words ws) : AllOf (flat ws) ws 0 := ⟨h, [], by simp, .inl ⟨rfl, rfl⟩⟩
/-- A fault gives its own code. -/
theorem ans_fault {zs ws ys : List Int} {c code : Int} (h : AllOf zs ws c) (hc : c ≠ 0) (ha : SortAns zs code ys) : code = c :=
  (sortAns_one ha (ys' := []) ⟨ws, c, h, .inl ⟨hc, rfl⟩⟩).1
/-- No fault: the sums, or Overflow. -/
theorem ans_plain {ws ys : List Int} {n : Nat} {R code : Int} {fit : Bool} (hw : Words ws) (hn : ws.length = n) (hr : Room ws n R fit) (ha : SortAns (flat ws) code ys) :
    (fit = false ∧ code = 3) ∨ (fit = true ∧ code = 0 ∧ ys.length = n ∧ ps ws n ≤ 18446744073709551615 ∧ ∀ j, j < n → el ys j = ps ws (j + 1)) := by
  obtain ⟨xs, c, h1, h2⟩ := ha
  obtain ⟨rfl, rfl⟩ := allOf_one ws (fault0 hw) h1
  rw [hn] at h2
  rcases h2 with ⟨a, _⟩ | ⟨_, b, rfl, d, e⟩ | ⟨_, b, rfl⟩
  · exact absurd rfl a
  · refine .inr ⟨?_, rfl, d, b, e⟩
    cases fit with
    | true => rfl
    | false => have := hr.2 rfl; omega
  · refine .inl ⟨?_, rfl⟩
    cases fit with
    | false => rfl
    | true => have := (hr.1 rfl).2; omega
theorem sl_ten (w : World) (e : TypeId) : Sl .u8 (w.alloc (.cells #[.int .u8 128, .int .u8 128, .int .u8 128, .int .u8 128, .int .u8 128, .int .u8 128, .int .u8 128, .int .u8 128, .int .u8 128, .int .u8 2] e)) (some ⟨w.heap.size, 0, none⟩) ten :=
  .inr ⟨w.heap.size, 0, rfl, fun i hi => by
    have h2 : i = 0 ∨ i = 1 ∨ i = 2 ∨ i = 3 ∨ i = 4 ∨ i = 5 ∨ i = 6 ∨ i = 7 ∨ i = 8 ∨ i = 9 := by simp [ten] at hi; omega
    rcases h2 with rfl | rfl | rfl | rfl | rfl | rfl | rfl | rfl | rfl | rfl <;> simp [el, ten]⟩
end Go.Proofs.Ymbrck
