/-
  SHARED GROUND OF THIS SEAT: small facts on numbers, on lists of integers, and on a slice of integers that is read.
-/
import Derived.Test.YmbrciRows
import Derived.WalkKit
import Derived.WalkSpells
import Derived.WalkLawsBesides
import Derived.Deep.QuietTactic
import Derived.BigQuiet
import Derived.OpenShut
namespace Go.Proofs.Ymbrci
open Go.RowKit

/-! ### numbers -/
theorem ret_int {k : IntKind} {a b : Int} (h : a = b) : Ending.returned (.int k a) = .returned (.int k b) := by rw [h]
theorem ret_bool {a b : Bool} (h : a = b) : Ending.returned (.bool a) = .returned (.bool b) := by rw [h]
theorem u8_bd {n : Int} (h : (Lit.int .u8 n).wf = true) : 0 ≤ n ∧ n ≤ 255 := by
  simp [Lit.wf, IntKind.min, IntKind.max, IntKind.signed, IntKind.bits] at h
  omega
theorem u16_bd {n : Int} (h : (Lit.int .u16 n).wf = true) : 0 ≤ n ∧ n ≤ 65535 := by
  simp [Lit.wf, IntKind.min, IntKind.max, IntKind.signed, IntKind.bits] at h
  omega
theorem u32_bd {n : Int} (h : (Lit.int .u32 n).wf = true) : 0 ≤ n ∧ n ≤ 4294967295 := by
  simp [Lit.wf, IntKind.min, IntKind.max, IntKind.signed, IntKind.bits] at h
  omega
theorem u64_bd {n : Int} (h : (Lit.int .u64 n).wf = true) : 0 ≤ n ∧ n ≤ 18446744073709551615 := by
  simp [Lit.wf, IntKind.min, IntKind.max, IntKind.signed, IntKind.bits] at h
  omega
theorem i64_bd {n : Int} (h : (Lit.int .i64 n).wf = true) : -9223372036854775808 ≤ n ∧ n ≤ 9223372036854775807 := by
  simp [Lit.wf, IntKind.min, IntKind.max, IntKind.signed, IntKind.bits] at h
  omega
theorem wrap_bd (n : Int) : 0 ≤ IntKind.u64.wrap n ∧ IntKind.u64.wrap n ≤ 18446744073709551615 := u64_bd (wf_wrap .u64 n)

/-! ### lists of integers -/
/-- The i-th number, 0 behind the end. (A plain name: the walk lets it stand.) -/
def el (zs : List Int) (i : Nat) : Int := zs.getD i 0
theorem el_lt {zs : List Int} {i : Nat} (h : i < zs.length) : el zs i = zs[i] := by simp [el, h]
theorem el_ge {zs : List Int} {i : Nat} (h : zs.length ≤ i) : el zs i = 0 := by simp [el, h]
theorem el_zero (x : Int) (zs : List Int) : el (x :: zs) 0 = x := rfl
theorem el_succ (x : Int) (zs : List Int) (i : Nat) : el (x :: zs) (i + 1) = el zs i := by simp [el]
theorem el_left {xs ys : List Int} {i : Nat} (h : i < xs.length) : el (xs ++ ys) i = el xs i := by simp [el, List.getElem?_append_left h]
theorem el_right {xs ys : List Int} {i : Nat} (h : xs.length ≤ i) : el (xs ++ ys) i = el ys (i - xs.length) := by simp [el, List.getElem?_append_right h]
theorem el_at (xs ys : List Int) (i : Nat) : el (xs ++ ys) (xs.length + i) = el ys i := by rw [el_right (by omega)]; congr 1; omega
theorem el_take {xs : List Int} {n i : Nat} (h : i < n) : el (xs.take n) i = el xs i := by simp [el, h]
theorem el_drop (xs : List Int) (n i : Nat) : el (xs.drop n) i = el xs (n + i) := by simp [el]
theorem el_mem {xs : List Int} {i : Nat} (h : i < xs.length) : el xs i ∈ xs := by rw [el_lt h]; exact List.getElem_mem h
theorem list_ext {xs ys : List Int} (hl : xs.length = ys.length) (h : ∀ i, i < xs.length → el xs i = el ys i) : xs = ys :=
  List.ext_getElem hl fun i h1 h2 => by have := h i h1; rwa [el_lt h1, el_lt h2] at this
theorem take_succ_el {xs : List Int} {n : Nat} (h : n < xs.length) : xs.take (n + 1) = xs.take n ++ [el xs n] := by
  rw [List.take_succ_eq_append_getElem h, el_lt h]
theorem drop_el {xs : List Int} {n : Nat} (h : n < xs.length) : xs.drop n = el xs n :: xs.drop (n + 1) := by
  rw [List.drop_eq_getElem_cons h, el_lt h]

def Bytes (zs : List Int) : Prop := ∀ x ∈ zs, 0 ≤ x ∧ x ≤ 255
def Words (zs : List Int) : Prop := ∀ x ∈ zs, 0 ≤ x ∧ x ≤ 18446744073709551615
theorem Bytes.el {zs : List Int} (h : Bytes zs) (i : Nat) : 0 ≤ el zs i ∧ el zs i ≤ 255 := by
  by_cases hi : i < zs.length
  · exact h _ (el_mem hi)
  · rw [el_ge (by omega)]; omega
theorem Words.el {zs : List Int} (h : Words zs) (i : Nat) : 0 ≤ el zs i ∧ el zs i ≤ 18446744073709551615 := by
  by_cases hi : i < zs.length
  · exact h _ (el_mem hi)
  · rw [el_ge (by omega)]; omega
theorem bytes_of_wf {zs : List Int} (h : ∀ n ∈ zs, (Lit.int .u8 n).wf = true) : Bytes zs := fun x hx => u8_bd (h x hx)
theorem words_of_wf {zs : List Int} (h : ∀ n ∈ zs, (Lit.int .u64 n).wf = true) : Words zs := fun x hx => u64_bd (h x hx)
theorem Bytes.append {xs ys : List Int} (h : Bytes xs) (k : Bytes ys) : Bytes (xs ++ ys) := fun x hx => (List.mem_append.1 hx).elim (h x) (k x)
theorem Bytes.take {xs : List Int} (h : Bytes xs) (n : Nat) : Bytes (xs.take n) := fun x hx => h x (List.mem_of_mem_take hx)
theorem Bytes.drop {xs : List Int} (h : Bytes xs) (n : Nat) : Bytes (xs.drop n) := fun x hx => h x (List.mem_of_mem_drop hx)
theorem Words.append {xs ys : List Int} (h : Words xs) (k : Words ys) : Words (xs ++ ys) := fun x hx => (List.mem_append.1 hx).elim (h x) (k x)
theorem Words.take {xs : List Int} (h : Words xs) (n : Nat) : Words (xs.take n) := fun x hx => h x (List.mem_of_mem_take hx)
theorem Bytes.one {x : Int} (h0 : 0 ≤ x) (h1 : x ≤ 255) : Bytes [x] := fun y hy => by simp at hy; subst hy; exact ⟨h0, h1⟩
theorem Words.one {x : Int} (h0 : 0 ≤ x) (h1 : x ≤ 18446744073709551615) : Words [x] := fun y hy => by simp at hy; subst hy; exact ⟨h0, h1⟩
theorem Bytes.nil : Bytes [] := fun x hx => by simp at hx
theorem Words.nil : Words [] := fun x hx => by simp at hx

/-! ### a slice of integers that is read -/
/-- The numbers 'zs' lie at the address a, one behind the other (nothing is said of the address where there are none). -/
def Sl (k : IntKind) (w : World) (a : Option Addr) (zs : List Int) : Prop :=
  zs = [] ∨ ∃ b off, a = some ⟨b, off, none⟩ ∧ ∀ i, i < zs.length → w.cell? ⟨b, off + i, none⟩ = some (.int k (el zs i))

theorem Sl.nil (k : IntKind) (w : World) (a : Option Addr) : Sl k w a [] := .inl rfl
theorem Sl.at {k : IntKind} {w : World} {a : Option Addr} {zs : List Int} (h : Sl k w a zs) {n : Nat} (hn : n < zs.length) : ∃ b off, a = some ⟨b, off, none⟩ ∧ b < w.heap.size ∧ ∀ i, i < zs.length → w.cell? ⟨b, off + i, none⟩ = some (.int k (el zs i)) := by
  rcases h with rfl | ⟨b, off, ha, hc⟩
  · simp at hn
  · exact ⟨b, off, ha, World.block_lt_of_cell? w _ (hc n hn), hc⟩
theorem Sl.later {k : IntKind} {w w' : World} {a : Option Addr} {zs : List Int} (h : Sl k w a zs) {B : Nat} (hb : Below B w w') (hB : w.heap.size ≤ B) : Sl k w' a zs := by
  by_cases hz : 0 < zs.length
  · obtain ⟨b, off, ha, hlt, hc⟩ := h.at hz
    exact .inr ⟨b, off, ha, fun i hi => (hb.cell (p := ⟨b, off + i, none⟩) (Nat.lt_of_lt_of_le hlt hB)).trans (hc i hi)⟩
  · exact .inl (List.eq_nil_of_length_eq_zero (by omega))
theorem Sl.any {k : IntKind} {w w' : World} {a : Option Addr} {zs : List Int} (h : Sl k w a zs) (hc : ∀ p, w'.cell? p = w.cell? p) : Sl k w' a zs :=
  h.imp id fun ⟨b, off, ha, h'⟩ => ⟨b, off, ha, fun i hi => (hc _).trans (h' i hi)⟩
theorem Sl.quiet {k : IntKind} {w w' : World} {a : Option Addr} {zs : List Int} (h : Sl k w a zs) (hq : ∃ n, w' = w.drewN n) : Sl k w' a zs := by
  obtain ⟨n, rfl⟩ := hq; exact h
theorem Sl.drewN {k : IntKind} {w : World} {a : Option Addr} {zs : List Int} (h : Sl k w a zs) (n : Nat) : Sl k (w.drewN n) a zs := h
theorem sl_of_row {k : IntKind} {w : World} {a : Option Addr} {len cap : Nat} {zs : List Int}
    (h : (a = none ∧ len = 0 ∧ cap = 0 ∧ zs = []) ∨ ∃ x, a = some x ∧ len ≤ cap ∧ cap ≤ maxLen ∧ zs.length = cap ∧ (∀ i, i < zs.length → w.cell? (x.add i) = some (.int k (zs.getD i 0))) ∧ ∀ n ∈ zs, (Lit.int k n).wf = true) :
    ∃ es : List Int, es.length = len ∧ len ≤ cap ∧ cap ≤ 9223372036854775807 ∧ Sl k w a es ∧ (∀ n ∈ es, (Lit.int k n).wf = true) ∧ (a = none → len = 0 ∧ cap = 0) := by
  rcases h with ⟨rfl, rfl, rfl, rfl⟩ | ⟨x, rfl, h1, h2, h3, h4, h5⟩
  · exact ⟨[], rfl, Nat.le_refl _, by omega, .inl rfl, by simp, fun _ => ⟨rfl, rfl⟩⟩
  · refine ⟨zs.take len, by simp; omega, h1, by unfold maxLen at h2; exact h2, ?_, fun n hn => h5 n (List.mem_of_mem_take hn), by simp⟩
    by_cases hl : len = 0
    · subst hl; exact .inl (by simp)
    · obtain ⟨b, off, spot⟩ := x
      have hspot : spot = none := by simpa [Addr.add] using World.cell?_spot (h4 0 (by omega))
      subst hspot
      refine .inr ⟨b, off, rfl, fun i hi => ?_⟩
      have hi' : i < len := by simp at hi; omega
      have := h4 i (by omega)
      rw [Addr.add_lit] at this
      rw [this, el_take hi']; rfl
theorem Sl.sub {k : IntKind} {w : World} {b off : Nat} {zs : List Int} (h : Sl k w (some ⟨b, off, none⟩) zs) (lo hi : Nat) (hh : hi ≤ zs.length) : Sl k w (some ⟨b, off + lo, none⟩) ((zs.take hi).drop lo) := by
  by_cases hz : lo < hi
  · obtain ⟨b', off', ha, _, hc⟩ := h.at (n := lo) (by omega)
    simp at ha
    obtain ⟨rfl, rfl⟩ := ha
    refine .inr ⟨b, off + lo, rfl, fun i hi' => ?_⟩
    simp at hi'
    rw [el_drop, el_take (by omega), Nat.add_assoc]
    exact hc _ (by omega)
  · exact .inl (by apply List.drop_eq_nil_of_le; simp; omega)
theorem Sl.pre {k : IntKind} {w : World} {a : Option Addr} {zs : List Int} (h : Sl k w a zs) (n : Nat) : Sl k w a (zs.take n) := by
  rcases h with rfl | ⟨b, off, rfl, hc⟩
  · exact .inl (by simp)
  · exact .inr ⟨b, off, rfl, fun i hi => by simp at hi; rw [el_take (by omega)]; exact hc i (by omega)⟩

theorem drews {w w' : World} (h : ∃ n, w' = w.drewN n) {B : Nat} {w0 : World} (hb : Below B w0 w) : Below B w0 w' := by
  obtain ⟨n, rfl⟩ := h; exact below_drewN hb n

/-! ### cuts of a slice -/
theorem addr_add0 (a : Addr) : a.add 0 = a := by
  simp [Addr.add]
/-- The address behind a cut at lo (a plain name: the walk lets it stand). -/
def cutAddr (a : Option Addr) (lo cap : Nat) : Option Addr := if cap = lo then a else a.map (·.add lo)
theorem Sl.cut {k : IntKind} {w : World} {a : Option Addr} {zs : List Int} (h : Sl k w a zs) {lo cap : Nat} (hc : zs.length ≤ cap) : Sl k w (cutAddr a lo cap) (zs.drop lo) := by
  by_cases hz : lo < zs.length
  · obtain ⟨b, off, rfl, _, hcc⟩ := h.at hz
    refine .inr ⟨b, off + lo, ?_, fun i hi => ?_⟩
    · unfold cutAddr
      rw [if_neg (by omega)]
      simp [Addr.add_lit]
    · simp at hi
      rw [el_drop, Nat.add_assoc]
      exact hcc _ (by omega)
  · exact .inl (List.drop_eq_nil_of_le (by omega))
theorem run_pre {P : Program} {t e : TypeId} (ht : P.underlying t = some (.slice e)) {n : Nat} (hs : ∀ w, (sizeOf e).run P w = .ok n w) (a : Option Addr) (len cap h : Nat) (hh : h ≤ cap) (w : World) :
    (Instr.slice t (.slice a len cap) none (some (.int .i64 (h : Int))) none).run P w = .ok (.slice a h cap) w := by
  have e1 : (if cap = 0 then a else Option.map (fun x => x.add 0) a) = a := by
    split
    · rfl
    · cases a <;> simp [addr_add0]
  simp [Instr.slice, run_underlying ht, Instr.sliceBounds, run_sliceBound, hh, hs, e1]
theorem run_suf {P : Program} {t e : TypeId} (ht : P.underlying t = some (.slice e)) (hs : ∀ w, (sizeOf e).run P w = .ok 1 w) (a : Option Addr) (len cap lo : Nat) (hh : lo ≤ len) (w : World) :
    (Instr.slice t (.slice a len cap) (some (.int .i64 (lo : Int))) none none).run P w = .ok (.slice (cutAddr a lo cap) (len - lo) (cap - lo)) w := by
  simp [Instr.slice, run_underlying ht, Instr.sliceBounds, run_sliceBound, hh, hs, cutAddr]
theorem size8 (w : World) : (sizeOf 5).run Ycim.prog w = .ok 1 w := by kernel_rfl
theorem size64 (w : World) : (sizeOf 27).run Ycim.prog w = .ok 1 w := by kernel_rfl
end Go.Proofs.Ymbrci
