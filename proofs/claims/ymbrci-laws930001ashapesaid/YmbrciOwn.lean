/-
  SLICES OF INTEGERS THAT THE CALL ITSELF MADE: what 'append' does to them, told once: 'Ap'.
-/
import Derived.Test.YmbrciBase
import Derived.Laws.CopyOwn
namespace Go.Proofs.Ymbrci
open Go.RowKit

/-- The slice value v owns the numbers xs, in a block from 'base' on (or is nil, and owns none). -/
def Owns (k : IntKind) (e : TypeId) (base : Nat) (w : World) (v : Value) (xs : List Int) : Prop := w.ownsRow base e 1 v xs.length (xs.map (Value.int k))

theorem el_map (k : IntKind) (xs : List Int) {j : Nat} (h : j < xs.length) : (xs.map (Value.int k))[j]? = some (.int k (el xs j)) := by
  rw [el_lt h]; simp [h]
theorem Owns.nil (k : IntKind) (e : TypeId) (base : Nat) (w : World) : Owns k e base w (.slice none 0 0) [] := World.ownsRow_nil w base e 1
theorem Owns.alloc {k : IntKind} {e : TypeId} {base : Nat} {w : World} {v : Value} {xs : List Int} (h : Owns k e base w v xs) (o : Obj) : Owns k e base (w.alloc o) v xs := World.ownsRow.alloc h o
theorem Owns.lt {k : IntKind} {e : TypeId} {base : Nat} {w : World} {v : Value} {xs : List Int} (h : Owns k e base w v xs) : ∀ g, v.ownBlock = some g → base ≤ g ∧ g < w.heap.size := World.ownsRow.lt h
theorem Owns.mono {k : IntKind} {e : TypeId} {base base' : Nat} {w : World} {v : Value} {xs : List Int} (h : Owns k e base w v xs) (hb : base' ≤ base) : Owns k e base' w v xs :=
  ⟨h.1, h.2.imp id fun ⟨g, cap, cur, h1, h2, h3⟩ => ⟨g, cap, cur, h1, Nat.le_trans hb h2, h3⟩⟩
/-- Another world in which the value's own block is the same. -/
theorem Owns.kept {k : IntKind} {e : TypeId} {base : Nat} {w w' : World} {v : Value} {xs : List Int} (h : Owns k e base w v xs) (hb : ∀ g, v.ownBlock = some g → w'.heap[g]? = w.heap[g]?) : Owns k e base w' v xs := by
  refine ⟨h.1, h.2.imp id fun ⟨g, cap, cur, hv, h2, h3, h4⟩ => ⟨g, cap, cur, hv, h2, ?_, h4⟩⟩
  rw [hb g (by rw [hv]; rfl)]; exact h3
theorem Owns.later {k : IntKind} {e : TypeId} {base B : Nat} {w w' : World} {v : Value} {xs : List Int} (h : Owns k e base w v xs) (hb : Below B w w') (hB : w.heap.size ≤ B) : Owns k e base w' v xs :=
  h.kept fun g hg => hb.block g (Nat.lt_of_lt_of_le (h.lt g hg).2 hB)
/-- The value's shape, and its numbers as they are read. -/
theorem Owns.shape {k : IntKind} {e : TypeId} {base : Nat} {w : World} {v : Value} {xs : List Int} (h : Owns k e base w v xs) :
    ∃ a cap, v = .slice a xs.length cap ∧ xs.length ≤ cap ∧ cap ≤ 9223372036854775807 ∧ Sl k w a xs ∧ ((a = none ∧ xs = [] ∧ cap = 0) ∨ ∃ g, a = some ⟨g, 0, none⟩ ∧ base ≤ g) := by
  rcases h.2 with ⟨hv, hn⟩ | ⟨g, cap, cur, hv, hg, hh, h1, h2, h3, h4⟩
  · have : xs = [] := List.eq_nil_of_length_eq_zero hn
    subst this
    exact ⟨none, 0, hv, Nat.le_refl _, by omega, .inl rfl, .inl ⟨rfl, rfl, rfl⟩⟩
  · refine ⟨some ⟨g, 0, none⟩, cap, hv, h1, by unfold maxLen at h2; exact h2, ?_, .inr ⟨g, rfl, hg⟩⟩
    refine .inr ⟨g, 0, rfl, fun i hi => ?_⟩
    have := World.ownsRow.cells h (g := g) (by rw [hv]; rfl) i _ (el_map k xs hi)
    rwa [Addr.add_lit] at this
theorem Owns.sl {k : IntKind} {e : TypeId} {base : Nat} {w : World} {a : Option Addr} {n cap : Nat} {xs : List Int} (h : Owns k e base w (.slice a n cap) xs) : n = xs.length ∧ xs.length ≤ cap ∧ cap ≤ 9223372036854775807 ∧ Sl k w a xs := by
  obtain ⟨a', cap', hv, h1, h2, h3, _⟩ := h.shape
  simp only [Value.slice.injEq] at hv
  obtain ⟨rfl, rfl, rfl⟩ := hv
  exact ⟨rfl, h1, h2, h3⟩

/-- WHAT APPENDING ks HAS MADE OF (w0, v0), v0 owning xs. -/
structure Ap (k : IntKind) (e : TypeId) (base : Nat) (w0 : World) (v0 : Value) (xs : List Int) (w : World) (v : Value) (ks : List Int) : Prop where
  owns : Owns k e base w v (xs ++ ks)
  os : w.os = w0.os
  tape : w.tape = w0.tape
  output : w.output = w0.output
  size : w0.heap.size ≤ w.heap.size
  block : ∀ j, j < w0.heap.size → some j ≠ v0.ownBlock → w.heap[j]? = w0.heap[j]?
  own : ∀ g, v.ownBlock = some g → v0.ownBlock = some g ∨ w0.heap.size ≤ g
  same : ks = [] → v = v0
  spare : ∀ g cap, v0 = .slice (some ⟨g, 0, none⟩) xs.length cap →
    (∃ cur cur' : Array Value, w0.heap[g]? = some (.cells cur e (0, 0)) ∧ w.heap[g]? = some (.cells cur' e (0, 0)) ∧ cur'.size = cur.size ∧ ∀ j, j < xs.length ∨ xs.length + ks.length ≤ j → cur'[j]? = cur[j]?) ∧
    (xs.length + ks.length ≤ cap → v = .slice (some ⟨g, 0, none⟩) (xs.length + ks.length) cap) ∧ (cap < xs.length + ks.length → ∀ g', v.ownBlock = some g' → w0.heap.size ≤ g')

theorem Owns.cur {k : IntKind} {e : TypeId} {base : Nat} {w : World} {v : Value} {xs : List Int} (h : Owns k e base w v xs) {g n cap : Nat} (hv : v = .slice (some ⟨g, 0, none⟩) n cap) :
    ∃ cur : Array Value, w.heap[g]? = some (.cells cur e (0, 0)) ∧ cur.size = cap ∧ xs.length ≤ cap := by
  rcases h.2 with ⟨hv', _⟩ | ⟨g', cap', cur, hv', _, hh, h1, _, h3, _⟩
  · rw [hv] at hv'; simp at hv'
  · rw [hv] at hv'
    simp at hv'
    obtain ⟨rfl, _, rfl⟩ := hv'
    exact ⟨cur, hh, by simpa using h3, h1⟩
theorem Ap.start {k : IntKind} {e : TypeId} {base : Nat} {w : World} {v : Value} {xs : List Int} (h : Owns k e base w v xs) : Ap k e base w v xs w v [] := by
  refine ⟨by simpa using h, rfl, rfl, rfl, Nat.le_refl _, fun _ _ _ => rfl, fun g hg => .inl hg, fun _ => rfl, fun g cap hv => ⟨?_, fun _ => by simpa using hv, fun hc => ?_⟩⟩
  · obtain ⟨cur, h1, _⟩ := h.cur hv
    exact ⟨cur, cur, h1, h1, rfl, fun _ _ => rfl⟩
  · obtain ⟨_, _, _, h3⟩ := h.cur hv
    simp at hc; omega
theorem Ap.trans {k : IntKind} {e : TypeId} {base : Nat} {w0 w w' : World} {v0 v v' : Value} {xs ks ls : List Int} (h : Ap k e base w0 v0 xs w v ks) (h' : Ap k e base w v (xs ++ ks) w' v' ls) (h0 : ∀ g, v0.ownBlock = some g → g < w0.heap.size) : Ap k e base w0 v0 xs w' v' (ks ++ ls) := by
  have hblk : ∀ j, j < w0.heap.size → some j ≠ v0.ownBlock → some j ≠ v.ownBlock := fun j hj hne e' => by
    rcases h.own j e'.symm with h1 | h1
    · exact hne h1.symm
    · omega
  refine ⟨by rw [← List.append_assoc]; exact h'.owns, h'.os.trans h.os, h'.tape.trans h.tape, h'.output.trans h.output, Nat.le_trans h.size h'.size,
    fun j hj hne => (h'.block j (Nat.lt_of_lt_of_le hj h.size) (hblk j hj hne)).trans (h.block j hj hne), fun g hg => ?_, fun hk => ?_, fun g cap hv => ?_⟩
  · rcases h'.own g hg with h1 | h1
    · exact h.own g h1
    · exact .inr (Nat.le_trans h.size h1)
  · have hk' := List.append_eq_nil_iff.1 hk
    rw [h'.same hk'.2, h.same hk'.1]
  · obtain ⟨⟨cur, cur', c1, c2, c3, c4⟩, s1, s2⟩ := h.spare g cap hv
    have hg0 : g < w0.heap.size := h0 g (by rw [hv]; rfl)
    by_cases hfit : xs.length + ks.length ≤ cap
    · have hv1 := s1 hfit
      have hv2 : v = .slice (some ⟨g, 0, none⟩) (xs ++ ks).length cap := by rw [hv1, List.length_append]
      obtain ⟨⟨d, d', d1, d2, d3, d4⟩, r1, r2⟩ := h'.spare g cap hv2
      rw [c2] at d1
      simp at d1
      subst d1
      refine ⟨⟨cur, d', c1, d2, d3.trans c3, fun j hj => ?_⟩, fun hf => ?_, fun hf g' hg' => ?_⟩
      · rw [List.length_append] at hj
        rw [d4 j (by rw [List.length_append]; omega), c4 j (by omega)]
      · rw [List.length_append] at hf
        rw [r1 (by rw [List.length_append]; omega), List.length_append, List.length_append, Nat.add_assoc]
      · rw [List.length_append] at hf
        exact Nat.le_trans h.size (r2 (by rw [List.length_append]; omega) g' hg')
    · have hnew := s2 (by omega)
      have hne : some g ≠ v.ownBlock := fun e' => by have := hnew g e'.symm; omega
      refine ⟨⟨cur, cur', c1, (h'.block g (Nat.lt_of_lt_of_le hg0 h.size) hne).trans c2, c3, fun j hj => c4 j (by rw [List.length_append] at hj; omega)⟩, fun hf => by rw [List.length_append] at hf; omega, fun _ g' hg' => ?_⟩
      rcases h'.own g' hg' with h1 | h1
      · exact hnew g' h1
      · exact Nat.le_trans h.size h1
/-- New blocks laid beside. -/
theorem Ap.alloc {k : IntKind} {e : TypeId} {base : Nat} {w0 w : World} {v0 v : Value} {xs ks : List Int} (h : Ap k e base w0 v0 xs w v ks) (o : Obj) (h0 : ∀ g, v0.ownBlock = some g → g < w0.heap.size) : Ap k e base w0 v0 xs (w.alloc o) v ks := by
  have hb : ∀ j, j < w.heap.size → (w.alloc o).heap[j]? = w.heap[j]? := fun j hj => Below.heap_alloc w o j hj
  refine ⟨h.owns.alloc o, h.os, h.tape, h.output, Nat.le_trans h.size (by simp), fun j hj hne => (hb j (Nat.lt_of_lt_of_le hj h.size)).trans (h.block j hj hne), h.own, h.same, fun g cap hv => ?_⟩
  obtain ⟨⟨cur, cur', c1, c2, c3⟩, s⟩ := h.spare g cap hv
  exact ⟨⟨cur, cur', c1, (hb g (Nat.lt_of_lt_of_le (h0 g (by rw [hv]; rfl)) h.size)).trans c2, c3⟩, s⟩
theorem Ap.below {k : IntKind} {e : TypeId} {base : Nat} {w0 w : World} {v0 v : Value} {xs ks : List Int} (h : Ap k e base w0 v0 xs w v ks) (h0 : Owns k e base w0 v0 xs) (hb : base ≤ w0.heap.size) : Below base w0 w :=
  ⟨h.os, h.tape, h.output, h.size, fun j hj => h.block j (Nat.lt_of_lt_of_le hj hb) fun e' => by have := (h0.lt j e'.symm).1; omega⟩
/-- Where v0 was nil, all that was there is as it was. -/
theorem Ap.belowNil {k : IntKind} {e : TypeId} {base : Nat} {w0 w : World} {v : Value} {ks : List Int} (h : Ap k e base w0 (.slice none 0 0) [] w v ks) : Below w0.heap.size w0 w :=
  ⟨h.os, h.tape, h.output, h.size, fun j hj => h.block j hj (by simp [Value.ownBlock])⟩
theorem Ap.ownsNew {k : IntKind} {e : TypeId} {base : Nat} {w0 w : World} {v : Value} {ks : List Int} (h : Ap k e base w0 (.slice none 0 0) [] w v ks) : Owns k e w0.heap.size w v ks := by
  have h1 := h.owns
  rw [List.nil_append] at h1
  refine ⟨h1.1, h1.2.imp id fun ⟨g, cap, cur, hv, _, h3⟩ => ⟨g, cap, cur, hv, ?_, h3⟩⟩
  rcases h.own g (by rw [hv]; rfl) with h2 | h2
  · simp [Value.ownBlock] at h2
  · exact h2
/-- Another slice that the call owns, in another block, is untouched. -/
theorem Ap.other {k k' : IntKind} {e e' : TypeId} {base base' : Nat} {w0 w : World} {v0 v u : Value} {xs ks us : List Int} (h : Ap k e base w0 v0 xs w v ks) (hu : Owns k' e' base' w0 u us) (hne : u.ownBlock = none ∨ u.ownBlock ≠ v0.ownBlock) : Owns k' e' base' w u us :=
  hu.kept fun g hg => h.block g (hu.lt g hg).2 fun e1 => by
    rcases hne with h1 | h1
    · rw [h1] at hg; cases hg
    · exact h1 (hg.trans e1)

/-- The front of an owned slice. -/
theorem Owns.pre {k : IntKind} {e : TypeId} {base : Nat} {w : World} {g n cap : Nat} {xs : List Int} (h : Owns k e base w (.slice (some ⟨g, 0, none⟩) n cap) xs) {m : Nat} (hm : m ≤ xs.length) : Owns k e base w (.slice (some ⟨g, 0, none⟩) m cap) (xs.take m) := by
  have hl : (xs.take m).length = m := by rw [List.length_take]; omega
  rcases h.2 with ⟨h', _⟩ | ⟨g', cap', cur, h', hb, hg, hnc, hcm, hcs, htake⟩
  · simp at h'
  · simp at h'
    obtain ⟨rfl, _, rfl⟩ := h'
    refine ⟨by simp, .inr ⟨g, cap, cur, by rw [hl], hb, hg, by omega, hcm, hcs, ?_⟩⟩
    rw [hl, List.map_take, ← htake, List.take_take]
    congr 1; omega
/-! ### the law of append -/
section
variable {P : Program}
theorem run_append_none (w : World) (t ty e : TypeId) (i : TypeInfo) (ht : P.underlying t = some (.slice e)) (hi : P.info? e = some i) (base : Option Addr) (sLen sCap : Nat) (hle : sLen ≤ sCap) (a : Option Addr) (c : Nat) :
    (Builtin.append_ #[t, t] ty #[.slice base sLen sCap, .slice a 0 c]).run P w = .ok (.slice base sLen sCap) w := by
  cases base <;> cases a <;> simp [Builtin.append_, run_underlying ht, sizeOf, typeInfo, hi, Builtin.lenOf, Builtin.firstCells, loadCells, loadCellsFrom, storeCells, hle]
theorem run_ap (k : IntKind) (e : TypeId) (base : Nat) (t ty : TypeId) (i : TypeInfo) (z : Value) (bytes : Nat) (ht : P.underlying t = some (.slice e)) (hi : P.info? e = some i) (hz : i.zero = some z) (hsize : i.size = 1) (hby : i.bytes = bytes) (hzs : z.cells.size = 1)
    {w : World} {v : Value} {xs : List Int} (h : Owns k e base w v xs) (hb : base ≤ w.heap.size) (a : Option Addr) (c : Nat) (ks : List Int) (hs : Sl k w a ks) (h63 : xs.length + ks.length ≤ maxLen) (hbytes : (xs.length + ks.length) * bytes ≤ 140737488355328) :
    ∃ v' w', (Builtin.append_ #[t, t] ty #[v, .slice a ks.length c]).run P w = .ok v' w' ∧ Ap k e base w v xs w' v' ks := by
  by_cases hk : ks = []
  · subst hk
    obtain ⟨a', cap', hv, h1, _⟩ := h.shape
    rw [hv]
    exact ⟨_, w, run_append_none w t ty e i ht hi a' xs.length cap' h1 a c, by rw [← hv]; exact Ap.start h⟩
  have hkp : 0 < ks.length := List.length_pos_iff.2 hk
  obtain ⟨b, off, rfl, _, hcell⟩ := hs.at hkp
  have hnews : ∀ j u, (ks.map (Value.int k))[j]? = some u → w.cell? ((⟨b, off, none⟩ : Addr).add j) = some u := fun j u hu => by
    have hj : j < ks.length := by have := (List.getElem?_eq_some_iff.1 hu).1; simpa using this
    rw [el_map k ks hj] at hu
    rw [Addr.add_lit, hcell j hj]; exact hu
  have hone : ∀ u ∈ ks.map (Value.int k), u.oneCell' = true := fun u hu => by
    obtain ⟨x, _, rfl⟩ := List.mem_map.1 hu; rfl
  have hnl : (ks.map (Value.int k)).length = ks.length * 1 := by simp
  have hmap : (xs ++ ks).map (Value.int k) = xs.map (Value.int k) ++ ks.map (Value.int k) := List.map_append
  rcases h.2 with ⟨rfl, hn⟩ | ⟨g, cap, cur, rfl, hbg, hg, hnc, hcm, hcs, htake⟩
  · -- nil
    have hx : xs = [] := List.eq_nil_of_length_eq_zero hn
    subst hx
    obtain ⟨v', w', hrun, r1, r2, r3⟩ := run_append_own (P := P) w w.heap.size t ty e i z 1 bytes ht hi hz hsize hby hzs (by omega) (.slice none 0 0) 0 [] (World.ownsRow_nil w _ e 1) ⟨b, off, none⟩ ks.length c (ks.map (Value.int k)) hnl hnews hone (by simpa using h63) (by simpa using hbytes) (Nat.le_refl _)
    have r1' : Owns k e w.heap.size w' v' ks := by simpa [Owns] using r1
    refine ⟨v', w', hrun, (show Owns k e base w' v' ([] ++ ks) from r1'.mono hb), r2.os, r2.tape, r2.output, r2.size, fun j hj hne => r2.block j hj hne, fun g hg => .inr (r1'.lt g hg).1, fun hk' => absurd hk' hk, fun g cap hv => by simp at hv⟩
  · have hcs' : cur.size = cap := by simpa using hcs
    by_cases hroom : xs.length + ks.length ≤ cap
    · -- room
      have hrun := run_append_room (P := P) w t ty e i ht hi g xs.length cap cur hg ⟨b, off, none⟩ ks.length c (ks.map (Value.int k)) (by rw [hsize]; exact hnl) hnews hone hroom (by rw [hsize]; simp; omega)
      rw [hsize] at hrun
      have htk : cur.toList.take (xs.length * 1) = xs.map (Value.int k) := htake
      rw [htk] at hrun
      simp only [Nat.mul_one, List.length_map] at hrun
      have hgl : g < w.heap.size := (Array.getElem?_eq_some_iff.1 hg).1
      have hgrow : w.grownBy (w.setRow g (xs.map (Value.int k) ++ ks.map (Value.int k) ++ cur.toList.drop (xs.length + ks.length)).toArray) (some g) :=
        ⟨rfl, rfl, rfl, by simp [World.setRow], fun j _ hj => setRow_other w g j _ (fun e' => hj (by rw [e']))⟩
      have hheap := setRow_heap w g cur (xs.map (Value.int k) ++ ks.map (Value.int k) ++ cur.toList.drop (xs.length + ks.length)).toArray e (0, 0) hg
      have hsz : (xs.map (Value.int k) ++ ks.map (Value.int k) ++ cur.toList.drop (xs.length + ks.length)).toArray.size = cur.size := by simp; omega
      refine ⟨_, _, hrun, ?_, hgrow.os, hgrow.tape, hgrow.output, hgrow.size, fun j hj hne => hgrow.block j hj hne, fun g' hg' => .inl hg', fun hk' => absurd hk' hk, fun g' cap' hv => ?_⟩
      · refine ⟨by simp, .inr ⟨g, cap, _, by rw [List.length_append], hbg, hheap, by rw [List.length_append]; exact hroom, hcm, by rw [hsz]; simpa using hcs', ?_⟩⟩
        have : ((xs ++ ks).map (Value.int k)).length = (xs ++ ks).length * 1 := by simp
        rw [← this, hmap]
        exact List.take_left
      · simp at hv
        obtain ⟨rfl, rfl⟩ := hv
        refine ⟨⟨cur, _, hg, hheap, hsz, fun j hj => ?_⟩, fun _ => rfl, fun hf => by omega⟩
        simp only [List.getElem?_toArray]
        rcases hj with hj | hj
        · rw [List.append_assoc, List.getElem?_append_left (by simpa using hj), ← htk, List.getElem?_take]
          simp [hj]
        · rw [List.getElem?_append_right (by simp; omega), List.getElem?_drop]
          simp only [List.length_append, List.length_map, Array.getElem?_toList]
          congr 1; omega
    · -- a new row
      have holds := World.ownsRow.cells h (g := g) rfl
      obtain ⟨v', w', hrun, r1, r2⟩ := run_append_arg_grows (P := P) w t ty e i z 1 bytes ht hi hz hsize hby hzs (by omega) ⟨g, 0, none⟩ xs.length cap (xs.map (Value.int k)) h.1 holds ⟨b, off, none⟩ ks.length c (ks.map (Value.int k)) hnl hnews (by omega) h63 hbytes
      have r1' : Owns k e w.heap.size w' v' (xs ++ ks) := by
        have e1 : (xs ++ ks).length = xs.length + ks.length := List.length_append
        show w'.ownsRow _ _ _ _ _ _
        rw [e1, hmap]; exact r1
      have hgl : g < w.heap.size := (Array.getElem?_eq_some_iff.1 hg).1
      refine ⟨v', w', hrun, r1'.mono hb, r2.os, r2.tape, r2.output, r2.size, fun j hj _ => r2.block j hj (by simp), fun g' hg' => .inr (r1'.lt g' hg').1, fun hk' => absurd hk' hk, fun g' cap' hv => ?_⟩
      simp at hv
      obtain ⟨rfl, rfl⟩ := hv
      exact ⟨⟨cur, cur, hg, (r2.block g hgl (by simp)).trans hg, rfl, fun _ _ => rfl⟩, fun hf => by omega, fun _ g' hg' => (r1'.lt g' hg').1⟩
theorem wpList_ap (w : World) {ops : Array Oper} {rest : List Oper} {o : Oper} {a : Act} {Q : Exit → Act → World → Prop} (hgd : o.guard = none) (s x : Operand) (t : TypeId)
    (ho : o.op = .call { callee := .builtin .append, args := #[s, x], argTypes := #[t, t] })
    (k : IntKind) (e : TypeId) (base : Nat) (i : TypeInfo) (z : Value) (bytes : Nat) (ht : P.underlying t = some (.slice e)) (hi : P.info? e = some i) (hz : i.zero = some z) (hsize : i.size = 1) (hby : i.bytes = bytes) (hzs : z.cells.size = 1)
    {v : Value} {xs : List Int} (hs : a.eval s = v) (h : Owns k e base w v xs) (hb : base ≤ w.heap.size) (ao : Option Addr) (n c : Nat) (ks : List Int) (hx : a.eval x = .slice ao n c) (hn : n = ks.length) (hsl : Sl k w ao ks)
    (h63 : xs.length + ks.length ≤ maxLen) (hbytes : (xs.length + ks.length) * bytes ≤ 140737488355328)
    (hK : ∀ v' w', Ap k e base w v xs w' v' ks → wpList P ops Q rest (a.put o.dst v') w') : wpList P ops Q (o :: rest) a w := by
  subst hn
  refine wpList_plain hgd fun K hK' => ?_
  obtain ⟨v', w', hrun, r⟩ := run_ap (P := P) k e base t o.type i z bytes ht hi hz hsize hby hzs h hb ao c ks hsl h63 hbytes
  unfold Oper.wp
  simp [execOp, ho, resolve, invoke, builtin, hs, hx, hrun, Result.andThen]
  exact hK' _ _ (hK v' w' r)
end
theorem info8 : (Ycim.prog.info? 5).map (fun i => (i.zero, i.size, i.bytes)) = some (some (.int .u8 0), 1, 1) := by kernel_rfl
theorem info64 : (Ycim.prog.info? 27).map (fun i => (i.zero, i.size, i.bytes)) = some (some (.int .u64 0), 1, 8) := by kernel_rfl
/-- append onto a []byte of the call's own. -/
theorem ap8 (w : World) {ops : Array Oper} {rest : List Oper} {o : Oper} {a : Act} {Q : Exit → Act → World → Prop} (hgd : o.guard = none) (s x : Operand)
    (ho : o.op = .call { callee := .builtin .append, args := #[s, x], argTypes := #[22, 22] })
    {base : Nat} {v : Value} {xs : List Int} (hs : a.eval s = v) (h : Owns .u8 5 base w v xs) (hb : base ≤ w.heap.size) (ao : Option Addr) (n c : Nat) (ks : List Int) (hx : a.eval x = .slice ao n c) (hn : n = ks.length) (hsl : Sl .u8 w ao ks)
    (hbd : xs.length + ks.length ≤ 140737488355328)
    (hK : ∀ v' w', Ap .u8 5 base w v xs w' v' ks → wpList Ycim.prog ops Q rest (a.put o.dst v') w') : wpList Ycim.prog ops Q (o :: rest) a w := by
  obtain ⟨i0, hi, hz0, hz1, hz2⟩ := info_parts info8
  exact wpList_ap w hgd s x 22 ho .u8 5 base i0 _ 1 Ycim.underlying22 hi hz0 hz1 hz2 rfl hs h hb ao n c ks hx hn hsl (by unfold maxLen; omega) (by omega) hK
/-- append onto a []uint64 of the call's own. -/
theorem ap64 (w : World) {ops : Array Oper} {rest : List Oper} {o : Oper} {a : Act} {Q : Exit → Act → World → Prop} (hgd : o.guard = none) (s x : Operand)
    (ho : o.op = .call { callee := .builtin .append, args := #[s, x], argTypes := #[43, 43] })
    {base : Nat} {v : Value} {xs : List Int} (hs : a.eval s = v) (h : Owns .u64 27 base w v xs) (hb : base ≤ w.heap.size) (ao : Option Addr) (n c : Nat) (ks : List Int) (hx : a.eval x = .slice ao n c) (hn : n = ks.length) (hsl : Sl .u64 w ao ks)
    (hbd : xs.length + ks.length ≤ 17592186044416)
    (hK : ∀ v' w', Ap .u64 27 base w v xs w' v' ks → wpList Ycim.prog ops Q rest (a.put o.dst v') w') : wpList Ycim.prog ops Q (o :: rest) a w := by
  obtain ⟨i0, hi, hz0, hz1, hz2⟩ := info_parts info64
  exact wpList_ap w hgd s x 43 ho .u64 27 base i0 _ 8 Ycim.underlying43 hi hz0 hz1 hz2 rfl hs h hb ao n c ks hx hn hsl (by unfold maxLen; omega) (by omega) hK
/-- The one-element slice that the translation lays for 'append(s, x)'. -/
theorem sl_one (k : IntKind) (w : World) (x : Int) (e : TypeId) : Sl k (w.alloc (.cells #[.int k x] e)) (some ⟨w.heap.size, 0, none⟩) [x] :=
  .inr ⟨w.heap.size, 0, rfl, fun i hi => by
    obtain rfl : i = 0 := by simp at hi; omega
    simp [el]⟩
theorem Owns.quiet {k : IntKind} {e : TypeId} {base : Nat} {w w' : World} {v : Value} {xs : List Int} (h : Owns k e base w v xs) (hq : ∃ n, w' = w.drewN n) : Owns k e base w' v xs := by
  obtain ⟨n, rfl⟩ := hq; exact h
/-! ### make, and stores into what was made -/
theorem grown_below {w w' : World} (h : w.grownBy w' none) : Below w.heap.size w w' := ⟨h.os, h.tape, h.output, h.size, fun j hj => h.block j hj (by simp)⟩
theorem owns_zero (k : IntKind) (e : TypeId) (base : Nat) (w : World) (g n : Nat) (h : w.ownsRow base e 1 (.slice (some ⟨g, 0, none⟩) n n) n (madeCells #[Value.int k 0] (n * 1)).toList) : Owns k e base w (.slice (some ⟨g, 0, none⟩) n n) (List.replicate n 0) := by
  rw [toList_madeCells_one, Nat.mul_one] at h
  show w.ownsRow _ _ _ _ _ _
  rw [List.length_replicate, List.map_replicate]
  exact h
theorem mk64 (w : World) {ops : Array Oper} {rest : List Oper} {o : Oper} {a : Act} {Q : Exit → Act → World → Prop} (hgd : o.guard = none) (l c : Operand) (hop : o.op = Op.makeSlice 43 l c)
    {base : Nat} (L C : Int) (n : Nat) (hl : a.eval l = .int .i64 L) (hc : a.eval c = .int .i64 C) (hL : L = (n : Int)) (hC : C = (n : Int)) (hbd : n ≤ 1000000000000) (hb : base ≤ w.heap.size)
    (hK : ∀ w', Owns .u64 27 base w' (.slice (some ⟨w.heap.size, 0, none⟩) n n) (List.replicate n 0) → Below w.heap.size w w' → wpList Ycim.prog ops Q rest (a.put o.dst (.slice (some ⟨w.heap.size, 0, none⟩) n n)) w') : wpList Ycim.prog ops Q (o :: rest) a w := by
  obtain ⟨i0, hi, hz0, hz1, hz2⟩ := info_parts info64
  exact wpList_make_full w hgd l c 43 hop base 27 i0 _ 1 Ycim.underlying43 hi hz0 hz1 .i64 .i64 L C n hl hc hL hC (by rw [hz2]; omega) (by unfold maxLen; omega) hb fun w' h1 h2 => hK w' (owns_zero _ _ _ _ _ _ h1) (grown_below h2)
theorem mk8 (w : World) {ops : Array Oper} {rest : List Oper} {o : Oper} {a : Act} {Q : Exit → Act → World → Prop} (hgd : o.guard = none) (l c : Operand) (hop : o.op = Op.makeSlice 22 l c)
    {base : Nat} (L C : Int) (n : Nat) (hl : a.eval l = .int .i64 L) (hc : a.eval c = .int .i64 C) (hL : L = (n : Int)) (hC : C = (n : Int)) (hbd : n ≤ 1000000000000) (hb : base ≤ w.heap.size)
    (hK : ∀ w', Owns .u8 5 base w' (.slice (some ⟨w.heap.size, 0, none⟩) n n) (List.replicate n 0) → Below w.heap.size w w' → wpList Ycim.prog ops Q rest (a.put o.dst (.slice (some ⟨w.heap.size, 0, none⟩) n n)) w') : wpList Ycim.prog ops Q (o :: rest) a w := by
  obtain ⟨i0, hi, hz0, hz1, hz2⟩ := info_parts info8
  exact wpList_make_full w hgd l c 22 hop base 5 i0 _ 1 Ycim.underlying22 hi hz0 hz1 .i64 .i64 L C n hl hc hL hC (by rw [hz2]; omega) (by unfold maxLen; omega) hb fun w' h1 h2 => hK w' (owns_zero _ _ _ _ _ _ h1) (grown_below h2)
/-- copy of a whole slice into one of the call's own, of the same length. -/
theorem cp8 (w : World) {ops : Array Oper} {rest : List Oper} {o : Oper} {a : Act} {Q : Exit → Act → World → Prop} (hgd : o.guard = none) (d s : Operand) (ho : o.op = .call { callee := .builtin .copy, args := #[d, s], argTypes := #[22, 22] })
    {base g n sCap : Nat} {sp : Option Addr} {z0 ys : List Int} (hd : a.eval d = .slice (some ⟨g, 0, none⟩) n n) (hs : a.eval s = .slice sp n sCap) (h : Owns .u8 5 base w (.slice (some ⟨g, 0, none⟩) n n) z0) (hl : ys.length = n) (hsl : Sl .u8 w sp ys)
    (hK : ∀ w', Owns .u8 5 base w' (.slice (some ⟨g, 0, none⟩) n n) ys → Below base w w' → wpList Ycim.prog ops Q rest (a.put o.dst (goInt n)) w') : wpList Ycim.prog ops Q (o :: rest) a w := by
  subst hl
  obtain ⟨cur, hg, hcs, _⟩ := h.cur rfl
  have hbg := (h.lt g rfl).1
  have hl1 : (ys.map (Value.int .u8)).length = ys.length := List.length_map ..
  have hcl : cur.toList.length = ys.length := hcs
  refine wpList_copy_splice hgd d s 22 22 ho 5 Ycim.underlying22 (by kernel_rfl) (some ⟨g, 0, none⟩) sp ys.length ys.length ys.length sCap hd hs g 0 cur.toList 5 (by simpa using hg) (ys.map (Value.int .u8)) (by rw [hl1]; exact (Nat.min_self _).symm) (fun hp => ⟨rfl, ?_⟩) (by omega) (fun v hv => by obtain ⟨x, _, rfl⟩ := List.mem_map.1 hv; rfl) base w (Below.refl _ _) hbg ?_
  · rw [hl1] at hp
    obtain ⟨b, off, ha, _, hc⟩ := hsl.at hp
    refine ⟨_, ha, fun j v hv => ?_⟩
    have hj : j < ys.length := by have := (List.getElem?_eq_some_iff.1 hv).1; simpa using this
    rw [el_map .u8 ys hj] at hv
    rw [Addr.add_lit, hc j hj]; exact hv
  · intro w' hg' hb
    rw [hl1]
    refine hK w' ⟨by simp, .inr ⟨g, ys.length, _, rfl, hbg, hg'.out, Nat.le_refl _, ?_, ?_, ?_⟩⟩ hb
    · rcases h.2 with ⟨h', _⟩ | ⟨_, _, _, h', _, _, _, hcm, _⟩
      · simp at h'
      · simp at h'
        rw [h'.2.2]; exact hcm
    · rw [List.size_toArray, length_splice _ _ _ (by omega)]; omega
    · unfold splice
      rw [List.take_zero, List.nil_append, Nat.zero_add, List.drop_eq_nil_of_le (by omega), List.append_nil]
      exact List.take_of_length_le (by show (ys.map (Value.int .u8)).length ≤ _; omega)
/-- What a store asks, and what it makes. -/
theorem Owns.at {k : IntKind} {e : TypeId} {base : Nat} {w : World} {g n cap : Nat} {xs : List Int} (h : Owns k e base w (.slice (some ⟨g, 0, none⟩) n cap) xs) {j : Nat} (hj : j < xs.length) : w.cell? ⟨g, j, none⟩ = some (.int k (el xs j)) ∧ w.frozen? ⟨g, j, none⟩ = false := by
  obtain ⟨rfl, _⟩ := h.sl
  refine ⟨?_, World.ownsRow.frozenAt h j⟩
  rw [World.ownsRow.cellAt h j (by omega), el_map k xs hj]
/-- What the whole buffer holds, behind appends to its front. -/
theorem Ap.buf {k : IntKind} {e : TypeId} {base : Nat} {w0 w : World} {v : Value} {g L m : Nat} {ds ks : List Int} (h : Ap k e base w0 (.slice (some ⟨g, 0, none⟩) m L) (ds.take m) w v ks) (hb : Owns k e base w0 (.slice (some ⟨g, 0, none⟩) L L) ds) (hm : m ≤ L) :
    (∀ i, i < L → (i < m ∨ m + ks.length ≤ i) → w.cell? ⟨g, i, none⟩ = some (.int k (el ds i))) ∧ (m + ks.length ≤ L → v = .slice (some ⟨g, 0, none⟩) (m + ks.length) L) := by
  have hL : L = ds.length := hb.sl.1
  have hl : (ds.take m).length = m := by rw [List.length_take]; omega
  obtain ⟨⟨cur, cur', c1, c2, c3, c4⟩, s1, _⟩ := h.spare g L (by rw [hl])
  rw [hl] at c4 s1
  refine ⟨fun i hi hc => ?_, s1⟩
  rw [cell_of_row w g i cur' e (0, 0) c2, c4 i hc, ← cell_of_row w0 g i cur e (0, 0) c1]
  exact (hb.at (by omega)).1
theorem Owns.set {k : IntKind} {e : TypeId} {base : Nat} {w : World} {g n cap : Nat} {xs : List Int} (h : Owns k e base w (.slice (some ⟨g, 0, none⟩) n cap) xs) (j : Nat) (u : Int) : Owns k e base (w.setCell ⟨g, j, none⟩ (.int k u)) (.slice (some ⟨g, 0, none⟩) n cap) (xs.set j u) := by
  obtain ⟨rfl, _⟩ := h.sl
  have := (World.ownsRow.stored h j (.int k u)).1
  show World.ownsRow _ _ _ _ _ _ _
  rw [List.length_set, List.map_set]
  exact this
theorem el_set_same {xs : List Int} {j : Nat} (u : Int) (h : j < xs.length) : el (xs.set j u) j = u := by simp [el, h]
theorem el_set_other {xs : List Int} {i j : Nat} (u : Int) (h : i ≠ j) : el (xs.set j u) i = el xs i := by simp [el, Ne.symm h]
/-- A store into one block leaves what another holds. -/
theorem Owns.apartSet {k : IntKind} {e : TypeId} {base : Nat} {w : World} {v : Value} {xs : List Int} (h : Owns k e base w v xs) {g j : Nat} (u : Value) (hne : v.ownBlock ≠ some g) : Owns k e base (w.setCell ⟨g, j, none⟩ u) v xs :=
  h.kept fun g' hg' => Below.heap_setCell _ _ _ _ fun e1 => hne (by rw [hg', e1])
theorem Words.set {xs : List Int} (h : Words xs) {u : Int} (h0 : 0 ≤ u) (h1 : u ≤ 18446744073709551615) (j : Nat) : Words (xs.set j u) := fun x hx => by
  rcases List.mem_or_eq_of_mem_set hx with h2 | rfl
  · exact h x h2
  · exact ⟨h0, h1⟩
theorem sl_two (k : IntKind) (w : World) (x y : Int) (e : TypeId) : Sl k (w.alloc (.cells #[.int k x, .int k y] e)) (some ⟨w.heap.size, 0, none⟩) [x, y] :=
  .inr ⟨w.heap.size, 0, rfl, fun i hi => by
    have h2 : i = 0 ∨ i = 1 := by simp at hi; omega
    rcases h2 with rfl | rfl <;> simp [el]⟩
/-- Two slices of the call's own, of two element types, lie in two blocks. -/
theorem owns_apart {k k' : IntKind} {e e' : TypeId} {b b' : Nat} {w : World} {v u : Value} {xs us : List Int} (h : Owns k e b w v xs) (h' : Owns k' e' b' w u us) (hne : e ≠ e') : u.ownBlock = none ∨ u.ownBlock ≠ v.ownBlock := by
  rcases h.2 with ⟨rfl, _⟩ | ⟨g, cap, cur, rfl, _, hh, _⟩ <;> rcases h'.2 with ⟨rfl, _⟩ | ⟨g', cap', cur', rfl, _, hh', _⟩
  · exact .inl rfl
  · exact .inr (by simp [Value.ownBlock])
  · exact .inl rfl
  · refine .inr fun e1 => ?_
    simp [Value.ownBlock] at e1
    subst e1
    rw [hh] at hh'
    simp at hh'
    exact hne hh'.2
/-- A slice of words and a slice of bytes that the call owns, and all else that was there as it was. -/
structure Two (w wr : World) (dW dS : Value) (ws bs : List Int) : Prop where
  words : Owns .u64 27 w.heap.size wr dW ws
  bytes : Owns .u8 5 w.heap.size wr dS bs
  below : Below w.heap.size w wr
theorem Two.start (w : World) : Two w w (.slice none 0 0) (.slice none 0 0) [] [] := ⟨Owns.nil _ _ _ _, Owns.nil _ _ _ _, Below.refl _ _⟩
theorem Two.alloc {w wr : World} {dW dS : Value} {ws bs : List Int} (h : Two w wr dW dS ws bs) (o : Obj) : Two w (wr.alloc o) dW dS ws bs := ⟨h.words.alloc o, h.bytes.alloc o, h.below.alloc h.below.size o⟩
theorem Two.addW {w wr w' : World} {dW dS v' : Value} {ws bs ks : List Int} (h : Two w wr dW dS ws bs) (ha : Ap .u64 27 w.heap.size wr dW ws w' v' ks) : Two w w' v' dS (ws ++ ks) bs :=
  ⟨ha.owns, ha.other h.bytes (owns_apart h.words h.bytes (by decide)), h.below.trans (ha.below h.words h.below.size)⟩
theorem Two.addS {w wr w' : World} {dW dS v' : Value} {ws bs ks : List Int} (h : Two w wr dW dS ws bs) (ha : Ap .u8 5 w.heap.size wr dS bs w' v' ks) : Two w w' dW v' ws (bs ++ ks) :=
  ⟨ha.other h.words (owns_apart h.bytes h.words (by decide)), ha.owns, h.below.trans (ha.below h.bytes h.below.size)⟩
end Go.Proofs.Ymbrci
