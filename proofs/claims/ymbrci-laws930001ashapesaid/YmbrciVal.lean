/-
  The plain mathematics of base 128: 'val' reads groups of seven bits, lowest first; 'E x' is the shortest form of x; what 'dec' answers on them.
-/
import Derived.Test.YmbrciDec
namespace Go.Proofs.Ymbrci

def val : List Int → Int
  | [] => 0
  | p :: t => p % 128 + 128 * val t
theorem val_nil : val [] = 0 := rfl
theorem val_cons (p : Int) (t : List Int) : val (p :: t) = p % 128 + 128 * val t := rfl
theorem val_nonneg : ∀ zs : List Int, 0 ≤ val zs
  | [] => Int.le_refl _
  | p :: t => by have := val_nonneg t; rw [val_cons]; omega
theorem val_lt : ∀ zs : List Int, val zs < 128 ^ zs.length
  | [] => by simp [val]
  | p :: t => by
    have h := val_lt t
    have e : (128 : Int) ^ (p :: t).length = 128 ^ t.length * 128 := by rw [List.length_cons, Int.pow_succ]
    rw [val_cons, e]; omega
theorem val_append : ∀ xs ys : List Int, val (xs ++ ys) = val xs + val ys * 128 ^ xs.length
  | [], ys => by simp [val]
  | p :: t, ys => by
    have h := val_append t ys
    have e : (128 : Int) ^ (p :: t).length = 128 ^ t.length * 128 := by rw [List.length_cons, Int.pow_succ]
    rw [List.cons_append, val_cons, h, val_cons, e, ← Int.mul_assoc]
    generalize val ys * 128 ^ t.length = q
    omega
theorem val_one {l : Int} (h0 : 0 ≤ l) (h : l < 128) : val [l] = l := by rw [val_cons, val_nil]; omega

/-- All of them promise another. -/
def Prom (zs : List Int) : Prop := ∀ x ∈ zs, 128 ≤ x
theorem Prom.nil : Prom [] := fun x hx => by simp at hx
theorem Prom.cons {p : Int} {t : List Int} (h : 128 ≤ p) (ht : Prom t) : Prom (p :: t) := fun x hx => by
  rcases List.mem_cons.1 hx with rfl | hx
  · exact h
  · exact ht x hx
theorem Prom.snoc {p : Int} {t : List Int} (h : 128 ≤ p) (ht : Prom t) : Prom (t ++ [p]) := fun x hx => by
  rcases List.mem_append.1 hx with hx | hx
  · exact ht x hx
  · simp at hx; subst hx; exact h
theorem Prom.take {t : List Int} (h : Prom t) (n : Nat) : Prom (t.take n) := fun x hx => h x (List.mem_of_mem_take hx)
theorem prom_of_el {zs : List Int} {k : Nat} (hk : k ≤ zs.length) (h : ∀ j, j < k → 128 ≤ el zs j) : Prom (zs.take k) := fun x hx => by
  obtain ⟨j, hj, rfl⟩ := List.getElem_of_mem hx
  simp at hj
  rw [List.getElem_take, ← el_lt]
  exact h j (by omega)

/-! ### what 'dec' answers -/
theorem dec_skip : ∀ (ps r : List Int) (i : Nat) (x : Int), Prom ps → i + ps.length ≤ 9 → dec (ps ++ r) i x = dec r (i + ps.length) (x + val ps * 128 ^ i)
  | [], r, i, x, _, _ => by simp [val]
  | p :: t, r, i, x, hp, hl => by
    simp only [List.length_cons] at hl
    rw [List.cons_append, dec_more _ _ (by omega) (hp p (by simp)), dec_skip t r (i + 1) _ (fun y hy => hp y (by simp [hy])) (by omega)]
    have e1 : i + 1 + t.length = i + (p :: t).length := by simp only [List.length_cons]; omega
    have e2 : x + p % 128 * 128 ^ i + val t * 128 ^ (i + 1) = x + val (p :: t) * 128 ^ i := by
      rw [val_cons, Int.pow_succ, Int.add_mul, Int.mul_comm 128 (val t), Int.mul_assoc (val t) 128, Int.mul_comm (128 : Int) (128 ^ i), Int.add_assoc]
    rw [e1, e2]
theorem dec_trunc {ps : List Int} (hp : Prom ps) (hl : ps.length ≤ 9) : dec ps 0 0 = (0, 0, 1) := by
  have := dec_skip ps [] 0 0 hp (by omega)
  rw [List.append_nil] at this
  rw [this]; rfl
theorem dec_over' {ps : List Int} (hp : Prom ps) (hl : ps.length = 9) {b : Int} (hb : 1 < b) (t : List Int) : dec (ps ++ b :: t) 0 0 = (0, 0, 3) := by
  rw [dec_skip ps _ 0 0 hp (by omega), Nat.zero_add, hl]
  exact dec_over t _ hb
theorem dec_long' {ps : List Int} (hp : Prom ps) (hl : ps.length ≤ 9) (h0 : 0 < ps.length) (t : List Int) : dec (ps ++ 0 :: t) 0 0 = (0, 0, 2) := by
  rw [dec_skip ps _ 0 0 hp (by omega), Nat.zero_add]
  exact dec_long t _ h0
theorem dec_ok {ps : List Int} (hp : Prom ps) (hl : ps.length ≤ 9) {b : Int} (hb0 : 0 ≤ b) (hb : b < 128) (h9 : ps.length = 9 → b ≤ 1) (h0 : b = 0 → ps.length = 0) (t : List Int) :
    dec (ps ++ b :: t) 0 0 = (val (ps ++ [b]), (ps.length : Int) + 1, 0) := by
  rw [dec_skip ps _ 0 0 hp (by omega), Nat.zero_add, dec_last t _ h9 h0 hb, val_append, val_one hb0 hb]
  simp
/-- Every string is one of four. -/
theorem split_el {zs : List Int} {k : Nat} (hk : k < zs.length) : zs = zs.take k ++ el zs k :: zs.drop (k + 1) := by
  rw [← drop_el hk, List.take_append_drop]
theorem dec_cases (zs : List Int) (hz : Bytes zs) :
    (∃ ps, zs = ps ∧ Prom ps ∧ ps.length ≤ 9 ∧ dec zs 0 0 = (0, 0, 1)) ∨
    (∃ ps b t, zs = ps ++ b :: t ∧ Prom ps ∧ ps.length = 9 ∧ 1 < b ∧ dec zs 0 0 = (0, 0, 3)) ∨
    (∃ ps t, zs = ps ++ 0 :: t ∧ Prom ps ∧ ps.length ≤ 9 ∧ 0 < ps.length ∧ dec zs 0 0 = (0, 0, 2)) ∨
    (∃ ps b t, zs = ps ++ b :: t ∧ Prom ps ∧ ps.length ≤ 9 ∧ 0 ≤ b ∧ b < 128 ∧ (ps.length = 9 → b ≤ 1) ∧ (b = 0 → ps.length = 0) ∧ dec zs 0 0 = (val (ps ++ [b]), (ps.length : Int) + 1, 0)) := by
  -- the first k numbers promise another, k at most nine, and there it ends
  have key : ∀ n, ∀ ps r : List Int, r.length = n → zs = ps ++ r → Prom ps → ps.length ≤ 9 → ∃ qs s, zs = qs ++ s ∧ Prom qs ∧ qs.length ≤ 9 ∧ (s = [] ∨ ∃ b t, s = b :: t ∧ (b < 128 ∨ qs.length = 9)) := by
    intro n
    induction n with
    | zero => intro ps r hr h1 h2 h3; exact ⟨ps, r, h1, h2, h3, .inl (List.eq_nil_of_length_eq_zero hr)⟩
    | succ n ih =>
      intro ps r hr h1 h2 h3
      match r, hr with
      | b :: t, hr =>
        by_cases hb : b < 128 ∨ ps.length = 9
        · exact ⟨ps, b :: t, h1, h2, h3, .inr ⟨b, t, rfl, hb⟩⟩
        · exact ih (ps ++ [b]) t (by simpa using hr) (by simpa using h1) (h2.snoc (by omega)) (by simp; omega)
  obtain ⟨ps, r, rfl, hp, hl, hr⟩ := key zs.length [] zs rfl rfl Prom.nil (by simp)
  rcases hr with rfl | ⟨b, t, rfl, hb⟩
  · rw [List.append_nil]; exact .inl ⟨ps, rfl, hp, hl, dec_trunc hp hl⟩
  · have hbb := hz b (by simp)
    by_cases h1 : ps.length = 9 ∧ 1 < b
    · exact .inr (.inl ⟨ps, b, t, rfl, hp, h1.1, h1.2, dec_over' hp h1.1 h1.2 t⟩)
    · by_cases h2 : b = 0 ∧ 0 < ps.length
      · obtain ⟨rfl, h2⟩ := h2
        exact .inr (.inr (.inl ⟨ps, t, rfl, hp, hl, h2, dec_long' hp hl h2 t⟩))
      · exact .inr (.inr (.inr ⟨ps, b, t, rfl, hp, hl, hbb.1, by omega, by omega, by omega, dec_ok hp hl hbb.1 (by omega) (by omega) (by omega) t⟩))

/-! ### the shortest form -/
def enc : Nat → Int → List Int
  | 0, x => [x]
  | f + 1, x => if x < 128 then [x] else (x % 128 + 128) :: enc f (x / 128)
def E (x : Int) : List Int := enc 9 x
theorem enc_fuel : ∀ (f : Nat) (x : Int), 0 ≤ x → x < 128 ^ (f + 1) → enc f x = enc (f + 1) x
  | 0, x, _, h => by have : x < 128 := by simpa using h
                     simp [enc, this]
  | f + 1, x, h0, h => by
    have e : (128 : Int) ^ (f + 1 + 1) = 128 ^ (f + 1) * 128 := Int.pow_succ ..
    have ih := enc_fuel f (x / 128) (by omega) (by omega)
    rw [enc, enc, ih]
theorem E_small {x : Int} (h : x < 128) : E x = [x] := by simp [E, enc, h]
theorem E_big {x : Int} (h : 128 ≤ x) (h1 : x ≤ 18446744073709551615) : E x = (x % 128 + 128) :: E (x / 128) := by
  have e : enc 9 x = (x % 128 + 128) :: enc 8 (x / 128) := by rw [enc, if_neg (by omega)]
  have e2 := enc_fuel 8 (x / 128) (by omega) (by omega)
  rw [E, e, e2]; rfl
theorem enc_len (f : Nat) : ∀ x : Int, 1 ≤ (enc f x).length ∧ (enc f x).length ≤ f + 1 := by
  induction f with
  | zero => intro x; simp [enc]
  | succ f ih => intro x; rw [enc]; split
                 · simp
                 · have := ih (x / 128); simp only [List.length_cons]; omega
theorem E_len (x : Int) : 1 ≤ (E x).length ∧ (E x).length ≤ 10 := enc_len 9 x
/-- To show something of every 'E x': of the small ones, and step by step. -/
theorem E_ind {P : Int → Prop} (hs : ∀ x, 0 ≤ x → x < 128 → P x) (hb : ∀ x, 128 ≤ x → x ≤ 18446744073709551615 → P (x / 128) → P x) : ∀ x, 0 ≤ x → x ≤ 18446744073709551615 → P x := by
  have key : ∀ n : Nat, ∀ x : Int, x.toNat ≤ n → 0 ≤ x → x ≤ 18446744073709551615 → P x := by
    intro n
    induction n with
    | zero => intro x hn h0 _; exact hs x h0 (by omega)
    | succ n ih =>
      intro x hn h0 h1
      by_cases h : x < 128
      · exact hs x h0 h
      · exact hb x (by omega) h1 (ih (x / 128) (by omega) (by omega) (by omega))
  exact fun x => key x.toNat x (Nat.le_refl _)
theorem E_shape (x : Int) (h0 : 0 ≤ x) (h1 : x ≤ 18446744073709551615) : ∃ ps l, E x = ps ++ [l] ∧ Prom ps ∧ Bytes ps ∧ 0 ≤ l ∧ l < 128 ∧ (l = 0 → ps = []) ∧ x = val ps + l * 128 ^ ps.length := by
  revert x
  refine E_ind (fun x h0 h => ?_) (fun x h h1 ih => ?_)
  · exact ⟨[], x, E_small h, Prom.nil, Bytes.nil, h0, h, fun _ => rfl, by simp [val]⟩
  · obtain ⟨ps, l, he, hp, hb, hl0, hl, hz, hv⟩ := ih
    refine ⟨(x % 128 + 128) :: ps, l, by rw [E_big h h1, he]; rfl, hp.cons (by omega), fun y hy => ?_, hl0, hl, fun hl' => ?_, ?_⟩
    · rcases List.mem_cons.1 hy with rfl | hy
      · omega
      · exact hb y hy
    · rw [hz hl', hl'] at hv
      simp [val] at hv
      omega
    · have e : (128 : Int) ^ ((x % 128 + 128) :: ps).length = 128 ^ ps.length * 128 := by rw [List.length_cons, Int.pow_succ]
      rw [val_cons, e, ← Int.mul_assoc]
      generalize l * 128 ^ ps.length = q at hv
      omega
theorem E_bytes {x : Int} (h0 : 0 ≤ x) (h1 : x ≤ 18446744073709551615) : Bytes (E x) := by
  obtain ⟨ps, l, he, _, hb, hl0, hl, _, _⟩ := E_shape x h0 h1
  rw [he]; exact hb.append (Bytes.one hl0 (by omega))
theorem val_E {x : Int} (h0 : 0 ≤ x) (h1 : x ≤ 18446744073709551615) : val (E x) = x := by
  obtain ⟨ps, l, he, _, _, hl0, hl, _, hv⟩ := E_shape x h0 h1
  rw [he, val_append, val_one hl0 hl, ← hv]
/-- All of the shape, with the bounds that 64 bits give. -/
theorem E_parts (x : Int) (h0 : 0 ≤ x) (h1 : x ≤ 18446744073709551615) : ∃ ps l, E x = ps ++ [l] ∧ Prom ps ∧ Bytes ps ∧ 0 ≤ l ∧ l < 128 ∧ (l = 0 → ps = []) ∧ ps.length ≤ 9 ∧ (ps.length = 9 → l ≤ 1) ∧ val (ps ++ [l]) = x := by
  obtain ⟨ps, l, he, hp, hb, hl0, hl, hz, hv⟩ := E_shape x h0 h1
  have hlen := E_len x
  rw [he] at hlen
  simp at hlen
  refine ⟨ps, l, he, hp, hb, hl0, hl, hz, by omega, fun h9 => ?_, by rw [val_append, val_one hl0 hl, ← hv]⟩
  rw [h9] at hv
  have := val_nonneg ps
  omega
theorem dec_E {x : Int} (h0 : 0 ≤ x) (h1 : x ≤ 18446744073709551615) (t : List Int) : dec (E x ++ t) 0 0 = (x, ((E x).length : Int), 0) := by
  obtain ⟨ps, l, he, hp, _, hl0, hl, hz, h9, hl9, hv⟩ := E_parts x h0 h1
  rw [he, List.append_assoc]
  show dec (ps ++ l :: t) 0 0 = _
  rw [dec_ok hp h9 hl0 hl hl9 (fun h => by rw [hz h]; rfl) t, hv]
  simp
theorem dec_E_pre {x : Int} (h0 : 0 ≤ x) (h1 : x ≤ 18446744073709551615) {k : Nat} (hk : k < (E x).length) : dec ((E x).take k) 0 0 = (0, 0, 1) := by
  obtain ⟨ps, l, he, hp, _, _, _, _, h9, _, _⟩ := E_parts x h0 h1
  rw [he] at hk ⊢
  simp at hk
  rw [List.take_append_of_le_length (by omega)]
  exact dec_trunc (hp.take k) (by simp; omega)

/-! ### the case table over the number k of leading bytes that promise another -/
theorem val_bound {ps : List Int} {b : Int} (hl : ps.length ≤ 9) (hb0 : 0 ≤ b) (hb : b < 128) (h9 : ps.length = 9 → b ≤ 1) : val (ps ++ [b]) ≤ 18446744073709551615 := by
  rw [val_append, val_one hb0 hb]
  have h1 := val_lt ps
  have h2 := val_nonneg ps
  by_cases h : ps.length = 9
  · rw [h] at h1 ⊢
    have := h9 h
    omega
  · have h3 : (128 : Nat) ^ ps.length ≤ 128 ^ 8 := Nat.pow_le_pow_right (by omega) (by omega)
    have h4 : (128 : Int) ^ ps.length ≤ 72057594037927936 := by rw [icast128]; omega
    have h5 : b * 128 ^ ps.length ≤ 127 * 128 ^ ps.length := Int.mul_le_mul_of_nonneg_right (by omega) (by omega)
    omega
theorem take_succ_len {zs : List Int} {k : Nat} (h : k < zs.length) : (zs.take k).length = k := by simp; omega
theorem table_end {zs : List Int} {k : Nat} (hk : k ≤ 9) (hp : Prom (zs.take k)) (hl : k = zs.length) : dec zs 0 0 = (0, 0, 1) := by
  rw [hl, List.take_length] at hp
  exact dec_trunc hp (by omega)
theorem table_over {zs : List Int} {k : Nat} (hp : Prom (zs.take k)) (hl : k < zs.length) (h9 : k = 9) (hb : 2 ≤ el zs k) : dec zs 0 0 = (0, 0, 3) := by
  rw [split_el hl]
  exact dec_over' hp (by rw [take_succ_len hl]; exact h9) (by omega) _
theorem table_long {zs : List Int} {k : Nat} (hk : k ≤ 9) (hp : Prom (zs.take k)) (hl : k < zs.length) (h0 : 0 < k) (hb : el zs k = 0) : dec zs 0 0 = (0, 0, 2) := by
  rw [split_el hl, hb]
  exact dec_long' hp (by rw [take_succ_len hl]; exact hk) (by rw [take_succ_len hl]; exact h0) _
theorem table_ok {zs : List Int} {k : Nat} (hk : k ≤ 9) (hp : Prom (zs.take k)) (hl : k < zs.length) (hb0 : 0 ≤ el zs k) (hb : el zs k < 128) (h9 : k = 9 → el zs k ≤ 1) (h0 : el zs k = 0 → k = 0) :
    dec zs 0 0 = (val (zs.take (k + 1)), (k : Int) + 1, 0) ∧ val (zs.take (k + 1)) ≤ 18446744073709551615 := by
  have e := take_succ_len hl
  have h := dec_ok hp (by omega) hb0 hb (by rw [e]; exact h9) (by rw [e]; exact h0) (zs.drop (k + 1))
  rw [← split_el hl, e] at h
  rw [take_succ_el hl]
  exact ⟨h, val_bound (by omega) hb0 hb (by rw [e]; exact h9)⟩
theorem dvs {zs : List Int} {v n c : Int} (h : dec zs 0 0 = (v, n, c)) : dv zs = v ∧ dn zs = n ∧ dc zs = c := by
  unfold dv dn dc; rw [h]; exact ⟨rfl, rfl, rfl⟩
/-- Reading from the last byte backwards. -/
theorem val_back {zs : List Int} {k m : Nat} (hk : k < zs.length) (hm : m < k) : val ((zs.take (k + 1)).drop m) = el zs m % 128 + 128 * val ((zs.take (k + 1)).drop (m + 1)) := by
  rw [drop_el (xs := zs.take (k + 1)) (by simp; omega), val_cons, el_take (by omega)]
theorem val_back0 {zs : List Int} {k : Nat} (hk : k < zs.length) (hb0 : 0 ≤ el zs k) (hb : el zs k < 128) : val ((zs.take (k + 1)).drop k) = el zs k := by
  rw [drop_el (xs := zs.take (k + 1)) (by simp; omega), el_take (by omega), List.drop_eq_nil_of_le (by simp; omega), val_one hb0 hb]
theorem val_drop_le (zs : List Int) (m : Nat) : val (zs.drop m) ≤ val zs := by
  induction m with
  | zero => simp
  | succ m ih =>
    by_cases h : m < zs.length
    · have e := drop_el h
      rw [e, val_cons] at ih
      have := val_nonneg (zs.drop (m + 1))
      omega
    · rw [List.drop_eq_nil_of_le (by omega)]; exact val_nonneg zs
end Go.Proofs.Ymbrci
