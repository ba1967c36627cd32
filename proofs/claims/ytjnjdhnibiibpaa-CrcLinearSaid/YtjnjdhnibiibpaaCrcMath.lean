/- The plain mathematics of the checksum: bits, bytes, rows of bytes; it is linear over XOR and each step can be undone. No program in sight. -/
namespace Go.Proofs.Ytjnjdhnibiibpaa
namespace Crc

/-- one bit of 0 -/
def bit (s : Nat) : Nat := if s % 2 = 1 then s / 2 ^^^ 2197175160 else s / 2
/-- so many bits of 0 -/
def bits : Nat → Nat → Nat
  | 0, s => s
  | k + 1, s => bits k (bit s)
/-- a byte -/
def byte (s c : Nat) : Nat := bits 8 (s ^^^ c)
/-- bytes -/
def take (s : Nat) (l : List Nat) : Nat := l.foldl byte s
/-- all bits turned -/
def inv (s : Nat) : Nat := 4294967295 - s
/-- a checksum goes on -/
def more (s : Nat) (l : List Nat) : Nat := inv (take (inv s) l)

theorem bits_succ (k : Nat) : ∀ s, bits (k + 1) s = bit (bits k s) := by
  induction k with
  | zero => intro s; rfl
  | succ k ih => intro s; rw [bits, ih (bit s), bits]

theorem xor_lt {a b : Nat} (ha : a < 4294967296) (hb : b < 4294967296) : a ^^^ b < 4294967296 := Nat.xor_lt_two_pow (n := 32) ha hb

theorem bit_lt {s : Nat} (h : s < 4294967296) : bit s < 4294967296 := by
  unfold bit
  split
  · exact xor_lt (by omega) (by omega)
  · omega
theorem bits_lt (k : Nat) : ∀ {s : Nat}, s < 4294967296 → bits k s < 4294967296 := by
  induction k with
  | zero => intro s h; exact h
  | succ k ih => intro s h; exact ih (bit_lt h)
theorem byte_lt {s c : Nat} (h : s < 4294967296) (hc : c < 4294967296) : byte s c < 4294967296 := bits_lt 8 (xor_lt h hc)
theorem take_lt (l : List Nat) : ∀ {s : Nat}, s < 4294967296 → (∀ c ∈ l, c < 256) → take s l < 4294967296 := by
  induction l with
  | nil => intro s h _; exact h
  | cons c l ih => intro s h hl; exact ih (byte_lt h (by have := hl c (by simp); omega)) (fun d hd => hl d (by simp [hd]))
theorem inv_lt (s : Nat) : inv s < 4294967296 := by unfold inv; omega
theorem inv_inv {s : Nat} (h : s < 4294967296) : inv (inv s) = s := by unfold inv; omega
theorem more_lt (s : Nat) (l : List Nat) : more s l < 4294967296 := inv_lt _

theorem take_append (s : Nat) (a b : List Nat) : take s (a ++ b) = take (take s a) b := List.foldl_append ..
theorem take_snoc (s : Nat) (a : List Nat) (c : Nat) : take s (a ++ [c]) = byte (take s a) c := by simp [take]

/-- a checksum's bytes, the lowest first -/
def laidAt (s k : Nat) : UInt8 := UInt8.ofNat (s / 2 ^ (8 * k))
def laid (s : Nat) : List UInt8 := [laidAt s 0, laidAt s 1, laidAt s 2, laidAt s 3]
theorem laid_at (s k : Nat) (h : k < 4) : (laid s)[k]? = some (laidAt s k) := by
  unfold laid
  match k, h with
  | 0, _ => rfl
  | 1, _ => rfl
  | 2, _ => rfl
  | 3, _ => rfl
theorem laid_take (s k : Nat) (h : k < 4) : (laid s).take (k + 1) = (laid s).take k ++ [laidAt s k] := by
  rw [List.take_add_one, laid_at s k h]
  rfl

/-! ### linear -/
theorem bit_xor (a b : Nat) : bit (a ^^^ b) = bit a ^^^ bit b := by
  unfold bit
  have h : (a ^^^ b) % 2 = (a % 2 + b % 2) % 2 := by
    have := @Nat.xor_mod_two_pow a b 1
    simp at this; rw [this]
    rcases Nat.mod_two_eq_zero_or_one a with ha | ha <;> rcases Nat.mod_two_eq_zero_or_one b with hb | hb <;> rw [ha, hb] <;> rfl
  have hd : (a ^^^ b) / 2 = a / 2 ^^^ b / 2 := Nat.xor_div_two
  rw [h, hd]
  rcases Nat.mod_two_eq_zero_or_one a with ha | ha <;> rcases Nat.mod_two_eq_zero_or_one b with hb | hb <;> rw [ha, hb] <;> simp
  · rw [Nat.xor_assoc]
  · rw [Nat.xor_assoc, Nat.xor_comm (b / 2), ← Nat.xor_assoc]
  · rw [Nat.xor_assoc, Nat.xor_comm (b / 2), ← Nat.xor_assoc 2197175160, Nat.xor_self, Nat.zero_xor]
theorem bits_xor (k : Nat) : ∀ a b, bits k (a ^^^ b) = bits k a ^^^ bits k b := by
  induction k with
  | zero => intro a b; rfl
  | succ k ih => intro a b; rw [bits, bits, bits, bit_xor, ih]
theorem bit_zero : bit 0 = 0 := rfl
theorem bits_zero (k : Nat) : bits k 0 = 0 := by
  induction k with
  | zero => rfl
  | succ k ih => rw [bits, bit_zero, ih]
theorem bits_add (j k : Nat) : ∀ s, bits (j + k) s = bits k (bits j s) := by
  induction j with
  | zero => intro s; rw [Nat.zero_add]; rfl
  | succ j ih => intro s; rw [Nat.succ_add, bits, ih, bits]
theorem xor4 (a b c d : Nat) : (a ^^^ b) ^^^ (c ^^^ d) = (a ^^^ c) ^^^ (b ^^^ d) := by
  rw [Nat.xor_assoc, Nat.xor_assoc, ← Nat.xor_assoc b, Nat.xor_comm b c, Nat.xor_assoc c]
theorem byte_xor (s t c d : Nat) : byte (s ^^^ t) (c ^^^ d) = byte s c ^^^ byte t d := by
  unfold byte
  rw [xor4, bits_xor]
theorem take_xor : ∀ (a b : List Nat) (s t : Nat), a.length = b.length → take (s ^^^ t) (List.zipWith (· ^^^ ·) a b) = take s a ^^^ take t b
  | [], [], _, _, _ => rfl
  | x :: a, y :: b, s, t, h => by
    have := take_xor a b (byte s x) (byte t y) (by simpa using h)
    simp only [take, List.zipWith_cons_cons, List.foldl_cons] at this ⊢
    rw [byte_xor]
    exact this
  | [], _ :: _, _, _, h => by simp at h
  | _ :: _, [], _, _, h => by simp at h
theorem take_zeros (n : Nat) : ∀ s, take s (List.replicate n 0) = bits (8 * n) s := by
  induction n with
  | zero => intro s; rfl
  | succ n ih =>
    intro s
    rw [List.replicate_succ]
    show take (byte s 0) _ = _
    rw [ih, byte, Nat.xor_zero, Nat.mul_succ, Nat.add_comm (8 * n), bits_add]

/-! ### each step can be undone -/
theorem testBit31 {s : Nat} (h : s < 2147483648) : s.testBit 31 = false := Nat.testBit_lt_two_pow (i := 31) h
theorem bit_zero_of {s : Nat} (hs : s < 4294967296) (h : bit s = 0) : s = 0 := by
  unfold bit at h
  split at h
  · exfalso
    have h1 : (s / 2 ^^^ 2197175160).testBit 31 = true := by
      rw [Nat.testBit_xor, testBit31 (by omega)]
      decide
    rw [h] at h1
    simp at h1
  · omega
theorem bits_zero_of (k : Nat) : ∀ {s : Nat}, s < 4294967296 → bits k s = 0 → s = 0 := by
  induction k with
  | zero => intro s _ h; exact h
  | succ k ih => intro s hs h; exact bit_zero_of hs (ih (bit_lt hs) h)

/-! ### squares: what becomes of each bit -/
def ofN (f : Nat → Nat) (s : Nat) : Nat → Nat
  | 0 => 0
  | k + 1 => if s / 2 ^ k % 2 = 1 then ofN f s k ^^^ f k else ofN f s k
theorem ofN_lt {f : Nat → Nat} {s : Nat} (k : Nat) (hf : ∀ j, j < k → f j < 4294967296) : ofN f s k < 4294967296 := by
  induction k with
  | zero => simp [ofN]
  | succ k ih =>
    have h := ih (fun j hj => hf j (by omega))
    unfold ofN
    split
    · exact xor_lt h (hf k (by omega))
    · exact h
theorem mod_succ_odd {s k : Nat} (h : s / 2 ^ k % 2 = 1) : s % 2 ^ (k + 1) = s % 2 ^ k ^^^ 2 ^ k := by
  apply Nat.eq_of_testBit_eq
  intro i
  rw [Nat.testBit_xor, Nat.testBit_mod_two_pow, Nat.testBit_mod_two_pow, Nat.testBit_two_pow]
  have hk : s.testBit k = true := by rw [Nat.testBit_eq_decide_div_mod_eq]; simpa using h
  by_cases h1 : i < k
  · simp [h1, show i < k + 1 by omega, show ¬ k = i by omega]
  · by_cases h2 : i = k
    · subst h2; simp [hk]
    · simp [h1, show ¬ i < k + 1 by omega, show ¬ k = i by omega]
theorem mod_succ_even {s k : Nat} (h : ¬ s / 2 ^ k % 2 = 1) : s % 2 ^ (k + 1) = s % 2 ^ k := by
  apply Nat.eq_of_testBit_eq
  intro i
  rw [Nat.testBit_mod_two_pow, Nat.testBit_mod_two_pow]
  have hk : s.testBit k = false := by rw [Nat.testBit_eq_decide_div_mod_eq]; simpa using h
  by_cases h2 : i = k
  · subst h2; simp [hk]
  · by_cases h1 : i < k
    · simp [h1, show i < k + 1 by omega]
    · simp [h1, show ¬ i < k + 1 by omega]
theorem ofN_bits (m s : Nat) (k : Nat) : ofN (fun j => bits m (2 ^ j)) s k = bits m (s % 2 ^ k) := by
  induction k with
  | zero => rw [Nat.pow_zero, Nat.mod_one, bits_zero]; rfl
  | succ k ih =>
    unfold ofN
    split
    · rename_i h
      rw [ih, mod_succ_odd h, bits_xor]
    · rename_i h
      rw [ih, mod_succ_even h]
theorem of_bits (m s : Nat) (hs : s < 4294967296) : ofN (fun j => bits m (2 ^ j)) s 32 = bits m s := by
  rw [ofN_bits, Nat.mod_eq_of_lt hs]
theorem pow_lt {k : Nat} (h : k < 32) : 2 ^ k < 4294967296 := Nat.pow_lt_pow_right (a := 2) (n := 32) (by omega) h

/-! ### the laws of the checksum -/
theorem inv_eq {s : Nat} (hs : s < 4294967296) : inv s = 4294967295 ^^^ s := by
  apply Nat.eq_of_testBit_eq
  intro i
  have h1 := Nat.testBit_two_pow_sub_succ (x := s) (n := 32) hs i
  rw [Nat.testBit_xor, show (4294967295 : Nat) = 2 ^ 32 - 1 from rfl, Nat.testBit_two_pow_sub_one]
  show (4294967295 - s).testBit i = _
  rw [show 4294967295 - s = 2 ^ 32 - (s + 1) by omega, h1]
  by_cases hi : i < 32
  · simp [hi]
  · simp [hi, Nat.testBit_lt_two_pow (Nat.lt_of_lt_of_le hs (Nat.pow_le_pow_right (n := 2) (by omega) (show 32 ≤ i by omega)))]
theorem zip_lt : ∀ (a b : List Nat), (∀ c ∈ a, c < 256) → (∀ c ∈ b, c < 256) → ∀ c ∈ List.zipWith (· ^^^ ·) a b, c < 256
  | [], _, _, _ => by simp
  | _ :: _, [], _, _ => by simp
  | x :: a, y :: b, ha, hb => by
    intro c hc
    rw [List.zipWith_cons_cons, List.mem_cons] at hc
    rcases hc with rfl | hc
    · exact Nat.xor_lt_two_pow (n := 8) (ha x (by simp)) (hb y (by simp))
    · exact zip_lt a b (fun z hz => ha z (by simp [hz])) (fun z hz => hb z (by simp [hz])) c hc
theorem zip_zero : ∀ (a : List Nat), List.zipWith (· ^^^ ·) (List.replicate a.length 0) a = a
  | [] => rfl
  | x :: a => by rw [List.length_cons, List.replicate_succ, List.zipWith_cons_cons, zip_zero a, Nat.zero_xor]
theorem xor_cancel (M x y z : Nat) : (M ^^^ x) ^^^ (M ^^^ y) ^^^ (M ^^^ (z ^^^ (x ^^^ y))) = M ^^^ z := by
  rw [show (M ^^^ x) ^^^ (M ^^^ y) = x ^^^ y by rw [xor4 M x M y, Nat.xor_self, Nat.zero_xor], Nat.xor_comm (x ^^^ y), Nat.xor_assoc, Nat.xor_assoc, Nat.xor_self, Nat.xor_zero]
/-- affine over XOR -/
theorem linear (a b : List Nat) (h : a.length = b.length) (ha : ∀ c ∈ a, c < 256) (hb : ∀ c ∈ b, c < 256) :
    more 0 a ^^^ more 0 b ^^^ more 0 (List.zipWith (· ^^^ ·) a b) = more 0 (List.replicate a.length 0) := by
  have hM : inv 0 < 4294967296 := inv_lt 0
  have hz : ∀ c ∈ List.replicate a.length 0, c < 256 := fun c hc => by rw [List.eq_of_mem_replicate hc]; omega
  have hc := zip_lt a b ha hb
  unfold more
  rw [inv_eq (take_lt a hM ha), inv_eq (take_lt b hM hb), inv_eq (take_lt _ hM hc), inv_eq (take_lt _ hM hz)]
  have h0 : take 0 (List.zipWith (· ^^^ ·) a b) = take (inv 0) a ^^^ take (inv 0) b := by
    rw [← take_xor a b _ _ h, Nat.xor_self]
  have hlen : (List.zipWith (· ^^^ ·) a b).length = a.length := by simp [h]
  have h1 : take (inv 0) (List.zipWith (· ^^^ ·) a b) = take (inv 0) (List.replicate a.length 0) ^^^ take 0 (List.zipWith (· ^^^ ·) a b) := by
    rw [← take_xor _ _ _ _ (by rw [hlen]; simp), Nat.xor_zero, ← hlen, zip_zero]
  rw [h1, h0, xor_cancel]
end Crc
end Go.Proofs.Ytjnjdhnibiibpaa
