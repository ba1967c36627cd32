/- The plain mathematics of the checksum: bits, bytes, rows of bytes; it is linear over XOR and each step can be undone. No program in sight. -/
namespace Go.Proofs.YtmkkbomkonociaaDoor
namespace Crc

/-- one bit of 0 -/
def bit (s : Nat) : Nat := if s % 2 = 1 then s / 2 ^^^ 2197175160 else s / 2
/-- so many bits of 0 -/
def bits : Nat → Nat → Nat
  | 0, s => s
  | k + 1, s => bits k (bit s)
/-- a byte -/
def byte (s c : Nat) : Nat := bits 8 (s ^^^ c)
/-- bytes -/
def take (s : Nat) (l : List Nat) : Nat := l.foldl byte s
/-- all bits turned -/
def inv (s : Nat) : Nat := 4294967295 - s
/-- a checksum goes on -/
def more (s : Nat) (l : List Nat) : Nat := inv (take (inv s) l)

theorem bits_succ (k : Nat) : ∀ s, bits (k + 1) s = bit (bits k s) := by
  induction k with
  | zero => intro s; rfl
  | succ k ih => intro s; rw [bits, ih (bit s), bits]

theorem xor_lt {a b : Nat} (ha : a < 4294967296) (hb : b < 4294967296) : a ^^^ b < 4294967296 := Nat.xor_lt_two_pow (n := 32) ha hb

theorem bit_lt {s : Nat} (h : s < 4294967296) : bit s < 4294967296 := by
  unfold bit
  split
  · exact xor_lt (by omega) (by omega)
  · omega
theorem bits_lt (k : Nat) : ∀ {s : Nat}, s < 4294967296 → bits k s < 4294967296 := by
  induction k with
  | zero => intro s h; exact h
  | succ k ih => intro s h; exact ih (bit_lt h)
theorem byte_lt {s c : Nat} (h : s < 4294967296) (hc : c < 4294967296) : byte s c < 4294967296 := bits_lt 8 (xor_lt h hc)
theorem take_lt (l : List Nat) : ∀ {s : Nat}, s < 4294967296 → (∀ c ∈ l, c < 256) → take s l < 4294967296 := by
  induction l with
  | nil => intro s h _; exact h
  | cons c l ih => intro s h hl; exact ih (byte_lt h (by have := hl c (by simp); omega)) (fun d hd => hl d (by simp [hd]))
theorem inv_lt (s : Nat) : inv s < 4294967296 := by unfold inv; omega
theorem inv_inv {s : Nat} (h : s < 4294967296) : inv (inv s) = s := by unfold inv; omega
theorem more_lt (s : Nat) (l : List Nat) : more s l < 4294967296 := inv_lt _

theorem take_append (s : Nat) (a b : List Nat) : take s (a ++ b) = take (take s a) b := List.foldl_append ..
theorem take_snoc (s : Nat) (a : List Nat) (c : Nat) : take s (a ++ [c]) = byte (take s a) c := by simp [take]

/-- a checksum's bytes, the lowest first -/
def laidAt (s k : Nat) : UInt8 := UInt8.ofNat (s / 2 ^ (8 * k))
def laid (s : Nat) : List UInt8 := [laidAt s 0, laidAt s 1, laidAt s 2, laidAt s 3]
theorem laid_at (s k : Nat) (h : k < 4) : (laid s)[k]? = some (laidAt s k) := by
  unfold laid
  match k, h with
  | 0, _ => rfl
  | 1, _ => rfl
  | 2, _ => rfl
  | 3, _ => rfl
theorem laid_take (s k : Nat) (h : k < 4) : (laid s).take (k + 1) = (laid s).take k ++ [laidAt s k] := by
  rw [List.take_add_one, laid_at s k h]
  rfl

/-! ### linear -/
theorem bit_xor (a b : Nat) : bit (a ^^^ b) = bit a ^^^ bit b := by
  unfold bit
  have h : (a ^^^ b) % 2 = (a % 2 + b % 2) % 2 := by
    have := @Nat.xor_mod_two_pow a b 1
    simp at this; rw [this]
    rcases Nat.mod_two_eq_zero_or_one a with ha | ha <;> rcases Nat.mod_two_eq_zero_or_one b with hb | hb <;> rw [ha, hb] <;> rfl
  have hd : (a ^^^ b) / 2 = a / 2 ^^^ b / 2 := Nat.xor_div_two
  rw [h, hd]
  rcases Nat.mod_two_eq_zero_or_one a with ha | ha <;> rcases Nat.mod_two_eq_zero_or_one b with hb | hb <;> rw [ha, hb] <;> simp
  · rw [Nat.xor_assoc]
  · rw [Nat.xor_assoc, Nat.xor_comm (b / 2), ← Nat.xor_assoc]
  · rw [Nat.xor_assoc, Nat.xor_comm (b / 2), ← Nat.xor_assoc 2197175160, Nat.xor_self, Nat.zero_xor]
theorem bits_xor (k : Nat) : ∀ a b, bits k (a ^^^ b) = bits k a ^^^ bits k b := by
  induction k with
  | zero => intro a b; rfl
  | succ k ih => intro a b; rw [bits, bits, bits, bit_xor, ih]
theorem bit_zero : bit 0 = 0 := rfl
theorem bits_zero (k : Nat) : bits k 0 = 0 := by
  induction k with
  | zero => rfl
  | succ k ih => rw [bits, bit_zero, ih]
theorem bits_add (j k : Nat) : ∀ s, bits (j + k) s = bits k (bits j s) := by
  induction j with
  | zero => intro s; rw [Nat.zero_add]; rfl
  | succ j ih => intro s; rw [Nat.succ_add, bits, ih, bits]
theorem xor4 (a b c d : Nat) : (a ^^^ b) ^^^ (c ^^^ d) = (a ^^^ c) ^^^ (b ^^^ d) := by
  rw [Nat.xor_assoc, Nat.xor_assoc, ← Nat.xor_assoc b, Nat.xor_comm b c, Nat.xor_assoc c]
theorem byte_xor (s t c d : Nat) : byte (s ^^^ t) (c ^^^ d) = byte s c ^^^ byte t d := by
  unfold byte
  rw [xor4, bits_xor]
theorem take_xor : ∀ (a b : List Nat) (s t : Nat), a.length = b.length → take (s ^^^ t) (List.zipWith (· ^^^ ·) a b) = take s a ^^^ take t b
  | [], [], _, _, _ => rfl
  | x :: a, y :: b, s, t, h => by
    have := take_xor a b (byte s x) (byte t y) (by simpa using h)
    simp only [take, List.zipWith_cons_cons, List.foldl_cons] at this ⊢
    rw [byte_xor]
    exact this
  | [], _ :: _, _, _, h => by simp at h
  | _ :: _, [], _, _, h => by simp at h
theorem take_zeros (n : Nat) : ∀ s, take s (List.replicate n 0) = bits (8 * n) s := by
  induction n with
  | zero => intro s; rfl
  | succ n ih =>
    intro s
    rw [List.replicate_succ]
    show take (byte s 0) _ = _
    rw [ih, byte, Nat.xor_zero, Nat.mul_succ, Nat.add_comm (8 * n), bits_add]

/-! ### each step can be undone -/
theorem testBit31 {s : Nat} (h : s < 2147483648) : s.testBit 31 = false := Nat.testBit_lt_two_pow (i := 31) h
theorem bit_zero_of {s : Nat} (hs : s < 4294967296) (h : bit s = 0) : s = 0 := by
  unfold bit at h
  split at h
  · exfalso
    have h1 : (s / 2 ^^^ 2197175160).testBit 31 = true := by
      rw [Nat.testBit_xor, testBit31 (by omega)]
      decide
    rw [h] at h1
    simp at h1
  · omega
theorem bits_zero_of (k : Nat) : ∀ {s : Nat}, s < 4294967296 → bits k s = 0 → s = 0 := by
  induction k with
  | zero => intro s _ h; exact h
  | succ k ih => intro s hs h; exact bit_zero_of hs (ih (bit_lt hs) h)

/-! ### squares: what becomes of each bit -/
def ofN (f : Nat → Nat) (s : Nat) : Nat → Nat
  | 0 => 0
  | k + 1 => if s / 2 ^ k % 2 = 1 then ofN f s k ^^^ f k else ofN f s k
theorem ofN_lt {f : Nat → Nat} {s : Nat} (k : Nat) (hf : ∀ j, j < k → f j < 4294967296) : ofN f s k < 4294967296 := by
  induction k with
  | zero => simp [ofN]
  | succ k ih =>
    have h := ih (fun j hj => hf j (by omega))
    unfold ofN
    split
    · exact xor_lt h (hf k (by omega))
    · exact h
theorem mod_succ_odd {s k : Nat} (h : s / 2 ^ k % 2 = 1) : s % 2 ^ (k + 1) = s % 2 ^ k ^^^ 2 ^ k := by
  apply Nat.eq_of_testBit_eq
  intro i
  rw [Nat.testBit_xor, Nat.testBit_mod_two_pow, Nat.testBit_mod_two_pow, Nat.testBit_two_pow]
  have hk : s.testBit k = true := by rw [Nat.testBit_eq_decide_div_mod_eq]; simpa using h
  by_cases h1 : i < k
  · simp [h1, show i < k + 1 by omega, show ¬ k = i by omega]
  · by_cases h2 : i = k
    · subst h2; simp [hk]
    · simp [h1, show ¬ i < k + 1 by omega, show ¬ k = i by omega]
theorem mod_succ_even {s k : Nat} (h : ¬ s / 2 ^ k % 2 = 1) : s % 2 ^ (k + 1) = s % 2 ^ k := by
  apply Nat.eq_of_testBit_eq
  intro i
  rw [Nat.testBit_mod_two_pow, Nat.testBit_mod_two_pow]
  have hk : s.testBit k = false := by rw [Nat.testBit_eq_decide_div_mod_eq]; simpa using h
  by_cases h2 : i = k
  · subst h2; simp [hk]
  · by_cases h1 : i < k
    · simp [h1, show i < k + 1 by omega]
    · simp [h1, show ¬ i < k + 1 by omega]
theorem ofN_bits (m s : Nat) (k : Nat) : ofN (fun j => bits m (2 ^ j)) s k = bits m (s % 2 ^ k) := by
  induction k with
  | zero => rw [Nat.pow_zero, Nat.mod_one, bits_zero]; rfl
  | succ k ih =>
    unfold ofN
    split
    · rename_i h
      rw [ih, mod_succ_odd h, bits_xor]
    · rename_i h
      rw [ih, mod_succ_even h]
theorem of_bits (m s : Nat) (hs : s < 4294967296) : ofN (fun j => bits m (2 ^ j)) s 32 = bits m s := by
  rw [ofN_bits, Nat.mod_eq_of_lt hs]
theorem pow_lt {k : Nat} (h : k < 32) : 2 ^ k < 4294967296 := Nat.pow_lt_pow_right (a := 2) (n := 32) (by omega) h

/-! ### the laws of the checksum -/
theorem inv_eq {s : Nat} (hs : s < 4294967296) : inv s = 4294967295 ^^^ s := by
  apply Nat.eq_of_testBit_eq
  intro i
  have h1 := Nat.testBit_two_pow_sub_succ (x := s) (n := 32) hs i
  rw [Nat.testBit_xor, show (4294967295 : Nat) = 2 ^ 32 - 1 from rfl, Nat.testBit_two_pow_sub_one]
  show (4294967295 - s).testBit i = _
  rw [show 4294967295 - s = 2 ^ 32 - (s + 1) by omega, h1]
  by_cases hi : i < 32
  · simp [hi]
  · simp [hi, Nat.testBit_lt_two_pow (Nat.lt_of_lt_of_le hs (Nat.pow_le_pow_right (n := 2) (by omega) (show 32 ≤ i by omega)))]
theorem zip_lt : ∀ (a b : List Nat), (∀ c ∈ a, c < 256) → (∀ c ∈ b, c < 256) → ∀ c ∈ List.zipWith (· ^^^ ·) a b, c < 256
  | [], _, _, _ => by simp
  | _ :: _, [], _, _ => by simp
  | x :: a, y :: b, ha, hb => by
    intro c hc
    rw [List.zipWith_cons_cons, List.mem_cons] at hc
    rcases hc with rfl | hc
    · exact Nat.xor_lt_two_pow (n := 8) (ha x (by simp)) (hb y (by simp))
    · exact zip_lt a b (fun z hz => ha z (by simp [hz])) (fun z hz => hb z (by simp [hz])) c hc
theorem zip_zero : ∀ (a : List Nat), List.zipWith (· ^^^ ·) (List.replicate a.length 0) a = a
  | [] => rfl
  | x :: a => by rw [List.length_cons, List.replicate_succ, List.zipWith_cons_cons, zip_zero a, Nat.zero_xor]
theorem xor_cancel (M x y z : Nat) : (M ^^^ x) ^^^ (M ^^^ y) ^^^ (M ^^^ (z ^^^ (x ^^^ y))) = M ^^^ z := by
  rw [show (M ^^^ x) ^^^ (M ^^^ y) = x ^^^ y by rw [xor4 M x M y, Nat.xor_self, Nat.zero_xor], Nat.xor_comm (x ^^^ y), Nat.xor_assoc, Nat.xor_assoc, Nat.xor_self, Nat.xor_zero]
/-- affine over XOR -/
theorem linear (a b : List Nat) (h : a.length = b.length) (ha : ∀ c ∈ a, c < 256) (hb : ∀ c ∈ b, c < 256) :
    more 0 a ^^^ more 0 b ^^^ more 0 (List.zipWith (· ^^^ ·) a b) = more 0 (List.replicate a.length 0) := by
  have hM : inv 0 < 4294967296 := inv_lt 0
  have hz : ∀ c ∈ List.replicate a.length 0, c < 256 := fun c hc => by rw [List.eq_of_mem_replicate hc]; omega
  have hc := zip_lt a b ha hb
  unfold more
  rw [inv_eq (take_lt a hM ha), inv_eq (take_lt b hM hb), inv_eq (take_lt _ hM hc), inv_eq (take_lt _ hM hz)]
  have h0 : take 0 (List.zipWith (· ^^^ ·) a b) = take (inv 0) a ^^^ take (inv 0) b := by
    rw [← take_xor a b _ _ h, Nat.xor_self]
  have hlen : (List.zipWith (· ^^^ ·) a b).length = a.length := by simp [h]
  have h1 : take (inv 0) (List.zipWith (· ^^^ ·) a b) = take (inv 0) (List.replicate a.length 0) ^^^ take 0 (List.zipWith (· ^^^ ·) a b) := by
    rw [← take_xor _ _ _ _ (by rw [hlen]; simp), Nat.xor_zero, ← hlen, zip_zero]
  rw [h1, h0, xor_cancel]

theorem xor_zero_iff {a b : Nat} : a ^^^ b = 0 ↔ a = b := by
  constructor
  · intro h
    have : a ^^^ b ^^^ b = 0 ^^^ b := by rw [h]
    rwa [Nat.xor_assoc, Nat.xor_self, Nat.xor_zero, Nat.zero_xor] at this
  · rintro rfl
    exact Nat.xor_self a
theorem bits8_mul (m : Nat) : bits 8 (m * 256) = m := by
  have e : ∀ x : Nat, bit (2 * x) = x := fun x => by unfold bit; rw [if_neg (by omega)]; omega
  rw [show m * 256 = 2 * (2 * (2 * (2 * (2 * (2 * (2 * (2 * m))))))) by omega]
  simp only [bits, e]
theorem bits8_back {x m : Nat} (hx : x < 4294967296) (hm : m < 16777216) (h : bits 8 x = m) : x = m * 256 := by
  apply xor_zero_iff.1
  refine bits_zero_of 8 (xor_lt hx (by omega)) ?_
  rw [bits_xor, bits8_mul, h, Nat.xor_self]
theorem xor_small {m c k : Nat} (hm : m < k) (hc : c < 256) (hk : k ≤ 65536) : m * 256 ^^^ c < 16777216 := Nat.xor_lt_two_pow (n := 24) (by omega) (by omega)
theorem mul_xor_zero {m c : Nat} (hc : c < 256) (h : m * 256 ^^^ c = 0) : m = 0 ∧ c = 0 := by
  have := xor_zero_iff.1 h
  omega
theorem mul_xor_lt {m c : Nat} (hm : m < 256) (hc : c < 256) : m * 256 ^^^ c < 65536 := Nat.xor_lt_two_pow (n := 16) (by omega) (by omega)
/-- four bytes alone leave nothing only if they are 0 -/
theorem four_zero {a b c d : Nat} (ha : a < 256) (hb : b < 256) (hc : c < 256) (hd : d < 256) (h : take 0 [a, b, c, d] = 0) : a = 0 ∧ b = 0 ∧ c = 0 ∧ d = 0 := by
  simp only [take, List.foldl_cons, List.foldl_nil, byte, Nat.zero_xor] at h
  have l1 : bits 8 a < 4294967296 := bits_lt 8 (by omega)
  have l2 : bits 8 (bits 8 a ^^^ b) < 4294967296 := bits_lt 8 (xor_lt l1 (by omega))
  have l3 : bits 8 (bits 8 (bits 8 a ^^^ b) ^^^ c) < 4294967296 := bits_lt 8 (xor_lt l2 (by omega))
  have h3 := xor_zero_iff.1 (bits_zero_of 8 (xor_lt l3 (by omega)) h)
  have h2 := bits8_back (xor_lt l2 (by omega)) (by omega) h3
  have e2 : bits 8 (bits 8 a ^^^ b) = d * 256 ^^^ c := by rw [← h2, Nat.xor_assoc, Nat.xor_self, Nat.xor_zero]
  have k2 := mul_xor_lt hd hc
  have h1 := bits8_back (xor_lt l1 (by omega)) (by omega) e2
  have e1 : bits 8 a = (d * 256 ^^^ c) * 256 ^^^ b := by rw [← h1, Nat.xor_assoc, Nat.xor_self, Nat.xor_zero]
  have h0 := bits8_back (by omega) (xor_small k2 hb (Nat.le_refl _)) e1
  have z : (d * 256 ^^^ c) * 256 ^^^ b = 0 := by omega
  obtain ⟨z1, z2⟩ := mul_xor_zero hb z
  obtain ⟨z3, z4⟩ := mul_xor_zero hc z1
  exact ⟨by omega, z2, z4, z3⟩
theorem zip_self : ∀ s : List Nat, List.zipWith (· ^^^ ·) s s = List.replicate s.length 0
  | [] => rfl
  | x :: s => by rw [List.zipWith_cons_cons, Nat.xor_self, zip_self s]; rfl
theorem inv_inj {a b : Nat} (ha : a < 4294967296) (hb : b < 4294967296) (h : inv a = inv b) : a = b := by unfold inv at h; omega
/-- sequences that differ only within four consecutive bytes have different checksums -/
theorem apart (p s x y : List Nat) (hp : ∀ c ∈ p, c < 256) (hs : ∀ c ∈ s, c < 256) (hx : ∀ c ∈ x, c < 256) (hy : ∀ c ∈ y, c < 256) (lx : x.length = 4) (ly : y.length = 4)
    (h : more 0 (p ++ (x ++ s)) = more 0 (p ++ (y ++ s))) : x = y := by
  have hM : inv 0 < 4294967296 := inv_lt 0
  have hA : ∀ z : List Nat, (∀ c ∈ z, c < 256) → ∀ c ∈ p ++ (z ++ s), c < 256 := by
    intro z hz c hc
    rw [List.mem_append, List.mem_append] at hc
    rcases hc with h | h | h
    · exact hp c h
    · exact hz c h
    · exact hs c h
  have h1 := inv_inj (take_lt _ hM (hA x hx)) (take_lt _ hM (hA y hy)) h
  simp only [take_append] at h1
  have hP := take_lt p hM hp
  generalize take (inv 0) p = S at *
  have lA := take_lt x hP hx
  have lB := take_lt y hP hy
  have h2 : bits (8 * s.length) (take S x ^^^ take S y) = 0 := by
    rw [← take_zeros, ← zip_self, take_xor _ _ _ _ rfl, h1, Nat.xor_self]
  have h3 := bits_zero_of _ (xor_lt lA lB) h2
  rw [← take_xor x y S S (by omega), Nat.xor_self] at h3
  match x, y, lx, ly with
  | [a, b, c, d], [a', b', c', d'], _, _ =>
    simp only [List.zipWith_cons_cons, List.zipWith_nil_left] at h3
    have ha : ∀ u v : Nat, u < 256 → v < 256 → u ^^^ v < 256 := fun u v hu hv => Nat.xor_lt_two_pow (n := 8) hu hv
    obtain ⟨z1, z2, z3, z4⟩ := four_zero (ha _ _ (hx a (by simp)) (hy a' (by simp))) (ha _ _ (hx b (by simp)) (hy b' (by simp))) (ha _ _ (hx c (by simp)) (hy c' (by simp))) (ha _ _ (hx d (by simp)) (hy d' (by simp))) h3
    rw [xor_zero_iff.1 z1, xor_zero_iff.1 z2, xor_zero_iff.1 z3, xor_zero_iff.1 z4]
/-- a checksum of two parts -/
theorem more_append (s : Nat) (a b : List Nat) (ha : ∀ c ∈ a, c < 256) : more (more s a) b = more s (a ++ b) := by
  unfold more
  rw [inv_inv (take_lt a (inv_lt s) ha), take_append]
theorem both_append (a b : List Nat) (ha : ∀ c ∈ a, c < 256) (hb : ∀ c ∈ b, c < 256) : bits (8 * b.length) (more 0 a) ^^^ more 0 b = more 0 (a ++ b) := by
  have hM : inv 0 < 4294967296 := inv_lt 0
  have hA := take_lt a hM ha
  unfold more
  rw [take_append, inv_eq hA, inv_eq (take_lt b hM hb), inv_eq (take_lt b hA hb)]
  have h1 : take (take (inv 0) a) b = bits (8 * b.length) (4294967295 ^^^ take (inv 0) a) ^^^ take (inv 0) b := by
    rw [← take_zeros, ← take_xor _ _ _ _ (by simp), zip_zero]
    congr 1
    rw [show inv 0 = 4294967295 from rfl, Nat.xor_comm 4294967295, Nat.xor_assoc, Nat.xor_self, Nat.xor_zero]
  rw [h1, ← Nat.xor_assoc, ← Nat.xor_assoc, Nat.xor_comm (bits _ _) 4294967295]
end Crc
end Go.Proofs.YtmkkbomkonociaaDoor
