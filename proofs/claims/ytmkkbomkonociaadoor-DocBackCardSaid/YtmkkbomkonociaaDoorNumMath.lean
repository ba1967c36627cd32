/- The numerals in plain Lean: print, and what is read. No program in sight. -/
import Derived.WalkKit
namespace Go.Proofs.YtmkkbomkonociaaDoor.Num

/-- the digits of a number, at least one -/
def dig (n : Nat) : List UInt8 := if n < 10 then [UInt8.ofNat (48 + n)] else dig (n / 10) ++ [UInt8.ofNat (48 + n % 10)]
termination_by n
decreasing_by omega
def print (n : Int) : List UInt8 := if n < 0 then 45 :: dig n.natAbs else dig n.natAbs

def isDig (c : UInt8) : Bool := 48 ≤ c.toNat && c.toNat ≤ 57
/-- the value of digits, ahead of them a number -/
def val (s : Nat) (l : List UInt8) : Nat := l.foldl (fun s c => 10 * s + (c.toNat - 48)) s

theorem val_nil (s : Nat) : val s [] = s := rfl
theorem val_cons (s : Nat) (c : UInt8) (l : List UInt8) : val s (c :: l) = val (10 * s + (c.toNat - 48)) l := by simp only [val, List.foldl_cons]
theorem val_append (s : Nat) (l m : List UInt8) : val s (l ++ m) = val (val s l) m := by
  simp only [val, List.foldl_append]
theorem dig_small {n : Nat} (h : n < 10) : dig n = [UInt8.ofNat (48 + n)] := by rw [dig, if_pos h]
theorem dig_big {n : Nat} (h : ¬ n < 10) : dig n = dig (n / 10) ++ [UInt8.ofNat (48 + n % 10)] := by rw [dig, if_neg h]
theorem ofNat_dig {n : Nat} (h : n < 10) : (UInt8.ofNat (48 + n)).toNat = 48 + n := by
  simp only [UInt8.toNat_ofNat']; omega
theorem dig_ne (n : Nat) : dig n ≠ [] := by
  by_cases h : n < 10
  · rw [dig_small h]; simp
  · rw [dig_big h]; simp
theorem dig_all (n : Nat) : ∀ c ∈ dig n, isDig c = true := by
  induction n using Nat.strongRecOn with
  | ind n ih =>
    intro c hc
    by_cases h : n < 10
    · rw [dig_small h, List.mem_singleton] at hc
      subst hc
      simp only [isDig, ofNat_dig h, Bool.and_eq_true, decide_eq_true_eq]; omega
    · rw [dig_big h, List.mem_append, List.mem_singleton] at hc
      rcases hc with hc | hc
      · exact ih (n / 10) (by omega) c hc
      · subst hc
        simp only [isDig, ofNat_dig (show n % 10 < 10 by omega), Bool.and_eq_true, decide_eq_true_eq]; omega
theorem val_dig (n : Nat) : val 0 (dig n) = n := by
  induction n using Nat.strongRecOn with
  | ind n ih =>
    by_cases h : n < 10
    · rw [dig_small h, val_cons, val_nil, ofNat_dig h]; omega
    · rw [dig_big h, val_append, ih (n / 10) (by omega), val_cons, val_nil, ofNat_dig (show n % 10 < 10 by omega)]; omega
/-- a number of k digits at most is below the power of ten, and the other way round -/
theorem dig_len (k : Nat) : ∀ n : Nat, (dig n).length ≤ k + 1 ↔ n < 10 ^ (k + 1) := by
  induction k with
  | zero =>
    intro n
    by_cases h : n < 10
    · rw [dig_small h]; simp [h]
    · rw [dig_big h, List.length_append]
      have := List.length_pos_iff.2 (dig_ne (n / 10))
      simp only [List.length_cons, List.length_nil]; omega
  | succ k ih =>
    intro n
    have hp : 10 ^ (k + 1 + 1) = 10 * 10 ^ (k + 1) := by rw [Nat.pow_succ]; omega
    have h1 : 1 ≤ 10 ^ (k + 1) := Nat.one_le_pow _ _ (by omega)
    by_cases h : n < 10
    · rw [dig_small h, hp]
      simp only [List.length_cons, List.length_nil]; omega
    · rw [dig_big h, List.length_append, hp]
      have := ih (n / 10)
      simp only [List.length_cons, List.length_nil]; omega
/-- the first digit of a number above 0 is not 0 -/
theorem dig_head (n : Nat) (h : 0 < n) : ∃ c l, dig n = c :: l ∧ 48 < c.toNat := by
  induction n using Nat.strongRecOn with
  | ind n ih =>
    by_cases h9 : n < 10
    · exact ⟨_, [], dig_small h9, by rw [ofNat_dig h9]; omega⟩
    · obtain ⟨c, l, hc, hl⟩ := ih (n / 10) (by omega) (by omega)
      exact ⟨c, l ++ [UInt8.ofNat (48 + n % 10)], by rw [dig_big h9, hc]; rfl, hl⟩
def digz (m : Nat) : List UInt8 := if m = 0 then [] else dig m
/-- what is left while a number's digits are written from behind -/
def Left (N m : Nat) (Y : List UInt8) (f : Bool) : Prop := (f = true ∧ Y = [] ∧ m = N) ∨ (f = false ∧ Y ≠ [] ∧ dig N = digz m ++ Y)
theorem left_start (N : Nat) : Left N N [] true := Or.inl ⟨rfl, rfl, rfl⟩
theorem digz_step (m : Nat) (h : m ≠ 0) : digz m = digz (m / 10) ++ [UInt8.ofNat (48 + m % 10)] := by
  unfold digz
  rw [if_neg h]
  by_cases h9 : m < 10
  · rw [if_pos (by omega), dig_small h9, show m % 10 = m by omega]; rfl
  · rw [if_neg (by omega), dig_big h9]
theorem dig_step (m : Nat) : dig m = digz (m / 10) ++ [UInt8.ofNat (48 + m % 10)] := by
  by_cases h : m = 0
  · subst h
    rw [dig_small (by omega)]
    unfold digz
    rw [if_pos (by omega)]; rfl
  · rw [← digz_step m h]
    unfold digz
    rw [if_neg h]
theorem left_step {N m : Nat} {Y : List UInt8} {f : Bool} (h : Left N m Y f) (hm : f = true ∨ m ≠ 0) : Left N (m / 10) (UInt8.ofNat (48 + m % 10) :: Y) false := by
  right
  refine ⟨rfl, by simp, ?_⟩
  rcases h with ⟨_, hY, hN⟩ | ⟨hf, _, hd⟩
  · subst hY
    subst hN
    exact dig_step m
  · have h0 : m ≠ 0 := by
      rcases hm with h | h
      · rw [hf] at h; cases h
      · exact h
    rw [hd, digz_step m h0, List.append_assoc]; rfl
theorem left_end {N : Nat} {Y : List UInt8} (h : Left N 0 Y false) : Y = dig N := by
  rcases h with ⟨hf, _⟩ | ⟨_, _, hd⟩
  · cases hf
  · rw [hd]; rfl
theorem left_len {N m : Nat} {Y : List UInt8} {f : Bool} (h : Left N m Y f) (hm : f = true ∨ m ≠ 0) (hN : N < 10 ^ 19) : Y.length < 19 := by
  rcases h with ⟨_, hY, _⟩ | ⟨hf, _, hd⟩
  · subst hY; exact Nat.succ_pos _
  · have h0 : m ≠ 0 := by
      rcases hm with h | h
      · rw [hf] at h; cases h
      · exact h
    have hl := (dig_len 18 N).2 hN
    have hz : digz m = dig m := by unfold digz; rw [if_neg h0]
    have := List.length_pos_iff.2 (dig_ne m)
    rw [hd, hz, List.length_append] at hl
    omega
theorem dig_le {N : Nat} (hN : N < 10 ^ 19) : (dig N).length ≤ 19 := (dig_len 18 N).2 hN
end Go.Proofs.YtmkkbomkonociaaDoor.Num
