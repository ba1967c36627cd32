/- What reading a number with an unfinished or finished fraction or exponent yields. No program in sight. -/
import Derived.Test.YtciakpfnmkoghaaNumPlain
namespace Go.Proofs.Ytciakpfnmkoghaa.Num

def partAt (k : Nat) : List UInt8 := [[46], [101], [69], [101, 43], [69, 45], [46, 48, 101]].getD k []
theorem part_noDig {k : Nat} (hk : k < 6) (X : List UInt8) : noDig (partAt k ++ X) := by
  intro c hc
  match k, hk with
  | 0, _ => simp [partAt] at hc; subst hc; rfl
  | 1, _ => simp [partAt] at hc; subst hc; rfl
  | 2, _ => simp [partAt] at hc; subst hc; rfl
  | 3, _ => simp [partAt] at hc; subst hc; rfl
  | 4, _ => simp [partAt] at hc; subst hc; rfl
  | 5, _ => simp [partAt] at hc; subst hc; rfl
theorem rest_part {k : Nat} (hk : k < 6) (m : Bool) (V : Nat) : rest (partAt k) 2 ⟨0, m, V, false⟩ = .error (partAt k).length := by
  match k, hk with
  | 0, _ => rfl
  | 1, _ => rfl
  | 2, _ => rfl
  | 3, _ => rfl
  | 4, _ => rfl
  | 5, _ => rfl
theorem rest_partx {k : Nat} (hk : k < 6) (m : Bool) (V : Nat) : rest (partAt k ++ [120]) 2 ⟨0, m, V, false⟩ = .error (partAt k).length := by
  match k, hk with
  | 0, _ => rfl
  | 1, _ => rfl
  | 2, _ => rfl
  | 3, _ => rfl
  | 4, _ => rfl
  | 5, _ => rfl
theorem x_noDig : noDig [120] := by
  intro c hc
  simp at hc; subst hc; rfl
theorem need_dx (d : Nat) (m : Bool) (V : Nat) : need skip (dig d ++ [120]) ⟨0, m, V, true⟩ = .ok ⟨(dig d).length, m, V, true⟩ := by
  unfold need
  rw [show (St.mk 0 m V true).at_ = 0 from rfl, isAt_dig_head, if_pos rfl, fin_skip]
  simp only [List.drop_zero, takeWhile_dig _ _ (dig_all d) x_noDig, Nat.zero_add]
theorem take_dx (d : Nat) (m : Bool) (V : Nat) : take (dig d ++ [120]) [43, 45] ⟨0, m, V, true⟩ = ⟨0, m, V, true⟩ := by
  have h : isAt (dig d ++ [120]) 0 [43, 45] = false := by
    cases hd : dig d with
    | nil => exact absurd hd (dig_ne d)
    | cons c l =>
      rw [List.cons_append, isAt_head]
      have h := dig_all d c (by rw [hd]; simp)
      have h1 : c ≠ 43 := fun e => by subst e; exact absurd h (by decide)
      have h2 : c ≠ 45 := fun e => by subst e; exact absurd h (by decide)
      simp [h1, h2]
  unfold take
  rw [show (St.mk 0 m V true).at_ = 0 from rfl, h]; rfl
theorem exp_dx (d : Nat) (m : Bool) (V : Nat) : exponent (dig d ++ [120]) ⟨(dig d).length, m, V, true⟩ = .ok ⟨(dig d).length, m, V, true⟩ := by
  have := exponent_shift (dig d) [120] ⟨0, m, V, true⟩
  exact this
theorem need_after (P : List UInt8) (d : Nat) (m : Bool) (V : Nat) : need skip (P ++ (dig d ++ [120])) ⟨P.length, m, V, true⟩ = .ok ⟨P.length + (dig d).length, m, V, true⟩ := by
  have := need_shift (Or.inl rfl) P (dig d ++ [120]) ⟨0, m, V, true⟩
  rw [need_dx] at this
  exact this
theorem take_after (P : List UInt8) (d : Nat) (m : Bool) (V : Nat) : take (P ++ (dig d ++ [120])) [43, 45] ⟨P.length, m, V, true⟩ = ⟨P.length, m, V, true⟩ := by
  have := take_shift P (dig d ++ [120]) [43, 45] ⟨0, m, V, true⟩
  rw [take_dx] at this
  exact this
theorem exp_after (P : List UInt8) (d : Nat) (m : Bool) (V : Nat) : exponent (P ++ (dig d ++ [120])) ⟨P.length + (dig d).length, m, V, true⟩ = .ok ⟨P.length + (dig d).length, m, V, true⟩ := by
  have := exponent_shift P (dig d ++ [120]) ⟨(dig d).length, m, V, true⟩
  rw [exp_dx] at this
  exact this
theorem rest_digits {k : Nat} (hk : k < 6) (d : Nat) (m : Bool) (V : Nat) : ∃ st, rest (partAt k ++ (dig d ++ [120])) 2 ⟨0, m, V, false⟩ = .ok st ∧ st.part = true := by
  match k, hk with
  | 0, _ => exact ⟨⟨1 + (dig d).length, m, V, true⟩, by
      show (need skip ([46] ++ (dig d ++ [120])) ⟨1, m, V, true⟩).bind (exponent ([46] ++ (dig d ++ [120]))) = _
      rw [show need skip ([46] ++ (dig d ++ [120])) ⟨1, m, V, true⟩ = _ from need_after [46] d m V]
      exact exp_after [46] d m V, rfl⟩
  | 1, _ => exact ⟨⟨1 + (dig d).length, m, V, true⟩, by
      show need skip ([101] ++ (dig d ++ [120])) (take ([101] ++ (dig d ++ [120])) [43, 45] ⟨1, m, V, true⟩) = _
      rw [show take ([101] ++ (dig d ++ [120])) [43, 45] ⟨1, m, V, true⟩ = _ from take_after [101] d m V]
      exact need_after [101] d m V, rfl⟩
  | 2, _ => exact ⟨⟨1 + (dig d).length, m, V, true⟩, by
      show need skip ([69] ++ (dig d ++ [120])) (take ([69] ++ (dig d ++ [120])) [43, 45] ⟨1, m, V, true⟩) = _
      rw [show take ([69] ++ (dig d ++ [120])) [43, 45] ⟨1, m, V, true⟩ = _ from take_after [69] d m V]
      exact need_after [69] d m V, rfl⟩
  | 3, _ => exact ⟨⟨2 + (dig d).length, m, V, true⟩, need_after [101, 43] d m V, rfl⟩
  | 4, _ => exact ⟨⟨2 + (dig d).length, m, V, true⟩, need_after [69, 45] d m V, rfl⟩
  | 5, _ => exact ⟨⟨3 + (dig d).length, m, V, true⟩, by
      have hf : need skip ([46, 48, 101] ++ (dig d ++ [120])) ⟨1, m, V, true⟩ = .ok ⟨2, m, V, true⟩ := by
        unfold need
        rw [show isAt ([46, 48, 101] ++ (dig d ++ [120])) (St.mk 1 m V true).at_ DIGITS = true from rfl, if_pos rfl, fin_skip]; rfl
      show (need skip ([46, 48, 101] ++ (dig d ++ [120])) ⟨1, m, V, true⟩).bind (exponent ([46, 48, 101] ++ (dig d ++ [120]))) = _
      rw [hf]
      show need skip ([46, 48, 101] ++ (dig d ++ [120])) (take ([46, 48, 101] ++ (dig d ++ [120])) [43, 45] ⟨3, m, V, true⟩) = _
      rw [show take ([46, 48, 101] ++ (dig d ++ [120])) [43, 45] ⟨3, m, V, true⟩ = _ from take_after [46, 48, 101] d m V]
      exact need_after [46, 48, 101] d m V, rfl⟩
theorem read_wrong {l : List UInt8} {k : Nat} (h : reads l 0 = .error k) : read l 0 = (0, (k : Int), 7) := by
  unfold read
  rw [if_neg (by omega), show (0 : Int).toNat = 0 from rfl, h]
theorem read_part {l : List UInt8} {st : St} (h : reads l 0 = .ok st) (hp : st.part = true) : read l 0 = (0, 0, 130) := by
  unfold read
  rw [if_neg (by omega), show (0 : Int).toNat = 0 from rfl, h]
  simp only [hp, true_or, ite_true]
theorem parts_one (n : Int) {k : Nat} (hk : k < 6) : read (print n ++ partAt k) 0 = (0, (((print n).length + (partAt k).length : Nat) : Int), 7) := by
  refine read_wrong ?_
  rw [reads_print n _ (Or.inl (by have := part_noDig hk []; rwa [List.append_nil] at this)), rest_part hk]; rfl
theorem parts_two (n : Int) {k : Nat} (hk : k < 6) : read (print n ++ (partAt k ++ [120])) 0 = (0, (((print n).length + (partAt k).length : Nat) : Int), 7) := by
  refine read_wrong ?_
  rw [reads_print n _ (Or.inl (part_noDig hk _)), rest_partx hk]; rfl
theorem parts_three (n : Int) {k : Nat} (hk : k < 6) (d : Nat) : read (print n ++ (partAt k ++ (dig d ++ [120]))) 0 = (0, 0, 130) := by
  obtain ⟨st, h, hp⟩ := rest_digits hk d (decide (n < 0)) n.natAbs
  refine read_part (st := shift (print n).length st) ?_ hp
  rw [reads_print n _ (Or.inl (part_noDig hk _)), h]; rfl
end Go.Proofs.Ytciakpfnmkoghaa.Num
