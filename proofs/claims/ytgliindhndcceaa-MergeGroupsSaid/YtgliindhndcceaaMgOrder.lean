/- The heap's order: up and down keep it. No program in sight. -/
import Derived.Test.YtgliindhndcceaaMgPop
namespace Go.Proofs.Ytgliindhndcceaa

/-! ### the order of rests -/
theorem lessR_iff {r s : Rst} : lessR r s = true ↔ Mg.lt r.key s.key = true ∨ (r.key = s.key ∧ s.pl < r.pl) := by
  unfold lessR
  split
  · rename_i h; exact ⟨fun _ => .inl h, fun _ => rfl⟩
  · rename_i h
    split
    · rename_i h2
      rw [decide_eq_true_eq]
      exact ⟨fun h3 => .inr ⟨h2, h3⟩, fun h3 => h3.elim (fun h4 => absurd h4 h) (fun h4 => h4.2)⟩
    · rename_i h2
      exact ⟨fun h3 => absurd h3 (by decide), fun h3 => h3.elim (fun h4 => absurd h4 h) (fun h4 => absurd h4.1 h2)⟩
theorem less_asymm {r s : Rst} (h : lessR r s = true) : lessR s r = false := by
  cases hs : lessR s r with
  | false => rfl
  | true =>
    rw [lessR_iff] at h hs
    rcases h with h | ⟨h, h2⟩
    · rcases hs with k | ⟨k, _⟩
      · rw [Mg.lt_asymm h] at k; cases k
      · rw [k, Mg.lt_irrefl] at h; cases h
    · rcases hs with k | ⟨_, k2⟩
      · rw [h, Mg.lt_irrefl] at k; cases k
      · omega
/-- at most -/
def leR (r s : Rst) : Prop := lessR s r = false
theorem leR_of_less {r s : Rst} (h : lessR r s = true) : leR r s := less_asymm h
theorem leR_refl (r : Rst) : leR r r := by
  unfold leR
  cases h : lessR r r with
  | false => rfl
  | true => have := less_asymm h; rw [h] at this; cases this
theorem leR_iff {r s : Rst} : leR r s ↔ Mg.lt r.key s.key = true ∨ (r.key = s.key ∧ s.pl ≤ r.pl) := by
  unfold leR
  constructor
  · intro h
    rcases Mg.lt_tri r.key s.key with h1 | h1 | h1
    · exact .inl h1
    · right
      refine ⟨h1, ?_⟩
      rcases Nat.lt_or_ge r.pl s.pl with h2 | h2
      · have : lessR s r = true := lessR_iff.2 (.inr ⟨h1.symm, h2⟩)
        rw [h] at this; cases this
      · exact h2
    · have : lessR s r = true := lessR_iff.2 (.inl h1)
      rw [h] at this; cases this
  · intro h
    cases hs : lessR s r with
    | false => rfl
    | true =>
      rw [lessR_iff] at hs
      rcases h with h | ⟨h, h2⟩
      · rcases hs with k | ⟨k, _⟩
        · rw [Mg.lt_asymm h] at k; cases k
        · rw [k, Mg.lt_irrefl] at h; cases h
      · rcases hs with k | ⟨_, k2⟩
        · rw [h, Mg.lt_irrefl] at k; cases k
        · omega
theorem leR_trans {r s t : Rst} (h : leR r s) (k : leR s t) : leR r t := by
  rw [leR_iff] at *
  rcases h with h | ⟨h, h2⟩
  · rcases k with k | ⟨k, _⟩
    · exact .inl (Mg.lt_trans h k)
    · exact .inl (by rw [← k]; exact h)
  · rcases k with k | ⟨k, k2⟩
    · exact .inl (by rw [h]; exact k)
    · exact .inr ⟨h.trans k, by omega⟩
/-! ### places -/
def d0 : Rst := ⟨none, 0, 0, [], 0⟩
def pt (H : List Rst) (i : Nat) : Rst := H.getD i d0
theorem pt_eq {H : List Rst} {i : Nat} (h : i < H.length) : pt H i = H[i] := by unfold pt; rw [List.getD_eq_getElem?_getD, List.getElem?_eq_getElem h]; rfl
theorem lessAt_pt {H : List Rst} {i j : Nat} (hi : i < H.length) (hj : j < H.length) : lessAt H i j = lessR (pt H i) (pt H j) := by rw [lessAt_eq hi hj, pt_eq hi, pt_eq hj]
theorem pt_swp {H : List Rst} {i j : Nat} (hi : i < H.length) (hj : j < H.length) (k : Nat) : pt (swp H i j) k = if k = j then pt H i else if k = i then pt H j else pt H k := by
  rw [pt_eq hi, pt_eq hj, swp_eq hi hj]
  unfold pt
  rw [List.getD_eq_getElem?_getD, List.getD_eq_getElem?_getD, List.getElem?_set, List.getElem?_set, List.length_set]
  by_cases h1 : k = j
  · subst h1; rw [if_pos rfl, if_pos rfl, if_pos hj]; rfl
  · rw [if_neg (Ne.symm h1), if_neg h1]
    by_cases h2 : k = i
    · subst h2; rw [if_pos rfl, if_pos rfl, if_pos hi]; rfl
    · rw [if_neg (Ne.symm h2), if_neg h2]
/-- the first n places are a heap -/
def heapTo (H : List Rst) (n : Nat) : Prop := ∀ k, 0 < k → k < n → leR (pt H ((k - 1) / 2)) (pt H k)
theorem up_heap (j : Nat) : ∀ H : List Rst, j < H.length → (∀ k, 0 < k → k < H.length → k ≠ j → leR (pt H ((k - 1) / 2)) (pt H k)) →
    (0 < j → ∀ k, 0 < k → k < H.length → (k - 1) / 2 = j → leR (pt H ((j - 1) / 2)) (pt H k)) → heapTo (hUp H j) H.length := by
  induction j using Nat.strongRecOn with
  | ind j ih =>
    intro H hj h1 h2
    cases j with
    | zero =>
      rw [hUp_zero]
      exact fun k hk hkn => h1 k hk hkn (by omega)
    | succ p =>
      have hp : p / 2 < H.length := by omega
      have hpar : (p + 1 - 1) / 2 = p / 2 := by rw [show p + 1 - 1 = p by omega]
      cases hl : lessAt H (p + 1) (p / 2) with
      | false =>
        rw [hUp_stay hl]
        rw [lessAt_pt hj hp] at hl
        intro k hk hkn
        by_cases he : k = p + 1
        · subst he; rw [hpar]; exact hl
        · exact h1 k hk hkn he
      | true =>
        rw [hUp_go hl]
        rw [lessAt_pt hj hp] at hl
        have hle := leR_of_less hl
        have hs := pt_swp hp hj
        have hln := swp_len H (p / 2) (p + 1)
        have := ih (p / 2) (by omega) (swp H (p / 2) (p + 1)) (by rw [hln]; exact hp) ?_ ?_
        · rwa [hln] at this
        · intro k hk hkn hne
          rw [hln] at hkn
          rw [hs, hs]
          by_cases hkj : k = p + 1
          · subst hkj
            rw [hpar, if_neg (by omega), if_pos rfl, if_pos rfl]
            exact hle
          · rw [if_neg hkj, if_neg hne]
            by_cases hpk : (k - 1) / 2 = p + 1
            · rw [if_pos hpk]
              have := h2 (by omega) k hk hkn hpk
              rwa [hpar] at this
            · rw [if_neg hpk]
              by_cases hpp : (k - 1) / 2 = p / 2
              · rw [if_pos hpp]
                have := h1 k hk hkn hkj
                rw [hpp] at this
                exact leR_trans hle this
              · rw [if_neg hpp]
                exact h1 k hk hkn hkj
        · intro hp0 k hk hkn hpk
          rw [hln] at hkn
          rw [hs, hs, if_neg (by omega), if_neg (by omega)]
          have hpp := h1 (p / 2) hp0 hp (by omega)
          by_cases hkj : k = p + 1
          · rw [if_pos hkj]; exact hpp
          · rw [if_neg hkj, if_neg (by omega)]
            have := h1 k hk hkn hkj
            rw [hpk] at this
            exact leR_trans hpp this
theorem kid_lt {H : List Rst} {i n : Nat} (h : 2 * i + 1 < n) : kid H i n < n := by rcases kid_cases H i n with h1 | h1 <;> omega
/-- the child that kid gives is at most the other one -/
theorem kid_min {H : List Rst} {i n : Nat} (h : 2 * i + 1 < n) (hn : n ≤ H.length) {k : Nat} (hk : k < n) (hp : (k - 1) / 2 = i) (hk0 : 0 < k) : leR (pt H (kid H i n)) (pt H k) := by
  by_cases h2 : 2 * i + 2 < n
  · cases hl : lessAt H (2 * i + 2) (2 * i + 1) with
    | false =>
      rw [kid_left hl]
      rw [lessAt_pt (by omega) (by omega)] at hl
      by_cases he : k = 2 * i + 1
      · rw [he]; exact leR_refl _
      · obtain rfl : k = 2 * i + 2 := by omega
        exact hl
    | true =>
      rw [kid_right h2 hl]
      rw [lessAt_pt (by omega) (by omega)] at hl
      by_cases he : k = 2 * i + 1
      · rw [he]; exact leR_of_less hl
      · obtain rfl : k = 2 * i + 2 := by omega
        exact leR_refl _
  · rw [kid_one h2]
    obtain rfl : k = 2 * i + 1 := by omega
    exact leR_refl _
theorem down_heap (n : Nat) (H : List Rst) (i : Nat) (hn : n ≤ H.length) (h1 : ∀ k, 0 < k → k < n → (k - 1) / 2 ≠ i → leR (pt H ((k - 1) / 2)) (pt H k))
    (h2 : 0 < i → ∀ k, 0 < k → k < n → (k - 1) / 2 = i → leR (pt H ((i - 1) / 2)) (pt H k)) : heapTo (hDown H i n).1 n := by
  induction hm : n - i using Nat.strongRecOn generalizing H i with
  | ind m ih =>
    by_cases hc : 2 * i + 1 < n
    · have hkn := kid_lt (H := H) hc
      have hik : i < kid H i n := by rcases kid_cases H i n with h | h <;> omega
      have hpk : (kid H i n - 1) / 2 = i := by rcases kid_cases H i n with h | h <;> omega
      cases hl : lessAt H (kid H i n) i with
      | false =>
        rw [hDown_stay hc hl]
        rw [lessAt_pt (by omega) (by omega)] at hl
        intro k hk hkn
        by_cases he : (k - 1) / 2 = i
        · rw [he]
          exact leR_trans hl (kid_min hc hn hkn he hk)
        · exact h1 k hk hkn he
      | true =>
        rw [hDown_go hc hl]
        rw [lessAt_pt (by omega) (by omega)] at hl
        have hle := leR_of_less hl
        have hmin := fun k (a : k < n) b (c : 0 < k) => kid_min (H := H) (i := i) hc hn (k := k) a b c
        generalize kid H i n = c at *
        have hs := pt_swp (H := H) (i := i) (j := c) (by omega) (by omega)
        refine ih (n - c) (by omega) (swp H i c) c (by rw [swp_len]; exact hn) ?_ ?_ rfl
        · intro k hk hkn' hne
          rw [hs, hs, if_neg hne]
          by_cases hkc : k = c
          · subst hkc
            rw [hpk, if_pos rfl, if_pos rfl]
            exact hle
          · rw [if_neg hkc]
            by_cases hki : k = i
            · subst hki
              rw [if_pos rfl, if_neg (by omega)]
              exact h2 hk c (by omega) hkn hpk
            · rw [if_neg hki]
              by_cases hpi : (k - 1) / 2 = i
              · rw [if_pos hpi]
                exact hmin k hkn' hpi hk
              · rw [if_neg hpi]
                exact h1 k hk hkn' hpi
        · intro hc0 k hk hkn' hpc
          rw [hpk, hs, hs, if_neg (by omega), if_pos rfl, if_neg (by omega), if_neg (by omega)]
          have := h1 k hk hkn' (by omega)
          rwa [hpc] at this
    · rw [hDown_leaf hc]
      intro k hk hkn
      exact h1 k hk hkn (by omega)
/-- the root is at most every place -/
theorem heap_root {H : List Rst} {n : Nat} (h : heapTo H n) : ∀ k, k < n → leR (pt H 0) (pt H k) := by
  intro k
  induction k using Nat.strongRecOn with
  | ind k ih =>
    intro hk
    cases k with
    | zero => exact leR_refl _
    | succ p => exact leR_trans (ih ((p + 1 - 1) / 2) (by omega) (by omega)) (h (p + 1) (by omega) hk)
/-! ### what stands in the heap -/
theorem swp_perm {H : List Rst} {i j : Nat} (hi : i < H.length) (hj : j < H.length) : (swp H i j).Perm H := by
  rw [swp_eq hi hj]
  exact List.set_set_perm hi hj
theorem hUp_perm (j : Nat) : ∀ H : List Rst, j < H.length → (hUp H j).Perm H := by
  induction j using Nat.strongRecOn with
  | ind j ih =>
    intro H hj
    cases j with
    | zero => rw [hUp_zero]
    | succ p =>
      cases hl : lessAt H (p + 1) (p / 2) with
      | false => rw [hUp_stay hl]
      | true =>
        rw [hUp_go hl]
        exact (ih (p / 2) (by omega) _ (by rw [swp_len]; omega)).trans (swp_perm (by omega) hj)
theorem hDown_perm (n : Nat) (H : List Rst) (i : Nat) (hn : n ≤ H.length) : (hDown H i n).1.Perm H := by
  induction hm : n - i using Nat.strongRecOn generalizing H i with
  | ind m ih =>
    by_cases hc : 2 * i + 1 < n
    · cases hl : lessAt H (kid H i n) i with
      | false => rw [hDown_stay hc hl]
      | true =>
        have hkn := kid_lt (H := H) hc
        have hik := kid_cases H i n
        rw [hDown_go hc hl]
        exact (ih (n - kid H i n) (by omega) _ _ (by rw [swp_len]; exact hn) rfl).trans (swp_perm (by omega) (by omega))
    · rw [hDown_leaf hc]
/-- down leaves what lies behind its part -/
theorem hDown_beyond (n : Nat) (H : List Rst) (i : Nat) (hn : n ≤ H.length) (k : Nat) (hk : n ≤ k) : pt (hDown H i n).1 k = pt H k := by
  induction hm : n - i using Nat.strongRecOn generalizing H i with
  | ind m ih =>
    by_cases hc : 2 * i + 1 < n
    · cases hl : lessAt H (kid H i n) i with
      | false => rw [hDown_stay hc hl]
      | true =>
        have hkn := kid_lt (H := H) hc
        have hik := kid_cases H i n
        rw [hDown_go hc hl, ih (n - kid H i n) (by omega) _ _ (by rw [swp_len]; exact hn) rfl, pt_swp (by omega) (by omega), if_neg (by omega), if_neg (by omega)]
    · rw [hDown_leaf hc]
theorem pt_append_left {H K : List Rst} {k : Nat} (h : k < H.length) : pt (H ++ K) k = pt H k := by
  unfold pt
  rw [List.getD_eq_getElem?_getD, List.getD_eq_getElem?_getD, List.getElem?_append_left h]
/-- one more behind all, and up -/
theorem push_heap {H : List Rst} (h : heapTo H H.length) (r : Rst) : heapTo (hUp (H ++ [r]) H.length) (H.length + 1) ∧ (hUp (H ++ [r]) H.length).Perm (H ++ [r]) := by
  have hl : (H ++ [r]).length = H.length + 1 := by simp
  refine ⟨?_, hUp_perm _ _ (by omega)⟩
  have := up_heap H.length (H ++ [r]) (by omega) ?_ ?_
  · rwa [hl] at this
  · intro k hk hkn hne
    rw [pt_append_left (by omega), pt_append_left (by omega)]
    exact h k hk (by omega)
  · intro _ k hk hkn hp
    omega
/-- another one at the root, and down -/
theorem fix_heap {H : List Rst} (h : heapTo H H.length) (r : Rst) : heapTo (hDown (H.set 0 r) 0 H.length).1 H.length ∧ (hDown (H.set 0 r) 0 H.length).1.Perm (H.set 0 r) := by
  refine ⟨down_heap H.length (H.set 0 r) 0 (by simp) ?_ (fun h => absurd h (by omega)), hDown_perm _ _ _ (by simp)⟩
  intro k hk hkn hne
  have hs : ∀ j, j ≠ 0 → pt (H.set 0 r) j = pt H j := fun j hj => by
    unfold pt
    rw [List.getD_eq_getElem?_getD, List.getD_eq_getElem?_getD, List.getElem?_set, if_neg (Ne.symm hj)]
  rw [hs k (by omega), hs _ hne]
  exact h k hk hkn
theorem pt_take {H : List Rst} {n k : Nat} (h : k < n) : pt (H.take n) k = pt H k := by
  unfold pt
  rw [List.getD_eq_getElem?_getD, List.getD_eq_getElem?_getD, List.getElem?_take, if_pos h]
/-- the root taken off -/
theorem pop_heap {H : List Rst} {m : Nat} (h : ∀ k, 0 < k → k < H.length → (k - 1) / 2 ≠ 0 → leR (pt H ((k - 1) / 2)) (pt H k)) (hm : H.length = m + 1) : heapTo (hPopped H m) m ∧ (hPopped H m).length = m ∧ (hPopped H m ++ [pt H 0]).Perm H := by
  have hl := swp_len H 0 m
  have hd := hDown_len (swp H 0 m) 0 m
  have hs := pt_swp (H := H) (i := 0) (j := m) (by omega) (by omega)
  have hlen : (hPopped H m).length = m := by unfold hPopped; rw [List.length_take, hd, hl]; omega
  refine ⟨?_, hlen, ?_⟩
  · intro k hk hkm
    unfold hPopped
    rw [pt_take (by omega), pt_take hkm]
    refine down_heap m (swp H 0 m) 0 (by omega) (fun k hk hkm hne => ?_) (fun h => absurd h (by omega)) k hk hkm
    rw [hs, hs, if_neg (by omega), if_neg hne, if_neg (by omega), if_neg (by omega)]
    exact h k hk (by omega) hne
  · have hp := (hDown_perm m (swp H 0 m) 0 (by omega)).trans (swp_perm (H := H) (i := 0) (j := m) (by omega) (by omega))
    have hlast : pt (hDown (swp H 0 m) 0 m).1 m = pt H 0 := by rw [hDown_beyond m _ 0 (by omega) m (Nat.le_refl _), hs, if_pos rfl]
    have he : (hDown (swp H 0 m) 0 m).1 = hPopped H m ++ [pt H 0] := by
      have h1 := List.take_append_drop m (hDown (swp H 0 m) 0 m).1
      have h2 : (hDown (swp H 0 m) 0 m).1.drop m = [pt H 0] := by
        rw [List.drop_eq_getElem_cons (by omega), List.drop_of_length_le (by omega), ← hlast, pt_eq (by omega)]
      rw [h2] at h1
      exact h1.symm
    rw [← he]
    exact hp
end Go.Proofs.Ytgliindhndcceaa
