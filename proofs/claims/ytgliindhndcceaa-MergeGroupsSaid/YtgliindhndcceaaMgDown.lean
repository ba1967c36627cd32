/- The walks that put a heap in order: down, Fix, Pop. -/
import Derived.Test.YtgliindhndcceaaMgUp
namespace Go.Proofs.Ytgliindhndcceaa
open Go.RowKit

theorem mem_take {α : Type} {l : List α} {i n : Nat} (hi : i < l.length) (hn : i < n) : l[i] ∈ l.take n := List.mem_take_iff_getElem.2 ⟨i, by omega, rfl⟩
theorem swp_take_mem {α : Type} {H : List α} {i j n : Nat} {x : α} (hi : i < n) (hj : j < n) (hn : n ≤ H.length) (h : x ∈ (swp H i j).take n) : x ∈ H.take n := by
  obtain ⟨k, hk, rfl⟩ := List.mem_take_iff_getElem.1 h
  have hk' : k < n ∧ k < (swp H i j).length := by omega
  have e := swp_eq (H := H) (i := i) (j := j) (by omega) (by omega)
  simp only [e]
  rw [List.getElem_set]
  split
  · exact mem_take (by omega) hi
  · rw [List.getElem_set]
    split
    · exact mem_take (by omega) hj
    · exact mem_take (by have := hk'.2; rw [swp_len] at this; exact this) hk'.1
/-- the child that is to be taken first -/
def kid (H : List Rst) (i n : Nat) : Nat := if 2 * i + 2 < n ∧ lessAt H (2 * i + 2) (2 * i + 1) = true then 2 * i + 2 else 2 * i + 1
theorem kid_cases (H : List Rst) (i n : Nat) : (kid H i n = 2 * i + 2 ∧ 2 * i + 2 < n) ∨ kid H i n = 2 * i + 1 := by
  unfold kid
  split
  · rename_i h; exact .inl ⟨rfl, h.1⟩
  · exact .inr rfl
/-- what down does -/
def hDown (H : List Rst) (i n : Nat) : List Rst × Nat :=
  if _h : 2 * i + 1 < n then if lessAt H (kid H i n) i = true then hDown (swp H i (kid H i n)) (kid H i n) n else (H, i) else (H, i)
termination_by n - i
decreasing_by
  have := kid_cases H i n
  omega
theorem hDown_leaf {H : List Rst} {i n : Nat} (h : ¬ 2 * i + 1 < n) : hDown H i n = (H, i) := by rw [hDown, dif_neg h]
theorem hDown_stay {H : List Rst} {i n : Nat} (h : 2 * i + 1 < n) (hl : lessAt H (kid H i n) i = false) : hDown H i n = (H, i) := by rw [hDown, dif_pos h, if_neg (by rw [hl]; decide)]
theorem hDown_go {H : List Rst} {i n : Nat} (h : 2 * i + 1 < n) (hl : lessAt H (kid H i n) i = true) : hDown H i n = hDown (swp H i (kid H i n)) (kid H i n) n := by rw [hDown, dif_pos h, if_pos hl]
theorem kid_one {H : List Rst} {i n : Nat} (h : ¬ 2 * i + 2 < n) : kid H i n = 2 * i + 1 := by unfold kid; rw [if_neg (fun hh => h hh.1)]
theorem kid_left {H : List Rst} {i n : Nat} (h : lessAt H (2 * i + 2) (2 * i + 1) = false) : kid H i n = 2 * i + 1 := by unfold kid; rw [if_neg (fun hh => by rw [h] at hh; cases hh.2)]
theorem kid_right {H : List Rst} {i n : Nat} (h : 2 * i + 2 < n) (hl : lessAt H (2 * i + 2) (2 * i + 1) = true) : kid H i n = 2 * i + 2 := by unfold kid; rw [if_pos ⟨h, hl⟩]
set_option maxHeartbeats 16000000 in
theorem down_any (F g cap full B : Nat) (H : List Rst) (i n : Nat) (w : World) (h : Hp w F g cap full H) (hnH : n ≤ H.length) (hok : ∀ r ∈ H.take n, r.Ok w B) (hBF : B ≤ F) (hBg : B ≤ g) (hn : H.length ≤ 100000) (hi : i ≤ 100000) :
    Calls Try.prog 47 #[.iface 63 (.pointer (some ⟨F, 0, none⟩)), .int .i64 (i : Int), .int .i64 (n : Int)] w fun e w' => e = .returned (.bool (decide (i < (hDown H i n).2))) ∧ Hp w' F g cap full (hDown H i n).1 ∧ w.grownBy w' (some g) := by
  have HH := hide h
  have HOK := hide hok
  have HB := hide (And.intro hBF hBg)
  have hm1 := mLess F
  have hm2 := mSwap F
  clear h hok hBF hBg
  go_enter Try.func47, Try.ntmps47
  go_wp2_with fail
  go_loopw [7] (fun a wr => ∃ (k : Nat) (K : List Rst), a = .int .i64 (k : Int) ∧ n ≤ K.length ∧ K.length ≤ 100000 ∧ k ≤ 100000 ∧ Hid (Hp wr F g cap full K) ∧ Hid (∀ r ∈ K.take n, r.Ok wr B) ∧ Hid (w.grownBy wr (some g)) ∧ Hid (hDown K k n = hDown H i n)) (fun a _ => n - (intOf a).toNat)
  case atStart => exact ⟨i, H, rfl, hnH, hn, hi, HH, HOK, hide (World.grownBy.refl _ _), rfl⟩
  case round =>
    obtain ⟨k, K, rfl, hnK, hn, hk, hp, hok, hgr, hu⟩ := hrel
    by_cases hj1 : 2 * k + 1 < n
    · have hkK : k < K.length := by omega
      have HSZ := hide (show B ≤ wr.heap.size from Nat.le_trans HB.out.1 (Nat.le_of_lt (lt_cells hp.out.hf)))
      have z1 : ¬ (n : Int) ≤ 2 * (k : Int) + 1 := by omega
      have z2 : ¬ 2 * (k : Int) + 1 < 0 := by omega
      by_cases hj2 : 2 * k + 2 < n
      · have z3 : 2 * (k : Int) + 1 + 1 < (n : Int) := by omega
        have a1 : 2 * k + 2 < K.length := by omega
        have a2 : 2 * k + 1 < K.length := by omega
        have HLA := hide (lessAt_eq a1 a2)
        go_wp2_with fail
        refine Calls.mono (hless_any F g cap full B K (2 * k + 2) (2 * k + 1) _ hp.out a1 a2 (hok.out _ (mem_take a1 hj2)) (hok.out _ (mem_take a2 hj1)) HSZ.out) ?_
        rintro x w2 ⟨rfl, hb2⟩
        rw [← HLA.out]
        have HP2 := hide (hp.out.on hb2)
        have HOK2 := hide (fun r hr => (hok.out r hr).below (hb2.mono HSZ.out))
        have HGR2 := hide (hgr.out.trans (grown_of_below (row := some g) hb2))
        have HSZ2 := hide (Nat.le_trans HSZ.out hb2.size)
        clear hb2
        cases hl : lessAt K (2 * k + 2) (2 * k + 1) with
        | false =>
          have hkj : 2 * k + 1 = kid K k n := (kid_left hl).symm
          clear hl
          have HKJ := hide hkj
          have hjK : (2 * k + 1) < K.length := by omega
          have hjn : (2 * k + 1) < n := by omega
          have HLB := hide (lessAt_eq hjK hkK)
          clear hkj
          go_wp2_with fail
          refine Calls.mono (hless_any F g cap full B K (2 * k + 1) k _ HP2.out hjK hkK (HOK2.out _ (mem_take hjK hjn)) (HOK2.out _ (mem_take hkK (by omega))) HSZ2.out) ?_
          rintro x w3 ⟨rfl, hb3⟩
          rw [← HLB.out]
          have HP3 := hide (HP2.out.on hb3)
          have HOK3 := hide (fun r hr => (HOK2.out r hr).below (hb3.mono HSZ2.out))
          have HGR3 := hide (HGR2.out.trans (grown_of_below (row := some g) hb3))
          have HSZ3 := hide (Nat.le_trans HSZ2.out hb3.size)
          clear hb3
          cases hl3 : lessAt K (2 * k + 1) k with
          | false =>
            have HF := hide (show (K, k) = hDown H i n by rw [← hu.out, hDown_stay hj1 (by rw [← HKJ.out]; exact hl3)])
            clear hl3
            go_wp2_with fail
            go_ret
            exact ⟨by rw [← HF.out]; first | done | rfl, by rw [← HF.out]; exact HP3.out, HGR3.out⟩
          | true =>
            have HU := hide (hDown_go hj1 (by rw [← HKJ.out]; exact hl3))
            rw [← HKJ.out] at HU
            clear hl3
            go_wp2_with fail
            refine Calls.mono (hswap_any F g cap full K k (2 * k + 1) _ HP3.out (by omega) hjK) ?_
            rintro x w4 ⟨⟨v4, rfl⟩, hp4, hg4⟩
            have HP4 := hide hp4
            have HG4 := hide hg4
            clear hp4 hg4
            go_wp2_with fail
            go_roundw
            case rel => exact ⟨(2 * k + 1), swp K k (2 * k + 1), rfl, by rw [swp_len]; exact hnK, by rw [swp_len]; exact hn, by omega, HP4, hide (fun r hr => (HOK3.out r (swp_take_mem (by omega) hjn hnK hr)).below (grown_below HG4.out HB.out.2 HSZ3.out)), hide (HGR3.out.trans HG4.out), hide (by rw [← HU.out]; exact hu.out)⟩
            case measure => simp [intOf]; omega
        | true =>
          have hkj : 2 * k + 2 = kid K k n := (kid_right hj2 hl).symm
          clear hl
          have HKJ := hide hkj
          have hjK : (2 * k + 2) < K.length := by omega
          have hjn : (2 * k + 2) < n := by omega
          have HLB := hide (lessAt_eq hjK hkK)
          clear hkj
          go_wp2_with fail
          refine Calls.mono (hless_any F g cap full B K (2 * k + 2) k _ HP2.out hjK hkK (HOK2.out _ (mem_take hjK hjn)) (HOK2.out _ (mem_take hkK (by omega))) HSZ2.out) ?_
          rintro x w3 ⟨rfl, hb3⟩
          rw [← HLB.out]
          have HP3 := hide (HP2.out.on hb3)
          have HOK3 := hide (fun r hr => (HOK2.out r hr).below (hb3.mono HSZ2.out))
          have HGR3 := hide (HGR2.out.trans (grown_of_below (row := some g) hb3))
          have HSZ3 := hide (Nat.le_trans HSZ2.out hb3.size)
          clear hb3
          cases hl3 : lessAt K (2 * k + 2) k with
          | false =>
            have HF := hide (show (K, k) = hDown H i n by rw [← hu.out, hDown_stay hj1 (by rw [← HKJ.out]; exact hl3)])
            clear hl3
            go_wp2_with fail
            go_ret
            exact ⟨by rw [← HF.out]; first | done | rfl, by rw [← HF.out]; exact HP3.out, HGR3.out⟩
          | true =>
            have HU := hide (hDown_go hj1 (by rw [← HKJ.out]; exact hl3))
            rw [← HKJ.out] at HU
            clear hl3
            go_wp2_with fail
            refine Calls.mono (hswap_any F g cap full K k (2 * k + 2) _ HP3.out (by omega) hjK) ?_
            rintro x w4 ⟨⟨v4, rfl⟩, hp4, hg4⟩
            have HP4 := hide hp4
            have HG4 := hide hg4
            clear hp4 hg4
            go_wp2_with fail
            go_roundw
            case rel => exact ⟨(2 * k + 2), swp K k (2 * k + 2), rfl, by rw [swp_len]; exact hnK, by rw [swp_len]; exact hn, by omega, HP4, hide (fun r hr => (HOK3.out r (swp_take_mem (by omega) hjn hnK hr)).below (grown_below HG4.out HB.out.2 HSZ3.out)), hide (HGR3.out.trans HG4.out), hide (by rw [← HU.out]; exact hu.out)⟩
            case measure => simp [intOf]; omega
      · have z3 : ¬ 2 * (k : Int) + 1 + 1 < (n : Int) := by omega
        have hkj : 2 * k + 1 = kid K k n := (kid_one hj2).symm
        have HP2 := hp
        have HOK2 := hok
        have HGR2 := hgr
        have HSZ2 := HSZ
        have HKJ := hide hkj
        have hjK : (2 * k + 1) < K.length := by omega
        have hjn : (2 * k + 1) < n := by omega
        have HLB := hide (lessAt_eq hjK hkK)
        clear hkj
        go_wp2_with fail
        refine Calls.mono (hless_any F g cap full B K (2 * k + 1) k _ HP2.out hjK hkK (HOK2.out _ (mem_take hjK hjn)) (HOK2.out _ (mem_take hkK (by omega))) HSZ2.out) ?_
        rintro x w3 ⟨rfl, hb3⟩
        rw [← HLB.out]
        have HP3 := hide (HP2.out.on hb3)
        have HOK3 := hide (fun r hr => (HOK2.out r hr).below (hb3.mono HSZ2.out))
        have HGR3 := hide (HGR2.out.trans (grown_of_below (row := some g) hb3))
        have HSZ3 := hide (Nat.le_trans HSZ2.out hb3.size)
        clear hb3
        cases hl3 : lessAt K (2 * k + 1) k with
        | false =>
          have HF := hide (show (K, k) = hDown H i n by rw [← hu.out, hDown_stay hj1 (by rw [← HKJ.out]; exact hl3)])
          clear hl3
          go_wp2_with fail
          go_ret
          exact ⟨by rw [← HF.out]; first | done | rfl, by rw [← HF.out]; exact HP3.out, HGR3.out⟩
        | true =>
          have HU := hide (hDown_go hj1 (by rw [← HKJ.out]; exact hl3))
          rw [← HKJ.out] at HU
          clear hl3
          go_wp2_with fail
          refine Calls.mono (hswap_any F g cap full K k (2 * k + 1) _ HP3.out (by omega) hjK) ?_
          rintro x w4 ⟨⟨v4, rfl⟩, hp4, hg4⟩
          have HP4 := hide hp4
          have HG4 := hide hg4
          clear hp4 hg4
          go_wp2_with fail
          go_roundw
          case rel => exact ⟨(2 * k + 1), swp K k (2 * k + 1), rfl, by rw [swp_len]; exact hnK, by rw [swp_len]; exact hn, by omega, HP4, hide (fun r hr => (HOK3.out r (swp_take_mem (by omega) hjn hnK hr)).below (grown_below HG4.out HB.out.2 HSZ3.out)), hide (HGR3.out.trans HG4.out), hide (by rw [← HU.out]; exact hu.out)⟩
          case measure => simp [intOf]; omega
    · have z1 : (n : Int) ≤ 2 * (k : Int) + 1 := by omega
      have HF := hide (show (K, k) = hDown H i n by rw [← hu.out, hDown_leaf hj1])
      go_wp2_with fail
      go_ret
      exact ⟨by rw [← HF.out]; first | done | rfl, by rw [← HF.out]; exact hp.out, hgr.out⟩
end Go.Proofs.Ytgliindhndcceaa
