/- The walks that put a heap in order: up, Push. -/
import Derived.Test.YtgliindhndcceaaMgPush
namespace Go.Proofs.Ytgliindhndcceaa
open Go.RowKit

theorem mLen (F : Nat) (w : World) : (method 201 63 (.pointer (some ⟨F, 0, none⟩)) "Len").run Try.prog w = .ok (42, .pointer (some ⟨F, 0, none⟩)) w := by kernel_rfl
theorem mLess (F : Nat) (w : World) : (method 201 63 (.pointer (some ⟨F, 0, none⟩)) "Less").run Try.prog w = .ok (64, .pointer (some ⟨F, 0, none⟩)) w := by kernel_rfl
theorem mSwap (F : Nat) (w : World) : (method 201 63 (.pointer (some ⟨F, 0, none⟩)) "Swap").run Try.prog w = .ok (67, .pointer (some ⟨F, 0, none⟩)) w := by kernel_rfl
theorem mPush (F : Nat) (w : World) : (method 201 63 (.pointer (some ⟨F, 0, none⟩)) "Push").run Try.prog w = .ok (66, .pointer (some ⟨F, 0, none⟩)) w := by kernel_rfl
theorem mPop (F : Nat) (w : World) : (method 201 63 (.pointer (some ⟨F, 0, none⟩)) "Pop").run Try.prog w = .ok (65, .pointer (some ⟨F, 0, none⟩)) w := by kernel_rfl
/-- is the rest at one place ahead of the one at another? -/
def lessAt (H : List Rst) (i j : Nat) : Bool := match H[i]?, H[j]? with
  | some a, some b => lessR a b
  | _, _ => false
theorem lessAt_eq {H : List Rst} {i j : Nat} (hi : i < H.length) (hj : j < H.length) : lessAt H i j = lessR H[i] H[j] := by
  unfold lessAt
  rw [List.getElem?_eq_getElem hi, List.getElem?_eq_getElem hj]
/-- what up does -/
def hUp (H : List Rst) (j : Nat) : List Rst := if h : j = 0 then H else if lessAt H j ((j - 1) / 2) = true then hUp (swp H ((j - 1) / 2) j) ((j - 1) / 2) else H
termination_by j
decreasing_by omega
theorem hUp_zero (H : List Rst) : hUp H 0 = H := by rw [hUp, dif_pos rfl]
theorem hUp_stay {H : List Rst} {p : Nat} (h : lessAt H (p + 1) (p / 2) = false) : hUp H (p + 1) = H := by rw [hUp, dif_neg (by omega), show p + 1 - 1 = p by omega, if_neg (by rw [h]; decide)]
theorem hUp_go {H : List Rst} {p : Nat} (h : lessAt H (p + 1) (p / 2) = true) : hUp H (p + 1) = hUp (swp H (p / 2) (p + 1)) (p / 2) := by rw [hUp, dif_neg (by omega), show p + 1 - 1 = p by omega, if_pos h]
theorem swp_mem {α : Type} {H : List α} {i j : Nat} {x : α} (h : x ∈ swp H i j) : x ∈ H := by
  unfold swp at h
  split at h
  · rename_i hh
    rcases List.mem_or_eq_of_mem_set h with h | h
    · rcases List.mem_or_eq_of_mem_set h with h | h
      · exact h
      · rw [h]; exact List.getElem_mem _
    · rw [h]; exact List.getElem_mem _
  · exact h
theorem half (p : Nat) : (p : Int).tdiv 2 = ((p / 2 : Nat) : Int) := by
  rw [Int.tdiv_eq_ediv_of_nonneg (by omega)]
  omega
set_option maxHeartbeats 8000000 in
theorem up_any (F g cap full B : Nat) (H : List Rst) (j : Nat) (w : World) (h : Hp w F g cap full H) (hj : j < H.length) (hok : ∀ r ∈ H, r.Ok w B) (hBF : B ≤ F) (hBg : B ≤ g) (hn : H.length ≤ 100000) :
    Calls Try.prog 46 #[.iface 63 (.pointer (some ⟨F, 0, none⟩)), .int .i64 (j : Int)] w fun e w' => (∃ v, e = .returned v) ∧ Hp w' F g cap full (hUp H j) ∧ w.grownBy w' (some g) := by
  have HH := hide h
  have HOK := hide hok
  have HB := hide (And.intro hBF hBg)
  have hm1 := mLess F
  have hm2 := mSwap F
  clear h hok hBF hBg
  go_enter Try.func46, Try.ntmps46
  go_wp2_with fail
  go_loopw [1] (fun a wr => ∃ (k : Nat) (K : List Rst), a = .int .i64 (k : Int) ∧ k < K.length ∧ K.length ≤ 100000 ∧ Hid (Hp wr F g cap full K) ∧ Hid (∀ r ∈ K, r.Ok wr B) ∧ Hid (w.grownBy wr (some g)) ∧ Hid (hUp K k = hUp H j)) (fun a _ => (intOf a).toNat)
  case atStart => exact ⟨j, H, rfl, hj, hn, HH, HOK, hide (World.grownBy.refl _ _), rfl⟩
  case round =>
    obtain ⟨k, K, rfl, hk, hn, hp, hok, hgr, hu⟩ := hrel
    cases k with
    | zero =>
      have HF := hide (show K = hUp H j by rw [← hu.out, hUp_zero])
      go_wp2_with fail
      go_end0
      exact ⟨⟨_, rfl⟩, by rw [← HF.out]; exact hp.out, hgr.out⟩
    | succ p =>
      have e1 : (((p + 1 : Nat) : Int)) - 1 = (p : Int) := by omega
      have e2 := half p
      have e3 : ((p : Int) / 2 == (p : Int) + 1) = false := by rw [beq_eq_false_iff_ne]; omega
      have hp2 : p / 2 < K.length := by omega
      have HSZ := hide (show B ≤ wr.heap.size from Nat.le_trans HB.out.1 (Nat.le_of_lt (lt_cells hp.out.hf)))
      have HLA := hide (lessAt_eq hk hp2)
      go_wp2_with fail
      refine Calls.mono (hless_any F g cap full B K (p + 1) (p / 2) _ hp.out hk hp2 (hok.out _ (List.getElem_mem hk)) (hok.out _ (List.getElem_mem hp2)) HSZ.out) ?_
      rintro x w2 ⟨rfl, hb2⟩
      rw [← HLA.out]
      have HP2 := hide (hp.out.on hb2)
      have HOK2 := hide (fun r hr => (hok.out r hr).below (hb2.mono HSZ.out))
      have HGR2 := hide (hgr.out.trans (grown_of_below (row := some g) hb2))
      clear hb2
      cases hl : lessAt K (p + 1) (p / 2) with
      | false =>
        have HF := hide (show K = hUp H j by rw [← hu.out, hUp_stay hl])
        clear hl
        go_wp2_with fail
        go_end0
        exact ⟨⟨_, rfl⟩, by rw [← HF.out]; exact HP2.out, HGR2.out⟩
      | true =>
        have HU := hide (hUp_go hl)
        clear hl
        go_wp2_with fail
        refine Calls.mono (hswap_any F g cap full K (p / 2) (p + 1) _ HP2.out (by omega) hk) ?_
        rintro x w3 ⟨⟨v3, rfl⟩, hp3, hg3⟩
        have HP3 := hide hp3
        have HG3 := hide hg3
        clear hp3 hg3
        go_wp2_with fail
        go_roundw
        case rel => exact ⟨p / 2, swp K (p / 2) (p + 1), rfl, by rw [swp_len]; omega, by rw [swp_len]; exact hn, HP3, hide (fun r hr => (HOK2.out r (swp_mem hr)).below (grown_below HG3.out HB.out.2 (Nat.le_trans HB.out.1 (Nat.le_of_lt (lt_cells HP2.out.hf))))), hide (HGR2.out.trans HG3.out), hide (by rw [← HU.out]; exact hu.out)⟩
        case measure => simp [intOf]; omega
theorem Hq.hp {w : World} {F base : Nat} {H : List Rst} (h : Hq w F base H) (hl : 0 < H.length) : ∃ g cap, base ≤ g ∧ Hp w F g cap cap H := by
  obtain ⟨v, hF, hown⟩ := h
  rcases hown.2 with ⟨_, hn⟩ | ⟨g, cap, cur, rfl, hb, hg, hnc, hcm, hs, ht⟩
  · omega
  · refine ⟨g, cap, hb, hF, ⟨cur, hg, ht, hs⟩, ?_, hnc, Nat.le_refl _, hcm⟩
    rintro rfl
    rw [hF] at hg
    simp at hg
theorem Hp.hq {w : World} {F g cap base : Nat} {H : List Rst} (h : Hp w F g cap cap H) (hb : base ≤ g) : Hq w F base H := by
  obtain ⟨cur, hg, ht, hs⟩ := h.hg
  exact ⟨_, h.hf, by rw [cellsR_len], .inr ⟨g, cap, cur, rfl, hb, hg, h.len, h.max, hs, ht⟩⟩
theorem hUp_len (H : List Rst) (j : Nat) : (hUp H j).length = H.length := by
  induction j using Nat.strongRecOn generalizing H with
  | ind j ih =>
    cases j with
    | zero => rw [hUp_zero]
    | succ p =>
      cases h : lessAt H (p + 1) (p / 2) with
      | false => rw [hUp_stay h]
      | true => rw [hUp_go h, ih (p / 2) (by omega), swp_len]
theorem hUp_mem {H : List Rst} {j : Nat} {x : Rst} (h : x ∈ hUp H j) : x ∈ H := by
  induction j using Nat.strongRecOn generalizing H with
  | ind j ih =>
    cases j with
    | zero => rwa [hUp_zero] at h
    | succ p =>
      cases hl : lessAt H (p + 1) (p / 2) with
      | false => rwa [hUp_stay hl] at h
      | true =>
        rw [hUp_go hl] at h
        exact swp_mem (ih (p / 2) (by omega) h)
set_option maxHeartbeats 8000000 in
theorem push_any (F base : Nat) (H : List Rst) (r : Rst) (w : World) (h : Hq w F base H) (hl : H.length ≤ 90000) (hok : ∀ s ∈ H ++ [r], s.Ok w base) (hbF : base ≤ F) :
    Calls Try.prog 41 #[.iface 63 (.pointer (some ⟨F, 0, none⟩)), .iface 71 r.agg] w fun e w' => (∃ v, e = .returned v) ∧ Hq w' F base (hUp (H ++ [r]) H.length) ∧ Below base w w' := by
  have HH := hide h
  have HOK := hide hok
  have hm1 := mPush F
  have hm2 := mLen F
  have HSZ := hide (show base ≤ w.heap.size by obtain ⟨v, hF, _⟩ := h; exact Nat.le_trans hbF (Nat.le_of_lt (lt_cells hF)))
  clear h hok
  go_enter Try.func41, Try.ntmps41
  go_wp2_with fail
  refine Calls.mono (hpush_raw F base H r _ HH.out (by omega) HSZ.out) ?_
  rintro x w2 ⟨⟨v2, rfl⟩, hq2, hb2⟩
  have HB2 := hide (hb2 hbF)
  have hll : (H ++ [r]).length = H.length + 1 := by simp
  obtain ⟨g, cap, hbg, hp2⟩ := hq2.hp (by omega)
  have HP2 := hide hp2
  clear hq2 hb2 hp2
  go_wp2_with fail
  refine Calls.mono (len_any F g cap cap (H ++ [r]) _ HP2.out) ?_
  rintro x w3 ⟨rfl, rfl⟩
  rw [hll]
  have e1 : ((H.length + 1 : Nat) : Int) - 1 = (H.length : Int) := by omega
  have HLL := hide hll
  clear hll
  go_wp2_with fail
  refine Calls.mono (up_any F g cap cap base (H ++ [r]) H.length _ HP2.out (by rw [HLL.out]; omega) (fun s hs => (HOK.out s hs).below HB2.out) hbF hbg (by rw [HLL.out]; omega)) ?_
  rintro x w4 ⟨⟨v4, rfl⟩, hp4, hg4⟩
  have HP4 := hide hp4
  have HG4 := hide hg4
  clear hp4 hg4
  go_wp2_with fail
  go_end0
  exact ⟨⟨_, rfl⟩, HP4.out.hq hbg, HB2.out.trans (grown_below HG4.out hbg (Nat.le_trans HSZ.out HB2.out.size))⟩
end Go.Proofs.Ytgliindhndcceaa
