/- The walks of the reference's Is, Bytes, Starts. -/
import Derived.Test.YtbnibiealnogdaaDoorUtfBytes
namespace Go.Proofs.YtbnibiealnogdaaDoor
open Go.RowKit

theorem rIs_any (p : Int) (w : World) : Calls Tryd.prog 39 #[.int .i64 p] w fun e w' => e = .returned (.bool (Utf.isCp p)) ∧ w' = w := by
  have hc := Utf.isCp_iff (p := p)
  have no : ¬ (0 ≤ p ∧ p ≤ 1114111 ∧ ¬ (55296 ≤ p ∧ p ≤ 57343)) → Utf.isCp p = false := fun h => by
    cases hb : Utf.isCp p with
    | false => rfl
    | true => exact absurd (hc.1 hb) h
  by_cases h0 : p < 0
  · have HF := hide (no (by omega))
    clear hc no
    go_enter Tryd.func39, Tryd.ntmps39
    go_wp2
    go_ret
    exact ⟨by rw [HF.out]; rfl, rfl⟩
  · by_cases h1 : 1114111 < p
    · have HF := hide (no (by omega))
      clear hc no
      go_enter Tryd.func39, Tryd.ntmps39
      go_wp2
      go_ret
      exact ⟨by rw [HF.out]; rfl, rfl⟩
    · by_cases h2 : p < 55296
      · have HF := hide (hc.2 (by omega))
        clear hc no
        go_enter Tryd.func39, Tryd.ntmps39
        go_wp2
        go_ret
        exact ⟨by rw [HF.out]; rfl, rfl⟩
      · by_cases h3 : p ≤ 57343
        · have HF := hide (no (by omega))
          clear hc no
          go_enter Tryd.func39, Tryd.ntmps39
          go_wp2
          go_ret
          exact ⟨by rw [HF.out]; rfl, rfl⟩
        · have HF := hide (hc.2 (by omega))
          clear hc no
          go_enter Tryd.func39, Tryd.ntmps39
          go_wp2
          go_ret
          exact ⟨by rw [HF.out]; rfl, rfl⟩
theorem rBytes_any (p : Nat) (w : World) (hcp : Utf.isCp p = true) : Calls Tryd.prog 33 #[.int .i64 (p : Int)] w fun e w' =>
    ∃ A c, e = .returned (.slice A (Utf.enc p).length c) ∧ RB w' A (Utf.enc p).length (Utf.enc p) ∧ (Utf.enc p).length ≤ c ∧ c ≤ maxLen ∧ Below w.heap.size w w' := by
  have hb := Utf.isCp_iff.1 hcp
  have hp : p ≤ 1114111 := by omega
  by_cases h1 : p < 128
  · have HE := hide (show Utf.enc p = [Utf.u8 p] by unfold Utf.enc; rw [if_pos h1])
    have h1' : (p : Int) < 128 := by omega
    clear hb hcp
    go_enter Tryd.func33, Tryd.ntmps33
    go_wp2
    go_ret
    refine ⟨some ⟨w.heap.size, 0, none⟩, 1, by rw [HE.out]; rfl, ?_, by rw [HE.out]; exact Nat.le_refl _, by decide, below_alloc _ _⟩
    rw [HE.out]
    refine RB.lit w 5 _ _ 1 rfl ?_
    simp only [bytes, List.map_cons, List.map_nil]
    rw [Utf.u8_toNat (by omega)]
  · by_cases h2 : p < 2048
    · have HE := hide (show Utf.enc p = [Utf.u8 (192 + p / 64), Utf.u8 (128 + p % 64)] by unfold Utf.enc; rw [if_neg h1, if_pos h2])
      have h1' : ¬ (p : Int) < 128 := by omega
      have h2' : (p : Int) < 2048 := by omega
      clear hb hcp
      go_enter Tryd.func33, Tryd.ntmps33
      go_wp2
      go_ret
      refine ⟨some ⟨w.heap.size, 0, none⟩, 2, by rw [HE.out]; rfl, ?_, by rw [HE.out]; exact Nat.le_refl _, by decide, below_alloc _ _⟩
      rw [HE.out]
      refine RB.lit w 5 _ _ 2 rfl ?_
      simp only [bytes, List.map_cons, List.map_nil]
      rw [Utf.u8_toNat (by omega), Utf.u8_toNat (by omega)]
      first | rfl | simp
    · by_cases h3 : p < 65536
      · have HE := hide (show Utf.enc p = [Utf.u8 (224 + p / 4096), Utf.u8 (128 + p / 64 % 64), Utf.u8 (128 + p % 64)] by unfold Utf.enc; rw [if_neg h1, if_neg h2, if_pos h3])
        have h1' : ¬ (p : Int) < 128 := by omega
        have h2' : ¬ (p : Int) < 2048 := by omega
        have h3' : (p : Int) < 65536 := by omega
        clear hb hcp
        go_enter Tryd.func33, Tryd.ntmps33
        go_wp2
        go_ret
        refine ⟨some ⟨w.heap.size, 0, none⟩, 3, by rw [HE.out]; rfl, ?_, by rw [HE.out]; exact Nat.le_refl _, by decide, below_alloc _ _⟩
        rw [HE.out]
        refine RB.lit w 5 _ _ 3 rfl ?_
        simp only [bytes, List.map_cons, List.map_nil]
        rw [Utf.u8_toNat (by omega), Utf.u8_toNat (by omega), Utf.u8_toNat (by omega)]
        first | rfl | simp
      · have HE := hide (show Utf.enc p = [Utf.u8 (240 + p / 262144), Utf.u8 (128 + p / 4096 % 64), Utf.u8 (128 + p / 64 % 64), Utf.u8 (128 + p % 64)] by unfold Utf.enc; rw [if_neg h1, if_neg h2, if_neg h3])
        have h1' : ¬ (p : Int) < 128 := by omega
        have h2' : ¬ (p : Int) < 2048 := by omega
        have h3' : ¬ (p : Int) < 65536 := by omega
        have h4' : (p : Int) ≤ 1114111 := by omega
        clear hb hcp
        go_enter Tryd.func33, Tryd.ntmps33
        go_wp2
        go_ret
        refine ⟨some ⟨w.heap.size, 0, none⟩, 4, by rw [HE.out]; rfl, ?_, by rw [HE.out]; exact Nat.le_refl _, by decide, below_alloc _ _⟩
        rw [HE.out]
        refine RB.lit w 5 _ _ 4 rfl ?_
        simp only [bytes, List.map_cons, List.map_nil]
        rw [Utf.u8_toNat (by omega), Utf.u8_toNat (by omega), Utf.u8_toNat (by omega), Utf.u8_toNat (by omega)]
        first | rfl | simp
theorem rStarts_any (A B : Option Addr) (n m c d : Nat) (l k : List UInt8) (w : World) (hA : RB w A n l) (hB : RB w B m k) (hn : n ≤ 1048576) (hm : m ≤ 1048576) :
    Calls Tryd.prog 48 #[.slice A n c, .slice B m d] w fun e w' => e = .returned (.bool (decide (k = l.take m))) ∧ Below w.heap.size w w' := by
  have HL := hide hA.len
  have HK := hide hB.len
  by_cases hnm : n < m
  · have HF := hide (show decide (k = l.take m) = false by
      rw [decide_eq_false_iff_not]
      intro h
      have := congrArg List.length h
      rw [List.length_take, HL.out, HK.out] at this; omega)
    go_enter Tryd.func48, Tryd.ntmps48
    go_wp2
    go_ret
    exact ⟨by rw [HF.out]; rfl, Below.refl _ _⟩
  · have hmn : ¬ (n : Int) < (m : Int) := by omega
    go_enter Tryd.func48, Tryd.ntmps48
    go_wp2
    go_loopw [5] (fun i wr => ∃ j q : Nat, j ≤ m ∧ i = .int .i64 j ∧ wr = w.drewN q ∧ Hid (k.take j = l.take j)) (fun i _ => m - (intOf i).toNat)
    case atStart => exact ⟨0, 0, Nat.zero_le _, rfl, rfl, rfl⟩
    case round =>
      obtain ⟨j, q, hj, rfl, rfl, heq⟩ := hrel
      by_cases hlt : j < m
      · have hjl : j < l.length := by rw [HL.out]; omega
        have hjk : j < k.length := by rw [HK.out]; exact hlt
        obtain ⟨b1, o1, rfl, hb1, hc1⟩ := hA.cell hjl
        obtain ⟨b2, o2, rfl, hb2, hc2⟩ := hB.cell hjk
        have hj0 : (0 : Int) ≤ (j : Int) := by omega
        have hj1 : (j : Int) < (m : Int) := by omega
        have hj2 : (j : Int) < (n : Int) := by omega
        by_cases hx : l[j] = k[j]
        · have HX := hide hx
          have ht : (((l[j]).toNat : Int) != ((k[j]).toNat : Int)) = false := by rw [hx]; simp
          clear hx
          generalize hv1 : (l[j]).toNat = x1 at *
          generalize hv2 : (k[j]).toNat = x2 at *
          clear hv1 hv2
          go_wp2_with fail
          go_quiet (fail)
          go_wp2
          go_roundw
          case rel => exact ⟨j + 1, q + nq, by omega, by go_num, (by first | rfl | exact World.drewN_drewN ..), by show _ = _; rw [List.take_succ_eq_append_getElem hjl, List.take_succ_eq_append_getElem hjk, heq.out, HX.out]⟩
          case measure => simp [intOf]; omega
        · have HF := hide (show decide (k = l.take m) = false by
            rw [decide_eq_false_iff_not]
            intro h
            apply hx
            have h1 : k[j]? = (l.take m)[j]? := by rw [← h]
            rw [List.getElem?_take, if_pos hlt, List.getElem?_eq_getElem hjk, List.getElem?_eq_getElem hjl, Option.some.injEq] at h1
            exact h1.symm)
          have ht : (((l[j]).toNat : Int) != ((k[j]).toNat : Int)) = true := by
            rw [bne_iff_ne]
            intro h
            exact hx (UInt8.toNat_inj.1 (by omega))
          clear hx
          generalize hv1 : (l[j]).toNat = x1 at *
          generalize hv2 : (k[j]).toNat = x2 at *
          clear hv1 hv2
          go_wp2_with fail
          go_quiet (fail)
          go_wp2
          go_ret
          exact ⟨by rw [HF.out]; rfl, below_then (below_drewN w q) (below_drewN _ nq)⟩
      · obtain rfl : j = m := by omega
        have HT := hide (show decide (k = l.take j) = true by
          rw [decide_eq_true_eq, ← heq.out, List.take_of_length_le (Nat.le_of_eq HK.out)])
        go_wp2
        go_ret
        exact ⟨by rw [HT.out]; rfl, below_drewN w q⟩
end Go.Proofs.YtbnibiealnogdaaDoor
