/- The walk of the library's Equal on slices of ints. -/
import Derived.Test.YtbnibiealnogdaaDoorInts
namespace Go.Proofs.YtbnibiealnogdaaDoor
open Go.RowKit

theorem equal_ints (A B : Option Addr) (n m c d : Nat) (l k : List Int) (w : World) (hA : RI w A n l) (hB : RI w B m k) (hn : n ≤ 1048576) (hm : m ≤ 1048576) :
    Calls Tryd.prog 29 #[.slice A n c, .slice B m d] w fun e w' => e = .returned (.bool (decide (l = k))) ∧ Below w.heap.size w w' := by
  have HL := hide hA.len
  have HK := hide hB.len
  by_cases hnm : n = m
  · subst hnm
    have ht : ((n : Int) != (n : Int)) = false := by simp
    go_enter Tryd.func29, Tryd.ntmps29
    go_wp2
    go_loopw [13] (fun i wr => ∃ j q : Nat, j ≤ n ∧ i = .int .i64 j ∧ wr = w.drewN q ∧ Hid (l.take j = k.take j)) (fun i _ => n - (intOf i).toNat)
    case atStart => exact ⟨0, 0, Nat.zero_le _, rfl, rfl, rfl⟩
    case round =>
      obtain ⟨j, q, hj, rfl, rfl, heq⟩ := hrel
      by_cases hlt : j < n
      · have hjl : j < l.length := by rw [HL.out]; exact hlt
        have hjk : j < k.length := by rw [HK.out]; exact hlt
        obtain ⟨b1, o1, rfl, hb1, hc1⟩ := hA.cell hjl
        obtain ⟨b2, o2, rfl, hb2, hc2⟩ := hB.cell hjk
        have hj0 : (0 : Int) ≤ (j : Int) := by omega
        have hj1 : (j : Int) < (n : Int) := by omega
        by_cases hx : l[j] = k[j]
        · have HX := hide hx
          have ht : (l[j] != k[j]) = false := by rw [hx]; simp
          clear hx
          generalize hv1 : l[j] = x1 at *
          generalize hv2 : k[j] = x2 at *
          have HV := hide (And.intro hv1 hv2)
          clear hv1 hv2
          go_wp2_with fail
          go_quiet (fail)
          go_wp2
          go_roundw
          case rel => exact ⟨j + 1, q + nq, by omega, by go_num, (by first | rfl | exact World.drewN_drewN ..), by show _ = _; rw [List.take_succ_eq_append_getElem hjl, List.take_succ_eq_append_getElem hjk, heq.out, HV.out.1, HV.out.2, HX.out]⟩
          case measure => simp [intOf]; omega
        · have HX := hide hx
          have ht : (l[j] != k[j]) = true := by rw [bne_iff_ne]; exact hx
          clear hx
          generalize hv1 : l[j] = x1 at *
          generalize hv2 : k[j] = x2 at *
          have HV := hide (And.intro hv1 hv2)
          clear hv1 hv2
          go_wp2_with fail
          go_quiet (fail)
          go_wp2
          go_ret
          refine ⟨ret_bool ?_, below_then (below_drewN w q) (below_drewN _ nq)⟩
          symm
          rw [decide_eq_false_iff_not]
          intro h
          subst h
          exact HX.out (HV.out.1.symm.trans HV.out.2)
      · obtain rfl : j = n := by omega
        go_wp2
        go_ret
        refine ⟨ret_bool ?_, below_drewN w q⟩
        symm
        rw [decide_eq_true_eq]
        have h1 := heq.out
        rwa [List.take_of_length_le (Nat.le_of_eq HL.out), List.take_of_length_le (Nat.le_of_eq HK.out)] at h1
  · have ht : ((n : Int) != (m : Int)) = true := by rw [bne_iff_ne]; omega
    have HN := hide hnm
    clear hnm
    go_enter Tryd.func29, Tryd.ntmps29
    go_wp2
    go_ret
    refine ⟨ret_bool ?_, Below.refl _ _⟩
    symm
    rw [decide_eq_false_iff_not]
    rintro rfl
    exact HN.out (HL.out.symm.trans HK.out)
end Go.Proofs.YtbnibiealnogdaaDoor
