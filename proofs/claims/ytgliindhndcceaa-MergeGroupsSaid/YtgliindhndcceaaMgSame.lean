/- The walks of SameEdits and SameItems. -/
import Derived.Test.YtgliindhndcceaaMgSameMath
import Derived.Test.YtgliindhndcceaaMgHeap
import Derived.Test.YtgliindhndcceaaMgList
import Derived.BigRegion
namespace Go.Proofs.Ytgliindhndcceaa
open Go.RowKit

set_option maxHeartbeats 16000000 in
theorem same_any (A B : Option Addr) (n c m d : Nat) (a b : List Ed) (w : World) (hA : Row w w.heap.size A n c a) (hB : Row w w.heap.size B m d b) :
    Calls Try.prog 19 #[.slice A n c, .slice B m d] w fun e w' => e = .returned (.bool (same a b)) ∧ Below w.heap.size w w' := by
  have HA := hide hA
  have HB := hide hB
  have HLA := hide hA.len
  have HLB := hide hB.len
  have HN := hide (Nat.le_trans hA.cap hA.max)
  clear hA hB
  by_cases hnm : n = m
  · subst hnm
    have e0 : ((n : Int) != (n : Int)) = false := by simp
    go_enter Try.func19, Try.ntmps19
    go_wp2_with fail
    go_loopw [5] (fun i wr => ∃ j : Nat, i = .int .i64 (j : Int) ∧ j ≤ n ∧ Hid (Below w.heap.size w wr) ∧ Hid (∀ p (h1 : p < a.length) (h2 : p < b.length), p < j → sameB a[p] b[p] = true)) (fun i _ => n - (intOf i).toNat)
    case atStart => exact ⟨0, rfl, Nat.zero_le _, hide (Below.refl _ _), hide (fun p _ _ hp => absurd hp (by omega))⟩
    case round =>
      obtain ⟨j, rfl, hj, hb, hst⟩ := hrel
      by_cases hlt : j < n
      · have hja : j < a.length := by rw [HLA.out]; exact hlt
        have hjb : j < b.length := by rw [HLB.out]; exact hlt
        have HR1 := hide (HA.out.on hb.out)
        have HR2 := hide (HB.out.on hb.out)
        obtain ⟨ba, oa, rfl, _, c0, c1, c2, c3, c4⟩ := HR1.out.cell hja
        obtain ⟨bb, ob, rfl, _, d0, d1, d2, d3, d4⟩ := HR2.out.cell hjb
        have HOX := hide (HR1.out.ok a[j] (List.getElem_mem hja))
        have HOY := hide (HR2.out.ok b[j] (List.getElem_mem hjb))
        have hj0 : (0 : Int) ≤ (j : Int) := by omega
        have hj1 : (j : Int) < (n : Int) := by omega
        have HWS := hide (wrap_succ hlt HN.out)
        obtain ⟨x, hx⟩ : ∃ x, x = a[j] := ⟨_, rfl⟩
        obtain ⟨y, hy⟩ : ∃ y, y = b[j] := ⟨_, rfl⟩
        have HSB := hide (show sameB a[j] b[j] = sameB x y by rw [hx, hy])
        rw [← hx] at c0 c1 c2 c3 c4 HOX
        rw [← hy] at d0 d1 d2 d3 d4 HOY
        clear hx hy
        obtain ⟨k0, l0⟩ := behind c0
        obtain ⟨k1, l1⟩ := behind c1
        obtain ⟨k2, l2⟩ := behind c2
        obtain ⟨k3, l3⟩ := behind c3
        obtain ⟨k4, l4⟩ := behind c4
        obtain ⟨p0, q0⟩ := behind d0
        obtain ⟨p1, q1⟩ := behind d1
        obtain ⟨p2, q2⟩ := behind d2
        obtain ⟨p3, q3⟩ := behind d3
        obtain ⟨p4, q4⟩ := behind d4
        go_wp2_with fail
        go_region
        · generalize hW : World.drew _ = W
          have HX : Hid (W.heap[wr.heap.size]? = some (.cells #[.slice x.kA x.kn x.kc, .bool x.put, .slice x.vA x.vn x.vc, .bool x.int, .int .i64 x.n] 48 (0, 0))) := hide (by rw [← hW]; exact old_cells (new_cells wr _) _)
          have HY : Hid (W.heap[wr.heap.size + 1]? = some (.cells #[.slice y.kA y.kn y.kc, .bool y.put, .slice y.vA y.vn y.vc, .bool y.int, .int .i64 y.n] 48 (0, 0))) := hide (by rw [← hW]; exact heap_at (wr.alloc _) _ _ (by simp))
          have HBX : Hid (Below wr.heap.size wr W) := hide (by rw [← hW]; exact (below_then (below_alloc wr _) (below_alloc _ _)).drew)
          obtain ⟨kb, hkbe⟩ : ∃ kb, kb = wr.heap.size + 1 := ⟨_, rfl⟩
          rw [← hkbe] at HY ⊢
          obtain ⟨ka, hkae⟩ : ∃ ka, ka = wr.heap.size := ⟨_, rfl⟩
          rw [← hkae] at HX ⊢
          clear hW hkae hkbe
          clear c0 c1 c2 c3 c4 d0 d1 d2 d3 d4 k0 l0 k1 l1 k2 l2 k3 l3 k4 l4 p0 q0 p1 q1 p2 q2 p3 q3 p4 q4
          obtain ⟨x0, x1, x2, x3, x4⟩ := five_cells HX.out
          obtain ⟨y0, y1, y2, y3, y4⟩ := five_cells HY.out
          have HNOI := hide (fun h : sameB x y = false => same_no hja hjb (HSB.out.trans h))
          have HKX := hide ((HOX.out.rb (Nat.le_refl _)).on HBX.out)
          have HVX := hide ((HOX.out.rv (Nat.le_refl _)).on HBX.out)
          have HKY := hide ((HOY.out.rb (Nat.le_refl _)).on HBX.out)
          have HVY := hide ((HOY.out.rv (Nat.le_refl _)).on HBX.out)
          have HBW := hide (below_then hb.out HBX.out)
          go_wp2_with fail
          refine Calls.mono (is_any x.kA y.kA x.kn y.kn x.kc y.kc x.key y.key _ HKX.out HKY.out) ?_
          rintro e1 w1 ⟨rfl, rfl⟩
          cases hk : decide (x.key = y.key) with
          | false =>
            have HNO := hide (HNOI.out (by unfold sameB; rw [hk]; rfl))
            clear hk
            go_wp2_with fail
            go_ret
            exact ⟨by rw [HNO.out]; first | done | rfl, HBW.out⟩
          | true =>
            by_cases hp : x.put = y.put
            · have HPB := hide (show (x.put != y.put) = false by rw [hp]; simp)
              have HK := hide hk
              clear hk
              go_wp2_with fail
              refine Calls.mono (is_any x.vA y.vA x.vn y.vn x.vc y.vc x.val y.val _ HVX.out HVY.out) ?_
              rintro e1 w1 ⟨rfl, rfl⟩
              cases hv : decide (x.val = y.val) with
              | false =>
                have HNO := hide (HNOI.out (by unfold sameB; rw [HK.out, HPB.out, hv]; rfl))
                clear hv
                go_wp2_with fail
                go_ret
                exact ⟨by rw [HNO.out]; first | done | rfl, HBW.out⟩
              | true =>
                by_cases hi : x.int = y.int
                · have HIB := hide (show (x.int != y.int) = false by rw [hi]; simp)
                  by_cases hn : x.n = y.n
                  · have HYES := hide (show sameB x y = true by unfold sameB; rw [HK.out, HPB.out, hv, HIB.out, hn]; simp)
                    clear hv
                    go_wp2_with fail
                    go_roundw
                    case rel => exact ⟨j + 1, by rw [HWS.out]; rfl, by omega, HBW, hide (fun q h1 h2 hq => by
                      by_cases hqe : q = j
                      · subst hqe; exact HSB.out.trans HYES.out
                      · exact hst.out q h1 h2 (by omega))⟩
                    case measure => rw [HWS.out]; simp [intOf]; omega
                  · have HNO := hide (HNOI.out (by unfold sameB; rw [HK.out, HPB.out, hv, HIB.out, (bne_iff_ne).2 hn]; rfl))
                    clear hv
                    go_wp2_with fail
                    go_ret
                    exact ⟨by rw [HNO.out]; first | done | rfl, HBW.out⟩
                · have HNO := hide (HNOI.out (by unfold sameB; rw [HK.out, HPB.out, hv, (bne_iff_ne).2 hi]; rfl))
                  clear hv
                  go_wp2_with fail
                  go_ret
                  exact ⟨by rw [HNO.out]; first | done | rfl, HBW.out⟩
            · have HNO := hide (HNOI.out (by unfold sameB; rw [hk, (bne_iff_ne).2 hp]; rfl))
              clear hk
              go_wp2_with fail
              go_ret
              exact ⟨by rw [HNO.out]; first | done | rfl, HBW.out⟩
        · generalize hW : World.drew _ = W
          have HX : Hid (W.heap[wr.heap.size + 1]? = some (.cells #[.slice x.kA x.kn x.kc, .bool x.put, .slice x.vA x.vn x.vc, .bool x.int, .int .i64 x.n] 48 (0, 0))) := hide (by rw [← hW]; exact heap_at (wr.alloc _) _ _ (by simp))
          have HY : Hid (W.heap[wr.heap.size]? = some (.cells #[.slice y.kA y.kn y.kc, .bool y.put, .slice y.vA y.vn y.vc, .bool y.int, .int .i64 y.n] 48 (0, 0))) := hide (by rw [← hW]; exact old_cells (new_cells wr _) _)
          have HBX : Hid (Below wr.heap.size wr W) := hide (by rw [← hW]; exact (below_then (below_alloc wr _) (below_alloc _ _)).drew)
          obtain ⟨kb, hkbe⟩ : ∃ kb, kb = wr.heap.size + 1 := ⟨_, rfl⟩
          rw [← hkbe] at HX ⊢
          obtain ⟨ka, hkae⟩ : ∃ ka, ka = wr.heap.size := ⟨_, rfl⟩
          rw [← hkae] at HY ⊢
          clear hW hkae hkbe
          clear c0 c1 c2 c3 c4 d0 d1 d2 d3 d4 k0 l0 k1 l1 k2 l2 k3 l3 k4 l4 p0 q0 p1 q1 p2 q2 p3 q3 p4 q4
          obtain ⟨x0, x1, x2, x3, x4⟩ := five_cells HX.out
          obtain ⟨y0, y1, y2, y3, y4⟩ := five_cells HY.out
          have HNOI := hide (fun h : sameB x y = false => same_no hja hjb (HSB.out.trans h))
          have HKX := hide ((HOX.out.rb (Nat.le_refl _)).on HBX.out)
          have HVX := hide ((HOX.out.rv (Nat.le_refl _)).on HBX.out)
          have HKY := hide ((HOY.out.rb (Nat.le_refl _)).on HBX.out)
          have HVY := hide ((HOY.out.rv (Nat.le_refl _)).on HBX.out)
          have HBW := hide (below_then hb.out HBX.out)
          go_wp2_with fail
          refine Calls.mono (is_any x.kA y.kA x.kn y.kn x.kc y.kc x.key y.key _ HKX.out HKY.out) ?_
          rintro e1 w1 ⟨rfl, rfl⟩
          cases hk : decide (x.key = y.key) with
          | false =>
            have HNO := hide (HNOI.out (by unfold sameB; rw [hk]; rfl))
            clear hk
            go_wp2_with fail
            go_ret
            exact ⟨by rw [HNO.out]; first | done | rfl, HBW.out⟩
          | true =>
            by_cases hp : x.put = y.put
            · have HPB := hide (show (x.put != y.put) = false by rw [hp]; simp)
              have HK := hide hk
              clear hk
              go_wp2_with fail
              refine Calls.mono (is_any x.vA y.vA x.vn y.vn x.vc y.vc x.val y.val _ HVX.out HVY.out) ?_
              rintro e1 w1 ⟨rfl, rfl⟩
              cases hv : decide (x.val = y.val) with
              | false =>
                have HNO := hide (HNOI.out (by unfold sameB; rw [HK.out, HPB.out, hv]; rfl))
                clear hv
                go_wp2_with fail
                go_ret
                exact ⟨by rw [HNO.out]; first | done | rfl, HBW.out⟩
              | true =>
                by_cases hi : x.int = y.int
                · have HIB := hide (show (x.int != y.int) = false by rw [hi]; simp)
                  by_cases hn : x.n = y.n
                  · have HYES := hide (show sameB x y = true by unfold sameB; rw [HK.out, HPB.out, hv, HIB.out, hn]; simp)
                    clear hv
                    go_wp2_with fail
                    go_roundw
                    case rel => exact ⟨j + 1, by rw [HWS.out]; rfl, by omega, HBW, hide (fun q h1 h2 hq => by
                      by_cases hqe : q = j
                      · subst hqe; exact HSB.out.trans HYES.out
                      · exact hst.out q h1 h2 (by omega))⟩
                    case measure => rw [HWS.out]; simp [intOf]; omega
                  · have HNO := hide (HNOI.out (by unfold sameB; rw [HK.out, HPB.out, hv, HIB.out, (bne_iff_ne).2 hn]; rfl))
                    clear hv
                    go_wp2_with fail
                    go_ret
                    exact ⟨by rw [HNO.out]; first | done | rfl, HBW.out⟩
                · have HNO := hide (HNOI.out (by unfold sameB; rw [HK.out, HPB.out, hv, (bne_iff_ne).2 hi]; rfl))
                  clear hv
                  go_wp2_with fail
                  go_ret
                  exact ⟨by rw [HNO.out]; first | done | rfl, HBW.out⟩
            · have HNO := hide (HNOI.out (by unfold sameB; rw [hk, (bne_iff_ne).2 hp]; rfl))
              clear hk
              go_wp2_with fail
              go_ret
              exact ⟨by rw [HNO.out]; first | done | rfl, HBW.out⟩
      · obtain rfl : j = n := by omega
        have HF := hide (same_yes (a := a) (b := b) (by rw [HLA.out, HLB.out]) fun p h1 h2 => hst.out p h1 h2 (by have := HLA.out; omega))
        go_wp2_with fail
        go_ret
        exact ⟨by rw [HF.out]; rfl, hb.out⟩
  · have e0 : ((n : Int) != (m : Int)) = true := by rw [bne_iff_ne]; omega
    have HF := hide (same_len (a := a) (b := b) (by rw [HLA.out, HLB.out]; exact hnm))
    clear hnm
    go_enter Try.func19, Try.ntmps19
    go_wp2_with fail
    go_ret
    exact ⟨by rw [HF.out]; rfl, Below.refl _ _⟩
end Go.Proofs.Ytgliindhndcceaa
