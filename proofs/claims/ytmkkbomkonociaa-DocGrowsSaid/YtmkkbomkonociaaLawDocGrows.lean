/- Proved: davenportlaw19.DocGrows returns true for every input: a successor has a greater generation; successors for bodies that differ only within four consecutive bytes are different. No condition. -/
import Derived.Test.YtmkkbomkonociaaRows
import Derived.Test.YtmkkbomkonociaaOpen
import Derived.Test.YtmkkbomkonociaaDocOpen
import Derived.Test.YtmkkbomkonociaaDocWakes
import Derived.Test.YtmkkbomkonociaaDocRead
import Derived.Test.YtmkkbomkonociaaDag
namespace Go.Proofs.Ytmkkbomkonociaa.LawDocGrows
open Go.ChangeShapes Go.WideShapes Go.ChangeAt Go.RowKit
open Go.ChangeMaps (open_string shut_string)
attribute [local go_sem] Dag.gives

theorem take_three {α : Type} (A X D : List α) (a x n : Nat) (ha : A.length = a) (hx : X.length = x) (h : a + x ≤ n) : (A ++ (X ++ D)).take n = A ++ (X ++ D.take (n - a - x)) := by
  subst ha
  subst hx
  rw [List.take_append, List.take_of_length_le (l := A) (by omega), List.take_append, List.take_of_length_le (l := X) (by omega)]
/-- four bytes laid over others -/
def over4 (b x : List UInt8) (k : Nat) : List UInt8 := b.take k ++ (x ++ b.drop (k + 4))
theorem apart (p b x : List UInt8) (k : Nat) (hx : x.length = 4) (hk : k + 4 ≤ b.length) : decide (Crc.more 0 (nums (p ++ b)) = Crc.more 0 (nums (p ++ over4 b x k))) = decide (b = over4 b x k) := by
  have e : b = b.take k ++ ((b.drop k).take 4 ++ b.drop (k + 4)) := by
    rw [← List.drop_drop, List.take_append_drop, List.take_append_drop]
  apply decide_eq_decide.2
  constructor
  · intro h
    have h' : Crc.more 0 (nums ((p ++ b.take k) ++ ((b.drop k).take 4 ++ b.drop (k + 4)))) = Crc.more 0 (nums ((p ++ b.take k) ++ (x ++ b.drop (k + 4)))) := by
      rw [List.append_assoc, ← e, List.append_assoc]; exact h
    rw [nums_append, nums_append (_ ++ _), nums_append ((b.drop k).take 4), nums_append x] at h'
    have := Crc.apart _ _ _ _ (nums_lt _) (nums_lt _) (nums_lt _) (nums_lt _) (by rw [nums_len, List.length_take, List.length_drop]; omega) (by rw [nums_len, hx]) h'
    unfold over4
    rw [← nums_inj this]
    exact e
  · intro h
    rw [← h]
theorem next_no {g m : Nat} {l : List UInt8} (h : isRev g m = false) : nextRev g m l = (0, 0, 291) := by unfold nextRev; rw [if_neg (by rw [h]; simp)]
theorem next_over {m : Nat} {l : List UInt8} : nextRev 4294967295 m l = (0, 0, 5) := rfl
theorem next_yes {g m : Nat} {l : List UInt8} (h : isRev g m = true) (hg : g < 4294967295) : nextRev g m l = (g + 1, Crc.more 0 (nums (Crc.laid m ++ l)), 0) := by unfold nextRev; rw [if_pos h, if_neg (by omega)]

set_option maxHeartbeats 8000000 in
theorem walk (g m : Nat) (A : Option Addr) (n c : Nat) (l : List UInt8) (at_ : Int) (x0 x1 x2 x3 : UInt8) (w : World) (hg : g < 4294967296) (hm : m < 4294967296) (hA : Arg w A n c l) (_w1 : (Lit.int .i64 at_).wf = true) :
    Calls Try.prog 8 #[.agg #[.int .u32 (g : Int), .int .u32 (m : Int)], .slice A n c, .int .i64 at_, .agg #[.int .u8 x0.toNat, .int .u8 x1.toNat, .int .u8 x2.toNat, .int .u8 x3.toNat]] w fun e w' => e = .returned (.bool true) ∧ Below w.heap.size w w' := by
  obtain ⟨hr, hnc, hc⟩ := hA
  have HG := hide hg
  have HM := hide hm
  have HR := hide hr
  have HC := hide (And.intro hnc hc)
  clear hg hm hr hnc hc
  go_enter Try.func8, Try.ntmps8
  go_wp2_with fail
  refine Calls.mono (wakes_any _) ?_
  rintro e w1 ⟨rfl, hb1⟩
  have HX1 := hide (on_heap (two_heap (heap_alloc_last w (.cells #[.int .u32 (g : Int), .int .u32 (m : Int)] 28)) _) hb1)
  have HF1 : Hid (w1.heap[w.heap.size + 1]? = some (.cells (bytes [x0, x1, x2, x3]).toArray 58 (0, 0))) := hide ((hb1.block _ (by simp)).trans (by rw [show w.heap.size + 1 = (w.alloc (.cells #[.int .u32 (g : Int), .int .u32 (m : Int)] 28)).heap.size by simp]; exact heap_alloc_last _ _))
  have HB1 := hide (below_then (below_then (below_alloc w _) (below_alloc _ _)) hb1)
  clear hb1
  go_wp2_with fail
  refine Calls.mono (few_rb A n c l _ (HR.out.on HB1.out) HC.out.1 HC.out.2) ?_
  rintro e w2 ⟨A2, n2, c2, rfl, hr2, hn2, hc2, hm2, hb2⟩
  generalize l.take FEW = L at *
  have HX2 := hide (on_heap HX1.out hb2)
  have HF2 := hide (on_heap HF1.out hb2)
  have HB2 := hide (below_then HB1.out hb2)
  have HR2 := hide hr2
  have HN2 := hide (And.intro hn2 (And.intro hc2 hm2))
  have HLN := hide hr2.len
  clear hb2 hr2 hn2 hc2 hm2 HX1 HF1 HB1
  obtain ⟨a0, a1⟩ := two_at HX2.out
  go_wp2_with fail
  refine Calls.mono (next_any g m A2 n2 c2 L _ HG.out HM.out HR2.out (by have := HN2.out.1; omega)) ?_
  rintro e w3 ⟨hb3, rfl⟩
  have HX3 := hide (on_heap HX2.out hb3)
  have HF3 := hide (on_heap HF2.out hb3)
  have HB3 := hide (below_then HB2.out hb3)
  have HR3 := hide (HR2.out.on hb3)
  clear hb3 a0 a1 HX2 HF2 HB2 HR2
  cases hb : isRev g m with
  | false =>
    rw [next_no hb]
    clear hb
    go_wp2_with fail
    go_ret
    exact ⟨rfl, below_then HB3.out (below_alloc w3 _)⟩
  | true =>
    by_cases hov : g = 4294967295
    · subst hov
      rw [next_over]
      clear hb
      go_wp2_with fail
      go_ret
      exact ⟨rfl, below_then HB3.out (below_alloc w3 _)⟩
    · have hlt : g < 4294967295 := by have := HG.out; omega
      rw [next_yes hb hlt]
      dsimp only
      have HRV := hide hb
      have HLT := hide hlt
      obtain ⟨r, hrr⟩ : ∃ r, r = Crc.more 0 (nums (Crc.laid m ++ L)) := ⟨_, rfl⟩
      obtain ⟨g1, hg1⟩ : ∃ x, x = g + 1 := ⟨_, rfl⟩
      have hw1 : IntKind.u32.wrap ((g : Int) + 1) = (g1 : Int) := by unfold IntKind.wrap; simp [IntKind.signed, IntKind.bits]; omega
      have hne : ((g1 : Int) == (g : Int)) = false := by rw [beq_eq_false_iff_ne]; omega
      rw [← hrr, ← hg1]
      have HRR := hide hrr
      have HG1 := hide hg1
      clear hb hov hlt hrr hg1
      obtain ⟨a0, a1⟩ := two_old HX3.out
      by_cases h4 : n2 < 4
      · have h4' : (n2 : Int) < 4 := by omega
        clear h4
        go_wp2_with fail
        go_ret
        exact ⟨rfl, below_then HB3.out (below_alloc w3 _)⟩
      · have h4' : ¬ (n2 : Int) < 4 := by omega
        go_wp2_with fail
        refine Calls.mono (clone_any A2 n2 c2 L _ (HR3.out.on (below_alloc w3 _)) (by have := HN2.out.1; omega)) ?_
        rintro e w4 ⟨v, rfl, ho, hb4⟩
        have HX4 := hide (on_heap (two_heap HX3.out _) hb4)
        have HF4 := hide ((hb4.block _ (by have := lt_heap HF3.out; simp; omega)).trans ((heap_alloc_old w3 _ (lt_heap HF3.out)).trans HF3.out))
        have HY4 := hide (on_heap (heap_alloc_last w3 (.cells #[.int .u32 (g1 : Int), .int .u32 (r : Int)] 28)) hb4)
        have HB4 := hide (below_then HB3.out (below_then (below_alloc w3 _) hb4))
        have HS3 := hide HB3.out.size
        have HB34 := hide (below_then (below_alloc w3 (.cells #[.int .u32 (g1 : Int), .int .u32 (r : Int)] 28)) hb4)
        rcases ho.2 with ⟨_, h0⟩ | ⟨q, cap, cur, rfl, hq, hheap, hncap, hcapm, hcur, htake⟩
        · omega
        rw [Nat.mul_one] at htake hcur
        have HQ : Hid (w3.heap.size + 1 ≤ q) := hide (by simpa using hq)
        obtain ⟨u, hu⟩ : ∃ u : Int, IntKind.u64.wrap at_ = u := ⟨_, rfl⟩
        have hu0 : 0 ≤ u := by rw [← hu]; exact wrap_u64_nonneg _
        obtain ⟨k, hk⟩ := Int.eq_ofNat_of_zero_le (Int.emod_nonneg u (show (n2 : Int) - 3 ≠ 0 by omega))
        have hklt : u % ((n2 : Int) - 3) < (n2 : Int) - 3 := Int.emod_lt_of_pos _ (by omega)
        have hkn : k + 4 ≤ n2 := by omega
        have htm : u.tmod ((n2 : Int) - 3) = (k : Int) := by rw [Int.tmod_eq_emod_of_nonneg hu0, hk]
        have hne3 : ¬ (n2 : Int) - 3 = 0 := by omega
        have hl300 := HN2.out.1
        have e1 : IntKind.i64.wrap ((n2 : Int) - 3) = (n2 : Int) - 3 := by rw [IntKind.wrap_i64]; omega
        have e2 : IntKind.u64.wrap ((n2 : Int) - 3) = (n2 : Int) - 3 := by rw [IntKind.wrap_u64]; omega
        have e3 : IntKind.i64.wrap (k : Int) = (k : Int) := by rw [IntKind.wrap_i64]; omega
        have hkle : k ≤ n2 := by omega
        have hck : ¬ cap = k := by omega
        have HCUR := hide hcur
        have HHEAP := hide hheap
        have HTAKE := hide htake
        have HAP := hide (apart (Crc.laid m) L [x0, x1, x2, x3] k rfl (by rw [HLN.out]; exact hkn))
        clear hk hklt hcur hheap htake ho hb4 hq a0 a1 hl300 HX3 HF3 HB3
        go_wp2_with fail
        refine Dag.wp_region_facts 11 (Dag.list [Dag.Is (.slice (some ⟨q, 0, none⟩) n2 cap), Dag.Is (.int .i64 at_), Dag.Is (.int .u64 u), Dag.Is (.slice A2 n2 c2), Dag.Is (.int .i64 n2), Dag.Is (.int .i64 ((n2 : Int) - 3)), Dag.Is (.int .u64 ((n2 : Int) - 3)), Dag.Is (.int .u64 (k : Int)), Dag.Is (.int .i64 (k : Int)), Dag.Is (.slice (some ⟨q, k, none⟩) (n2 - k) (cap - k)), Dag.Is (.slice (some ⟨w.heap.size + 1, 0, none⟩) 4 4)]) (by kernel_rfl) (by kernel_rfl) (Dag.stable_list (by simp [Dag.Stable.is])) ?_ ?_
        · intro vs W hbW
          simp only [Dag.allOps, List.take_succ_cons, List.take_zero, Dag.fill, Act.put, List.setIfInBounds_toArray, List.set_cons_succ, List.set_cons_zero, Dag.deps, Region.binds, Dag.list, Dag.Is, List.getD_cons_zero, List.getD_cons_succ, and_true, forall_const, Nat.reduceAdd, Region.wanted, reduceIte]
          refine ⟨?_, ?_, ?_, ?_, ?_, ?_, ?_, ?_, ?_, ?_, ?_⟩
          · (try intro hd); go_simp; (first | done | exact ⟨Below.refl _ _, rfl⟩ | exact Below.refl _ _)
          · (try intro hd); go_simp; (first | done | exact ⟨Below.refl _ _, rfl⟩ | exact Below.refl _ _)
          · (try intro hd); go_simp; (first | done | exact ⟨Below.refl _ _, rfl⟩ | exact Below.refl _ _)
          · (try intro hd); go_simp; (first | done | exact ⟨Below.refl _ _, rfl⟩ | exact Below.refl _ _)
          · (try intro hd); go_simp; (first | done | exact ⟨Below.refl _ _, rfl⟩ | exact Below.refl _ _)
          · (try intro hd); go_simp; (first | done | exact ⟨Below.refl _ _, rfl⟩ | exact Below.refl _ _)
          · (try intro hd); go_simp; (first | done | exact ⟨Below.refl _ _, rfl⟩ | exact Below.refl _ _)
          · (try intro hd); go_simp; (first | done | exact ⟨Below.refl _ _, rfl⟩ | exact Below.refl _ _)
          · (try intro hd); go_simp; (first | done | exact ⟨Below.refl _ _, rfl⟩ | exact Below.refl _ _)
          · (try intro hd); go_simp; (first | done | exact ⟨Below.refl _ _, rfl⟩ | exact Below.refl _ _)
          · (try intro hd); go_simp; (first | done | exact ⟨Below.refl _ _, rfl⟩ | exact Below.refl _ _)
        · intro vs W hbW hk
          simp only [Dag.known, Dag.list, Dag.Is, List.getD_cons_zero, List.getD_cons_succ, and_true] at hk
          obtain ⟨k0, k1, k2, k3, k4, k5, k6, k7, k8, k9, k10⟩ := hk
          simp only [List.take_succ_cons, List.take_zero, List.drop_succ_cons, List.drop_zero, Dag.fill, Act.put, List.setIfInBounds_toArray, List.set_cons_succ, List.set_cons_zero, Nat.reduceAdd, k0, k1, k2, k3, k4, k5, k6, k7, k8, k9, k10]
          clear k0 k1 k2 k3 k4 k5 k6 k7 k8 k9 k10
          have HF5 := hide (on_heap HF4.out hbW)
          obtain ⟨W1, hrun, hh1, hbc, hs1⟩ := run_copy_reads (P := Try.prog) W 40 40 3 5 5 Try.underlying40 (by kernel_rfl) q k (n2 - k) (cap - k) W.heap.size (some ⟨w.heap.size + 1, 0, none⟩) 4 4 (bytes [x0, x1, x2, x3]) cur
            (on_heap HHEAP.out hbW) (RB.block HF5.out rfl) (by omega) (by rw [HCUR.out]; omega) bytes_one
          have hb3W : Below (w3.heap.size + 1) w4 W1 := (hbW.mono (by have := lt_heap HY4.out; omega)).trans (hbc.mono HQ.out)
          have hlX := lt_heap HX4.out
          have hlY := lt_heap HY4.out
          have hs0 := HS3.out
          have HX6 := hide ((hb3W.block w.heap.size (by omega)).trans HX4.out)
          have HY6 := hide ((hb3W.block w3.heap.size (by omega)).trans HY4.out)
          have HB6 := hide (HB4.out.trans (hb3W.mono (by omega)))
          have HR6 := hide (HR3.out.on (HB34.out.trans (hb3W.mono (by omega))))
          have hc1 : RB W1 (some ⟨q, 0, none⟩) n2 (over4 L [x0, x1, x2, x3] k) := by
            refine RB.head hh1 ?_ ?_
            · have hl1 : (cur.toList.take k).length = k := by rw [List.length_take, Array.length_toList, HCUR.out]; omega
              have e1 : cur.toList.take k = (bytes L).take k := by rw [← HTAKE.out, List.take_take, Nat.min_eq_left hkle]
              have e2 : (cur.toList.drop (k + 4)).take (n2 - k - 4) = (bytes L).drop (k + 4) := by rw [← HTAKE.out, List.drop_take, show n2 - (k + 4) = n2 - k - 4 by omega]
              show List.take n2 (cur.toList.take k ++ (bytes [x0, x1, x2, x3] ++ cur.toList.drop (k + 4))) = _
              rw [take_three _ _ _ k 4 n2 hl1 (by rw [bytes_len]; rfl) hkn, e1, e2]
              rw [over4, bytes_append, bytes_append, bytes_take, bytes_drop]
            · unfold over4
              have := HLN.out
              simp [List.length_take, List.length_drop]; omega
          have HC6 := hide hc1
          generalize over4 L [x0, x1, x2, x3] k = O at *
          clear hc1 hb3W hh1 hbc hlX hlY HX4 HY4 HB4 HF4 HF5 HHEAP HCUR HTAKE HB34 HR3 hs1 hs0
          obtain ⟨a0, a1⟩ := two_at HX6.out
          go_wp2_with fail
          refine Calls.mono (next_any g m (some ⟨q, 0, none⟩) n2 cap O _ HG.out HM.out HC6.out (by have := HN2.out.1; omega)) ?_
          rintro e w5 ⟨hb5, rfl⟩
          rw [next_yes HRV.out HLT.out]
          dsimp only
          obtain ⟨r2, hr2⟩ : ∃ r2, r2 = Crc.more 0 (nums (Crc.laid m ++ O)) := ⟨_, rfl⟩
          obtain ⟨bb, hbb⟩ : ∃ bb, bb = decide (L = O) := ⟨_, rfl⟩
          have hrr : ((r : Int) == (r2 : Int)) = bb := by
            rw [hbb, ← HAP.out, ← HRR.out, ← hr2, Bool.eq_iff_iff, beq_iff_eq, decide_eq_true_eq]; omega
          rw [← hr2, ← HG1.out]
          have HBB := hide hbb
          have HYA := hide (two_heap (on_heap HY6.out hb5) (.cells #[.int .u32 (g1 : Int), .int .u32 (r2 : Int)] 28))
          have HZA := hide (heap_alloc_last w5 (.cells #[.int .u32 (g1 : Int), .int .u32 (r2 : Int)] 28))
          have HBA := hide (below_then (below_then HB6.out hb5) (below_alloc w5 (.cells #[.int .u32 (g1 : Int), .int .u32 (r2 : Int)] 28)))
          have HRA := hide ((HR6.out.on hb5).on (below_alloc w5 (.cells #[.int .u32 (g1 : Int), .int .u32 (r2 : Int)] 28)))
          have HCA := hide ((HC6.out.on hb5).on (below_alloc w5 (.cells #[.int .u32 (g1 : Int), .int .u32 (r2 : Int)] 28)))
          clear hb5 hbb hr2 a0 a1 HX6 HY6 HB6 HR6 HC6 HAP hbW
          go_wp2_with fail
          refine Dag.wp_region_facts 11 (Dag.list [Dag.Is (.int .i64 0), Dag.Is (.bool true), Dag.Is (.bool true), Dag.Is (.agg #[.int .u32 (g1 : Int), .int .u32 (r : Int)]), Dag.Is (.agg #[.int .u32 (g1 : Int), .int .u32 (r2 : Int)]), Dag.Is (.bool bb), Dag.Is (.slice A2 n2 c2), Dag.Is (.slice (some ⟨q, 0, none⟩) n2 cap), Dag.Is (.bool bb), Dag.Is (.bool true), Dag.Is (.bool true)]) (by kernel_rfl) (by kernel_rfl) (Dag.stable_list (by simp [Dag.Stable.is])) ?_ ?_
          · intro vs W hbW
            simp only [Dag.allOps, List.take_succ_cons, List.take_zero, Dag.fill, Act.put, List.setIfInBounds_toArray, List.set_cons_succ, List.set_cons_zero, Dag.deps, Region.binds, Dag.list, Dag.Is, List.getD_cons_zero, List.getD_cons_succ, and_true, forall_const, Nat.reduceAdd, Region.wanted, reduceIte]
            refine ⟨?_, ?_, ?_, ?_, ?_, ?_, ?_, ?_, ?_, ?_, ?_⟩
            · (try intro hd); go_simp; (first | done | exact ⟨Below.refl _ _, rfl⟩ | exact Below.refl _ _)
            · (try intro hd); go_simp; (first | done | exact ⟨Below.refl _ _, rfl⟩ | exact Below.refl _ _)
            · (try intro hd); go_simp; (first | done | exact ⟨Below.refl _ _, rfl⟩ | exact Below.refl _ _)
            · (try intro hd); obtain ⟨y0, y1⟩ := two_at (on_heap HYA.out hbW); go_simp; (first | done | exact ⟨Below.refl _ _, rfl⟩ | exact Below.refl _ _)
            · (try intro hd); obtain ⟨y0, y1⟩ := two_at (on_heap HZA.out hbW); go_simp; (first | done | exact ⟨Below.refl _ _, rfl⟩ | exact Below.refl _ _)
            · (try intro hd); have := hrr; go_simp; (cases bb <;> exact ⟨Below.refl _ _, rfl⟩)
            · (try intro hd); go_simp; (first | done | exact ⟨Below.refl _ _, rfl⟩ | exact Below.refl _ _)
            · (try intro hd); go_simp; (first | done | exact ⟨Below.refl _ _, rfl⟩ | exact Below.refl _ _)
            · (try intro hd); go_simp; refine Calls.mono (equal_b A2 (some ⟨q, 0, none⟩) n2 n2 c2 cap L O W (HRA.out.on hbW) (HCA.out.on hbW) (by have := HN2.out.1; omega) (by have := HN2.out.1; omega)) ?_; rintro e w' ⟨rfl, hb'⟩; exact ⟨by rw [HBB.out], hb'⟩
            · (try intro hd); go_simp; (first | done | exact ⟨Below.refl _ _, rfl⟩ | exact Below.refl _ _)
            · (try intro hd); go_simp; (first | done | exact ⟨Below.refl _ _, rfl⟩ | exact Below.refl _ _)
          · intro vs W hbW hk
            simp only [Dag.known, Dag.list, Dag.Is, List.getD_cons_zero, List.getD_cons_succ, and_true] at hk
            obtain ⟨k0, k1, k2, k3, k4, k5, k6, k7, k8, k9, k10⟩ := hk
            simp only [List.take_succ_cons, List.take_zero, List.drop_succ_cons, List.drop_zero, Dag.fill, Act.put, List.setIfInBounds_toArray, List.set_cons_succ, List.set_cons_zero, Nat.reduceAdd, k0, k1, k2, k3, k4, k5, k6, k7, k8, k9, k10]
            clear k0 k1 k2 k3 k4 k5 k6 k7 k8 k9 k10
            go_wp2_with fail
            go_ret
            exact ⟨rfl, below_then HBA.out hbW⟩
/-! ### the row's step, written by program after the guide's skeleton -/
theorem own : ownKnob Try.prog.godebug = none := by kernel_rfl
theorem laidOut : laidOutB Try.prog = true := by kernel_rfl
set_option maxRecDepth 100000 in
theorem lifted (os : Os) (started : os.Started) (H : Type) (enc : TypeId × Value → H) :
    ReturnsInHanded {} Try.checked os 8 .any (Rows.docGrowsSpec.pre6 enc Try.prog Try.f8 Rows.docGrowsRow.domain false) (Rows.docGrowsSpec.post enc Try.prog Try.f8 false true false false) := by
  refine returnsInHanded_of_change (C := Try.checked) own started (by kernel_rfl) Try.func8
    (ChangeSpec.witness6 (enc := enc) (C := Try.checked) false ⟨#[], #[.agg #[.int .u32 0, .int .u32 0], .slice none 0 0, .int .i64 0, .agg #[.int .u8 0, .int .u8 0, .int .u8 0, .int .u8 0]], []⟩ 8 (by kernel_rfl) (by kernel_rfl) (by kernel_rfl) (by kernel_rfl)) ?_
  intro W base args ds gs before hval0 hW hcnd _
  have hval : ∀ (j : Nat) t v, Try.f8.params[j]? = some t → args[j]? = some v → Value.okWide Try.prog W .any base t v := hval0
  have hW' := hW
  obtain ⟨p, q, hA0, hV, rfl, hfz, hnd⟩ := hW
  have hA : DataW.TrodAll enc Try.prog W 0 (fun _ => true) true Try.f8.params.toList args.toList ds p := hA0
  rw [Try.params8] at hA hval
  obtain ⟨v0, vs0, d0, ds0, p0, q0, hargs, rfl, rfl, h0, r0⟩ := trodAll_cons hA
  obtain ⟨v1, vs1, d1, ds1, p1, q1, rfl, rfl, rfl, h1, r1⟩ := trodAll_cons r0
  obtain ⟨v2, vs2, d2, ds2, p2, q2, rfl, rfl, rfl, h2, r2⟩ := trodAll_cons r1
  obtain ⟨v3, vs3, d3, ds3, p3, q3, rfl, rfl, rfl, h3, r3⟩ := trodAll_cons r2
  obtain ⟨rfl, rfl, rfl⟩ := trodAll_nil r3
  obtain rfl : args = #[v0, v1, v2, v3] := by cases args; simp_all
  obtain ⟨rfl, rfl⟩ := trodVars_none hV
  have k0 := h0
  have lt0 := trod_lt' k0
  obtain ⟨x0g, x0m, rfl, w0g, w0m⟩ := arg_rev (hval 0 28 v0 rfl rfl) h0
  have k1 := h1
  have lt1 := trod_lt' k1
  obtain ⟨a1, n1, c1, l1, rfl, w1⟩ := arg_bytes Try.underlying40 Try.underlying5 (by kernel_rfl) (hval 1 40 v1 rfl rfl) h1
  obtain ⟨a2, rfl, rfl, rfl, w2⟩ := open_int Try.underlying3 (hval 2 3 v2 rfl rfl) h2
  have k3 := h3
  have lt3 := trod_lt' k3
  obtain ⟨x3a, x3b, x3c, x3d, rfl⟩ := arg_four Try.underlying58 Try.underlying5 (by kernel_rfl) (by kernel_rfl) (hval 3 58 v3 rfl rfl) h3
  clear hA0 hval0
  refine (walk x0g x0m a1 n1 c1 l1 a2 x3a x3b x3c x3d W w0g w0m w1 w2).mono fun e W' ⟨he, bel⟩ => ?_
  subst he
  exact ⟨_, rfl, _, _, _, [], _, [], hW', trodAll_mk1 (shut_bool Try.underlying4 _), (trodAll_cons_mk (Below.trod laidOut (by kernel_rfl) (of_decide_eq_true (by kernel_rfl)) k0 bel lt0) (trodAll_cons_mk (Below.trod laidOut (by kernel_rfl) (of_decide_eq_true (by kernel_rfl)) k1 bel lt1) (trodAll_cons_mk (shut_int Try.underlying3 w2) (trodAll_cons_mk (Below.trod laidOut (by kernel_rfl) (of_decide_eq_true (by kernel_rfl)) k3 bel lt3) trodAll_mk0)))), rfl, bel.frame _, fun h => by cases h⟩

theorem over : Rows.docGrowsRow.holds Try.pinned (OpenSpec.ofChange Rows.docGrowsSpec) :=
  OpenClaim.holds_of_wide 8 Try.f8 rfl rfl rfl rfl rfl rfl rfl ⟨rfl, rfl, rfl, rfl, rfl⟩ rfl rfl rfl rfl rfl (by kernel_rfl) Try.func8 (by kernel_rfl)
    (of_decide_eq_true (by kernel_rfl)) (by unfold Func.isWrapper; first | (rw [if_pos (by decide +kernel)]; kernel_rfl) | (rw [if_neg (by decide +kernel)]; exact ⟨rfl, rfl⟩))
    (fun os started H enc _ => lifted os started H enc)

theorem proved : Rows.DocGrowsSaid := over
end Go.Proofs.Ytmkkbomkonociaa.LawDocGrows
