/- The walks of the reference's May, High, Bytes, number, Read. -/
import Derived.Test.YtmkkbomkonociaaDocNum
namespace Go.Proofs.Ytmkkbomkonociaa
open Go.RowKit

theorem rmay_any (i : Inf) (hi : i.Ok) (w : World) : Calls Try.prog 23 #[.agg i.cells] w fun e w' => e = .returned (.bool (mayB i)) ∧ Below w.heap.size w w' := by
  obtain ⟨g, m, q, d, a⟩ := i
  have HI := hide hi
  clear hi
  have HM : Hid (mayB ⟨g, m, q, d, a⟩ = (decide (g ≠ 0) && (decide (1 ≤ q) && decide (q ≤ 1099511627776)) && (if d then decide (a = 0) else decide (1 ≤ a) && decide (a < 524288)))) := hide rfl
  unfold Inf.cells
  dsimp only
  by_cases h0 : g = 0
  · subst h0
    have HF := hide (show mayB ⟨0, m, q, d, a⟩ = false by rw [HM.out]; simp)
    go_enter Try.func23, Try.ntmps23
    go_wp2
    go_ret
    exact ⟨by rw [HF.out]; rfl, below_alloc _ _⟩
  · have hz : ((g : Int) == 0) = false := by rw [beq_eq_false_iff_ne]; omega
    by_cases hq1 : q < 1
    · obtain rfl : q = 0 := by omega
      have HF := hide (show mayB ⟨g, m, 0, d, a⟩ = false by rw [HM.out]; simp)
      clear h0
      go_enter Try.func23, Try.ntmps23
      go_wp2
      go_ret
      exact ⟨by rw [HF.out]; rfl, below_alloc _ _⟩
    · have hqz : ((q : Int) == 0) = false := by rw [beq_eq_false_iff_ne]; omega
      by_cases hq2 : 1099511627776 < q
      · have HF := hide (show mayB ⟨g, m, q, d, a⟩ = false by rw [HM.out, decide_eq_false (show ¬ q ≤ 1099511627776 by omega)]; simp)
        clear h0
        go_enter Try.func23, Try.ntmps23
        go_wp2
        go_ret
        exact ⟨by rw [HF.out]; rfl, below_alloc _ _⟩
      · have HF := hide (show mayB ⟨g, m, q, d, a⟩ = (if d then decide (a = 0) else decide (1 ≤ a) && decide (a < 524288)) by rw [HM.out, decide_eq_true (show g ≠ 0 from h0), decide_eq_true (show 1 ≤ q by omega), decide_eq_true (show q ≤ 1099511627776 by omega)]; rfl)
        clear h0 HM
        cases d with
        | true =>
          go_enter Try.func23, Try.ntmps23
          go_wp2
          go_ret
          refine ⟨ret_bool ?_, below_alloc _ _⟩
          rw [HF.out]
          simp only [if_true]
          rw [Bool.eq_iff_iff]
          simp
        | false =>
          go_enter Try.func23, Try.ntmps23
          go_wp2
          all_goals
            go_ret
            refine ⟨ret_bool ?_, below_alloc _ _⟩
            rw [HF.out]
            simp
            try omega

/-- a number in k bytes, the highest first -/
def high (n : Nat) : Nat → List UInt8
  | 0 => []
  | k + 1 => high (n / 256) k ++ [UInt8.ofNat (n % 256)]
theorem high_len (k : Nat) : ∀ n, (high n k).length = k := by
  induction k with
  | zero => intro n; rfl
  | succ k ih => intro n; rw [high, List.length_append, ih]; rfl
theorem ofNat_mod (n : Nat) : UInt8.ofNat (n % 256) = UInt8.ofNat n := by
  apply UInt8.toNat_inj.1
  rw [UInt8.toNat_ofNat', UInt8.toNat_ofNat']; omega
theorem high4 (n : Nat) : high n 4 = be4 n := by
  simp only [high, be4, List.nil_append, List.cons_append, ofNat_mod, Nat.div_div_eq_div_mul]
theorem high8 (n : Nat) (_h : n < 18446744073709551616) : high n 8 = be4 (n / 4294967296) ++ be4 (n % 4294967296) := by
  simp only [high, be4, List.nil_append, List.cons_append, ofNat_mod, Nat.div_div_eq_div_mul]
  simp only [List.cons.injEq, and_true]
  refine ⟨?_, ?_, ?_, ?_, ?_, ?_, ?_, ?_⟩ <;> first | exact trivial | (apply UInt8.toNat_inj.1; rw [UInt8.toNat_ofNat', UInt8.toNat_ofNat']; omega)
set_option maxHeartbeats 2000000 in
theorem high_any (k : Nat) : ∀ (n : Nat) (w : World), n < 18446744073709551616 → k ≤ 8 →
    Calls Try.prog 41 #[.int .u64 (n : Int), .int .i64 (k : Int)] w fun e w' => ∃ v, e = .returned v ∧ w'.ownsRow w.heap.size 5 1 v k (bytes (high n k)) ∧ Below w.heap.size w w' := by
  induction k with
  | zero =>
    intro n w _ _
    go_enter Try.func41, Try.ntmps41
    go_wp2
    go_ret
    exact ⟨_, rfl, World.ownsRow_nil _ _ _ _, Below.refl _ _⟩
  | succ k ih =>
    intro n w hn hk
    obtain ⟨i0, hi, hz0, hz1, hz2⟩ := info_parts u8_info
    obtain ⟨q, hq⟩ : ∃ q, q = n / 256 := ⟨_, rfl⟩
    obtain ⟨r, hr⟩ : ∃ r, r = n % 256 := ⟨_, rfl⟩
    have e1 : (n : Int) / 256 = (q : Int) := by omega
    have e2 : (n : Int) % 256 = (r : Int) := by omega
    have e3 : (((k + 1 : Nat) : Int) == 0) = false := by rw [beq_eq_false_iff_ne]; omega
    have HH := hide (show high n (k + 1) = high q k ++ [UInt8.ofNat r] by rw [hq, hr]; rfl)
    have HQ := hide (show q < 18446744073709551616 by omega)
    have HR := hide (show r < 256 by omega)
    have HK := hide hk
    clear hq hr hn hk
    obtain ⟨k1, hk1⟩ : ∃ x : Int, x = ((k + 1 : Nat) : Int) := ⟨_, rfl⟩
    rw [← hk1] at e3 ⊢
    have e4 : wrap64 (k1 - 1) = (k : Int) := by rw [hk1]; have := HK.out; unfold wrap64; omega
    have e5 : IntKind.u64.wrap (q : Int) = (q : Int) := by have := HQ.out; unfold IntKind.wrap; simp [IntKind.signed, IntKind.bits]; omega
    clear hk1
    go_enter Try.func41, Try.ntmps41
    go_wp2_with fail
    refine Calls.mono (ih q w HQ.out (by have := HK.out; omega)) ?_
    rintro e w1 ⟨v, rfl, ho, hb⟩
    have HO := hide ho
    have HB := hide hb
    clear ho hb
    have hr8 : IntKind.u8.wrap (r : Int) = (r : Int) := by have := HR.out; rw [IntKind.wrap_u8]; omega
    have hv : ((UInt8.ofNat r).toNat : Int) = (r : Int) := by rw [UInt8.toNat_ofNat']; have := HR.out; omega
    have HV := hide hv
    clear hv
    go_wp2_with (at_builtin; go_loud (refine wpList_append_reads rfl (.tmp 11) (.tmp 15) _ rfl w.heap.size 5 i0 (.int .u8 0) 1 1 Try.underlying40 hi hz0 hz1 hz2 rfl (by omega) v k (bytes (high q k)) rfl (HO.out.alloc _) (w1.heap.size + 1) (some ⟨w1.heap.size, 0, none⟩) 1 1 [.int .u8 (r : Int)] rfl (Reads.one _ _ _) (by intro u hu; simp at hu; subst hu; rfl) (by have := HK.out; unfold maxLen; omega) (by have := HK.out; omega) (by have := HB.out.size; simp; omega) ?_); intro v2 w2 hown2 hg2 hat2)
    go_ret
    refine ⟨v2, rfl, ?_, ?_⟩
    · rw [HH.out, bytes_append, show bytes [UInt8.ofNat r] = [.int .u8 (r : Int)] by simp only [bytes, List.map_cons, List.map_nil, HV.out]]; exact hown2
    · exact (HB.out.alloc HB.out.size _).grown hg2 (by have := HB.out.size; simp; omega) fun j hj => (HO.out.lt j hj).1
end Go.Proofs.Ytmkkbomkonociaa
