/- The walks of the reference's number, Bytes, Read (written by gen_rbytes.py). -/
import Derived.Test.YtmkkbomkonociaaDocCodeRef
import Derived.Test.YtmkkbomkonociaaCut
namespace Go.Proofs.Ytmkkbomkonociaa
open Go.RowKit
attribute [local go_sem] Dag.gives

/-- the number of bytes, the highest first -/
def bn (l : List UInt8) : Nat := l.foldl (fun n c => n * 256 + c.toNat) 0
theorem bn_snoc (l : List UInt8) (c : UInt8) : bn (l ++ [c]) = bn l * 256 + c.toNat := by simp [bn]
theorem bn_lt (k : Nat) : ∀ l : List UInt8, l.length = k → bn l < 256 ^ k := by
  induction k with
  | zero => intro l h; obtain rfl := List.eq_nil_of_length_eq_zero h; decide
  | succ k ih =>
    intro l h
    obtain ⟨y, c, rfl⟩ : ∃ y c, l = y ++ [c] := by
      rcases List.eq_nil_or_concat l with h' | ⟨y, c, h'⟩
      · rw [h'] at h; cases h
      · exact ⟨y, c, by rw [h', List.concat_eq_append]⟩
    rw [List.length_append] at h
    have h1 := ih y (by simpa using h)
    have h2 := c.toNat_lt
    rw [bn_snoc, Nat.pow_succ]; omega
theorem rnum_any (A : Option Addr) (n c : Nat) (l : List UInt8) (w : World) (hA : RB w A n l) (hn : n ≤ 8) :
    Calls Try.prog 43 #[.slice A n c] w fun e w' => e = .returned (.int .u64 (bn l : Nat)) ∧ w' = w := by
  have HL := hide hA.len
  have HN := hide hn
  clear hn
  go_enter Try.func43, Try.ntmps43
  go_wp2
  go_loop [3, 4] (fun a i => ∃ j : Nat, j ≤ n ∧ a = .int .u64 (bn (l.take j) : Nat) ∧ i = .int .i64 j) (fun _ i => n - (intOf i).toNat)
  case atStart => exact ⟨0, by omega, rfl, rfl⟩
  case round =>
    obtain ⟨j, hj, rfl, rfl⟩ := hrel
    by_cases hlt : j < n
    · have hjl : j < l.length := by rw [HL.out]; exact hlt
      obtain ⟨b, o, rfl, _, hc⟩ := hA.cell hjl
      have HS := hide (show bn (l.take (j + 1)) = bn (l.take j) * 256 + l[j].toNat by rw [List.take_succ_eq_append_getElem hjl, bn_snoc])
      have hb := bn_lt j (l.take j) (by rw [List.length_take]; omega)
      have hb2 : 256 ^ j ≤ 256 ^ 7 := Nat.pow_le_pow_right (by omega) (by have := HN.out; omega)
      have hxl := l[j].toNat_lt
      generalize l[j].toNat = x at *
      generalize bn (l.take j) = s at *
      have hb3 : s < 72057594037927936 := Nat.lt_of_lt_of_le hb hb2
      have hw1 : IntKind.u64.wrap ((s : Int) * 256) = (s : Int) * 256 := by unfold IntKind.wrap; simp [IntKind.signed, IntKind.bits]; omega
      have hw2 : IntKind.u64.wrap (x : Int) = (x : Int) := by unfold IntKind.wrap; simp [IntKind.signed, IntKind.bits]; omega
      have hw3 : IntKind.u64.wrap ((s : Int) * 256 + (x : Int)) = (s : Int) * 256 + (x : Int) := by unfold IntKind.wrap; simp [IntKind.signed, IntKind.bits]; omega
      have hj0 : (0 : Int) ≤ (j : Int) := by omega
      have hj1 : (j : Int) < (n : Int) := by omega
      have hw4 : wrap64 ((j : Int) + 1) = ((j + 1 : Nat) : Int) := by have := HN.out; unfold wrap64; omega
      have HB3 := hide (And.intro hb3 hxl)
      clear hb hb2 hb3 hxl hjl
      go_wp2_with fail
      go_round
      case rel => exact ⟨j + 1, by omega, by rw [HS.out]; first | rfl | (congr 1; omega), by rw [hw4]⟩
      case measure => rw [hw4]; simp [intOf]; omega
    · obtain rfl : j = n := by omega
      have HF := hide (show bn (l.take j) = bn l by rw [List.take_of_length_le (by rw [HL.out]; exact Nat.le_refl _)])
      go_wp2_with fail
      go_ret
      exact ⟨by rw [HF.out]; rfl, rfl⟩


set_option maxHeartbeats 4000000 in
theorem rbytes_any (i : Inf) (hi : i.Ok) (hm : mayB i = true) (w : World) : Calls Try.prog 24 #[.agg i.cells] w fun e w' => ∃ A c, e = .returned (.slice A 21 c) ∧ 21 ≤ c ∧ c ≤ maxLen ∧ RB w' A 21 (infBytes i) ∧ Below w.heap.size w w' := by
  have HI := hide hi
  obtain ⟨i0, hti, hz0, hz1, hz2⟩ := info_parts u8_info
  obtain ⟨g, m, q, d, a⟩ := i
  have ha : 0 ≤ a ∧ a < 524288 := by
    unfold mayB at hm
    simp only [Bool.and_eq_true] at hm
    have h2 := hm.2
    cases d
    · simp only [Bool.false_eq_true, ite_false, Bool.and_eq_true, decide_eq_true_eq] at h2; omega
    · simp only [ite_true, decide_eq_true_eq] at h2; omega
  obtain ⟨a, rfl⟩ : ∃ k : Nat, a = (k : Int) := ⟨a.toNat, by omega⟩
  have HA := hide (show a < 524288 by omega)
  have hcv0 : IntKind.u64.wrap (g : Int) = (g : Int) := by have : g < 4294967296 := HI.out.gen; unfold IntKind.wrap; simp [IntKind.signed, IntKind.bits]; omega
  have hcv1 : IntKind.u64.wrap (m : Int) = (m : Int) := by have : m < 4294967296 := HI.out.mark; unfold IntKind.wrap; simp [IntKind.signed, IntKind.bits]; omega
  have hcv2 : IntKind.u64.wrap (a : Int) = (a : Int) := by unfold IntKind.wrap; simp [IntKind.signed, IntKind.bits]; omega
  have HG := hide (show g < 18446744073709551616 by have : g < 4294967296 := HI.out.gen; omega)
  have HM := hide (show m < 18446744073709551616 by have : m < 4294967296 := HI.out.mark; omega)
  have HQ := hide (show q < 18446744073709551616 from HI.out.seq)
  have HAA := hide (show a < 18446744073709551616 by omega)
  have HF := hide (show infBytes ⟨g, m, q, d, (a : Int)⟩ = high g 4 ++ high m 4 ++ high q 8 ++ [if d then 1 else 0] ++ high a 4 by rw [high4, high4, high4, high8 q HQ.out]; unfold infBytes; simp only [Int.toNat_natCast, List.append_assoc])
  unfold Inf.cells
  dsimp only
  clear hi hm ha
  go_enter Try.func24, Try.ntmps24
  go_wp2_with fail
  have HO : Hid (((w.alloc (.cells #[.int .u32 (g : Int), .int .u32 (m : Int), .int .u64 (q : Int), .bool d, .int .i64 (a : Int)] 48)).alloc (.cells #[] 5)).ownsRow (w.heap.size + 1) 5 1 (.slice (some ⟨w.heap.size + 1, 0, none⟩) 0 0) 0 (bytes [])) := hide (by
    have := World.ownsRow_lit (base := w.heap.size + 1) (e := 5) (size := 1) (w.alloc (.cells #[.int .u32 (g : Int), .int .u32 (m : Int), .int .u64 (q : Int), .bool d, .int .i64 (a : Int)] 48)) #[] 0 (by simp) (by simp [maxLen]) rfl
    simpa [bytes] using this)
  have HB := hide (below_then (below_alloc w (.cells #[.int .u32 (g : Int), .int .u32 (m : Int), .int .u64 (q : Int), .bool d, .int .i64 (a : Int)] 48)) (below_alloc _ (.cells #[] 5)))
  have HC : Hid (((w.alloc (.cells #[.int .u32 (g : Int), .int .u32 (m : Int), .int .u64 (q : Int), .bool d, .int .i64 (a : Int)] 48)).alloc (.cells #[] 5)).heap[w.heap.size]? = some (.cells #[.int .u32 (g : Int), .int .u32 (m : Int), .int .u64 (q : Int), .bool d, .int .i64 (a : Int)] 48 (0, 0))) := hide (by
    rw [heap_alloc_old _ _ (by simp)]; exact heap_alloc_last w _)
  have HS : Hid (w.heap.size + 2 ≤ ((w.alloc (.cells #[.int .u32 (g : Int), .int .u32 (m : Int), .int .u64 (q : Int), .bool d, .int .i64 (a : Int)] 48)).alloc (.cells #[] 5)).heap.size) := hide (by simp)
  generalize (w.alloc (.cells #[.int .u32 (g : Int), .int .u32 (m : Int), .int .u64 (q : Int), .bool d, .int .i64 (a : Int)] 48)).alloc (.cells #[] 5) = V at *
  refine Calls.mono (high_any 4 g _ HG.out (by omega)) ?_
  rintro e w1 ⟨vh, rfl, hoh, hb⟩
  obtain ⟨AH, cH, rfl, hcH, hmH, hrH⟩ := own_slice hoh
  have HRH := hide hrH
  have HO1 := hide (own_on HO.out hb)
  have HB1 := hide (below_then HB.out hb)
  have HC1 := hide ((hb.block w.heap.size (by have := HS.out; omega)).trans HC.out)
  have HS1 := hide (show w.heap.size + 2 ≤ w1.heap.size by have := hb.size; have := HS.out; omega)
  clear hcH hmH hrH hoh hb HO HB HC HS
  go_wp2_with (at_builtin; go_loud (refine wpList_append_reads rfl (.tmp 4) (.tmp 9) _ rfl (w.heap.size + 1) 5 i0 (.int .u8 0) 1 1 Try.underlying40 hti hz0 hz1 hz2 rfl (by omega) (.slice (some ⟨w.heap.size + 1, 0, none⟩) 0 0) 0 (bytes ([])) rfl HO1.out w1.heap.size AH 4 cH (bytes (high g 4)) rfl HRH.out bytes_one (by unfold maxLen; omega) (by omega) (by have := HS1.out; omega) ?_); intro v2 w2 hown2 hg2 hat2; have HC := hide ((hg2.block w.heap.size (by have := HS1.out; omega) (fun e => by have := (HO1.out.lt _ e.symm).1; omega)).trans HC1.out); have HB := hide (HB1.out.grown hg2 HB1.out.size (fun j hj => by have := (HO1.out.lt j hj).1; omega)); have HS := hide (show w.heap.size + 2 ≤ w2.heap.size by have := hg2.size; have := HS1.out; omega); have HO : Hid (w2.ownsRow (w.heap.size + 1) 5 1 v2 4 (bytes ([] ++ high g 4))) := hide (by rw [bytes_append]; exact hown2); clear hown2 hg2 hat2 HC1 HB1 HS1 HO1; have e0 := cell_of_row _ _ 0 _ _ _ HC.out; have e1 := cell_of_row _ _ 1 _ _ _ HC.out; have e2 := cell_of_row _ _ 2 _ _ _ HC.out; have e3 := cell_of_row _ _ 3 _ _ _ HC.out; have e4 := cell_of_row _ _ 4 _ _ _ HC.out)
  refine Calls.mono (high_any 4 m _ HM.out (by omega)) ?_
  rintro e w1 ⟨vh, rfl, hoh, hb⟩
  obtain ⟨AH, cH, rfl, hcH, hmH, hrH⟩ := own_slice hoh
  have HRH := hide hrH
  have HO1 := hide (own_on HO.out hb)
  have HB1 := hide (below_then HB.out hb)
  have HC1 := hide ((hb.block w.heap.size (by have := HS.out; omega)).trans HC.out)
  have HS1 := hide (show w.heap.size + 2 ≤ w1.heap.size by have := hb.size; have := HS.out; omega)
  clear hcH hmH hrH hoh hb HO HB HC HS e0 e1 e2 e3 e4
  go_wp2_with (at_builtin; go_loud (refine wpList_append_reads rfl (.tmp 11) (.tmp 16) _ rfl (w.heap.size + 1) 5 i0 (.int .u8 0) 1 1 Try.underlying40 hti hz0 hz1 hz2 rfl (by omega) v2 4 (bytes ([] ++ high g 4)) rfl HO1.out w1.heap.size AH 4 cH (bytes (high m 4)) rfl HRH.out bytes_one (by unfold maxLen; omega) (by omega) (by have := HS1.out; omega) ?_); intro v2 w2 hown2 hg2 hat2; have HC := hide ((hg2.block w.heap.size (by have := HS1.out; omega) (fun e => by have := (HO1.out.lt _ e.symm).1; omega)).trans HC1.out); have HB := hide (HB1.out.grown hg2 HB1.out.size (fun j hj => by have := (HO1.out.lt j hj).1; omega)); have HS := hide (show w.heap.size + 2 ≤ w2.heap.size by have := hg2.size; have := HS1.out; omega); have HO : Hid (w2.ownsRow (w.heap.size + 1) 5 1 v2 8 (bytes ([] ++ high g 4 ++ high m 4))) := hide (by rw [bytes_append]; exact hown2); clear hown2 hg2 hat2 HC1 HB1 HS1 HO1; have e0 := cell_of_row _ _ 0 _ _ _ HC.out; have e1 := cell_of_row _ _ 1 _ _ _ HC.out; have e2 := cell_of_row _ _ 2 _ _ _ HC.out; have e3 := cell_of_row _ _ 3 _ _ _ HC.out; have e4 := cell_of_row _ _ 4 _ _ _ HC.out)
  cases d with
  | true =>
    refine Calls.mono (high_any 8 q _ HQ.out (by omega)) ?_
    rintro e w1 ⟨vh, rfl, hoh, hb⟩
    obtain ⟨AH, cH, rfl, hcH, hmH, hrH⟩ := own_slice hoh
    have HRH := hide hrH
    have HO1 := hide (own_on HO.out hb)
    have HB1 := hide (below_then HB.out hb)
    have HC1 := hide ((hb.block w.heap.size (by have := HS.out; omega)).trans HC.out)
    have HS1 := hide (show w.heap.size + 2 ≤ w1.heap.size by have := hb.size; have := HS.out; omega)
    clear hcH hmH hrH hoh hb HO HB HC HS e0 e1 e2 e3 e4
    go_wp2_with (at_builtin; first | (refine wpList_append_reads rfl (.tmp 18) (.tmp 21) _ rfl (w.heap.size + 1) 5 i0 (.int .u8 0) 1 1 Try.underlying40 hti hz0 hz1 hz2 rfl (by omega) v2 8 (bytes ([] ++ high g 4 ++ high m 4)) rfl HO1.out w1.heap.size AH 8 cH (bytes (high q 8)) rfl HRH.out bytes_one (by unfold maxLen; omega) (by omega) (by have := HS1.out; omega) ?_; intro v2 w2 hown2 hg2 hat2; have HC := hide ((hg2.block w.heap.size (by have := HS1.out; omega) (fun e => by have := (HO1.out.lt _ e.symm).1; omega)).trans HC1.out); have HB := hide (HB1.out.grown hg2 HB1.out.size (fun j hj => by have := (HO1.out.lt j hj).1; omega)); have HS := hide (show w.heap.size + 2 ≤ w2.heap.size by have := hg2.size; have := HS1.out; omega); have HO : Hid (w2.ownsRow (w.heap.size + 1) 5 1 v2 16 (bytes ([] ++ high g 4 ++ high m 4 ++ high q 8))) := hide (by rw [bytes_append]; exact hown2); clear hown2 hg2 hat2 HC1 HB1 HS1 HO1; have e0 := cell_of_row _ _ 0 _ _ _ HC.out; have e1 := cell_of_row _ _ 1 _ _ _ HC.out; have e2 := cell_of_row _ _ 2 _ _ _ HC.out; have e3 := cell_of_row _ _ 3 _ _ _ HC.out; have e4 := cell_of_row _ _ 4 _ _ _ HC.out) | (refine wpList_append_reads rfl (.tmp 25) (.tmp 26) _ rfl (w.heap.size + 1) 5 i0 (.int .u8 0) 1 1 Try.underlying40 hti hz0 hz1 hz2 rfl (by omega) v2 16 (bytes ([] ++ high g 4 ++ high m 4 ++ high q 8)) rfl (HO.out.alloc _) (w2.heap.size + 1) (some ⟨w2.heap.size, 0, none⟩) 1 1 (bytes [1]) rfl (Reads.one _ _ _) bytes_one (by unfold maxLen; omega) (by omega) (by have := HS.out; simp; omega) ?_; intro v3 w3 hown2 hg2 hat2; have HC := hide ((hg2.block w.heap.size (by have := HS.out; simp; omega) (fun e => by have := (HO.out.lt _ e.symm).1; omega)).trans ((heap_alloc_old _ _ (by have := HS.out; omega)).trans HC.out)); have HB := hide ((HB.out.alloc HB.out.size _).grown hg2 (by have := HB.out.size; simp; omega) (fun j hj => by have := (HO.out.lt j hj).1; omega)); have HS := hide (show w.heap.size + 2 ≤ w3.heap.size by have := hg2.size; simp at this; have := HS.out; omega); have HO : Hid (w3.ownsRow (w.heap.size + 1) 5 1 v3 17 (bytes ([] ++ high g 4 ++ high m 4 ++ high q 8 ++ [1]))) := hide (by rw [bytes_append]; exact hown2); clear hown2 hg2 hat2; have e0 := cell_of_row _ _ 0 _ _ _ HC.out; have e1 := cell_of_row _ _ 1 _ _ _ HC.out; have e2 := cell_of_row _ _ 2 _ _ _ HC.out; have e3 := cell_of_row _ _ 3 _ _ _ HC.out; have e4 := cell_of_row _ _ 4 _ _ _ HC.out))
    refine Calls.mono (high_any 4 a _ HAA.out (by omega)) ?_
    rintro e w1 ⟨vh, rfl, hoh, hb⟩
    obtain ⟨AH, cH, rfl, hcH, hmH, hrH⟩ := own_slice hoh
    have HRH := hide hrH
    have HO1 := hide (own_on HO.out hb)
    have HB1 := hide (below_then HB.out hb)
    have HC1 := hide ((hb.block w.heap.size (by have := HS.out; omega)).trans HC.out)
    have HS1 := hide (show w.heap.size + 2 ≤ w1.heap.size by have := hb.size; have := HS.out; omega)
    clear hcH hmH hrH hoh hb HO HB HC HS e0 e1 e2 e3 e4
    go_wp2_with (at_builtin; go_loud (refine wpList_append_reads rfl (.tmp 31) (.tmp 35) _ rfl (w.heap.size + 1) 5 i0 (.int .u8 0) 1 1 Try.underlying40 hti hz0 hz1 hz2 rfl (by omega) v3 17 (bytes ([] ++ high g 4 ++ high m 4 ++ high q 8 ++ [1])) rfl HO1.out w1.heap.size AH 4 cH (bytes (high a 4)) rfl HRH.out bytes_one (by unfold maxLen; omega) (by omega) (by have := HS1.out; omega) ?_); intro v2 w2 hown2 hg2 hat2; have HC := hide ((hg2.block w.heap.size (by have := HS1.out; omega) (fun e => by have := (HO1.out.lt _ e.symm).1; omega)).trans HC1.out); have HB := hide (HB1.out.grown hg2 HB1.out.size (fun j hj => by have := (HO1.out.lt j hj).1; omega)); have HS := hide (show w.heap.size + 2 ≤ w2.heap.size by have := hg2.size; have := HS1.out; omega); have HO : Hid (w2.ownsRow (w.heap.size + 1) 5 1 v2 21 (bytes ([] ++ high g 4 ++ high m 4 ++ high q 8 ++ [1] ++ high a 4))) := hide (by rw [bytes_append]; exact hown2); clear hown2 hg2 hat2 HC1 HB1 HS1 HO1; have e0 := cell_of_row _ _ 0 _ _ _ HC.out; have e1 := cell_of_row _ _ 1 _ _ _ HC.out; have e2 := cell_of_row _ _ 2 _ _ _ HC.out; have e3 := cell_of_row _ _ 3 _ _ _ HC.out; have e4 := cell_of_row _ _ 4 _ _ _ HC.out)
    obtain ⟨A, c, rfl, hc, hm, hr⟩ := own_slice HO.out
    have HR := hide (And.intro hc (And.intro hm hr))
    clear hc hm hr e0 e1 e2 e3 e4
    go_wp2_with fail
    go_ret
    refine ⟨A, c, rfl, HR.out.1, HR.out.2.1, ?_, HB.out⟩
    rw [HF.out]
    exact HR.out.2.2
  | false =>
    refine Calls.mono (high_any 8 q _ HQ.out (by omega)) ?_
    rintro e w1 ⟨vh, rfl, hoh, hb⟩
    obtain ⟨AH, cH, rfl, hcH, hmH, hrH⟩ := own_slice hoh
    have HRH := hide hrH
    have HO1 := hide (own_on HO.out hb)
    have HB1 := hide (below_then HB.out hb)
    have HC1 := hide ((hb.block w.heap.size (by have := HS.out; omega)).trans HC.out)
    have HS1 := hide (show w.heap.size + 2 ≤ w1.heap.size by have := hb.size; have := HS.out; omega)
    clear hcH hmH hrH hoh hb HO HB HC HS e0 e1 e2 e3 e4
    go_wp2_with (at_builtin; first | (refine wpList_append_reads rfl (.tmp 18) (.tmp 21) _ rfl (w.heap.size + 1) 5 i0 (.int .u8 0) 1 1 Try.underlying40 hti hz0 hz1 hz2 rfl (by omega) v2 8 (bytes ([] ++ high g 4 ++ high m 4)) rfl HO1.out w1.heap.size AH 8 cH (bytes (high q 8)) rfl HRH.out bytes_one (by unfold maxLen; omega) (by omega) (by have := HS1.out; omega) ?_; intro v2 w2 hown2 hg2 hat2; have HC := hide ((hg2.block w.heap.size (by have := HS1.out; omega) (fun e => by have := (HO1.out.lt _ e.symm).1; omega)).trans HC1.out); have HB := hide (HB1.out.grown hg2 HB1.out.size (fun j hj => by have := (HO1.out.lt j hj).1; omega)); have HS := hide (show w.heap.size + 2 ≤ w2.heap.size by have := hg2.size; have := HS1.out; omega); have HO : Hid (w2.ownsRow (w.heap.size + 1) 5 1 v2 16 (bytes ([] ++ high g 4 ++ high m 4 ++ high q 8))) := hide (by rw [bytes_append]; exact hown2); clear hown2 hg2 hat2 HC1 HB1 HS1 HO1; have e0 := cell_of_row _ _ 0 _ _ _ HC.out; have e1 := cell_of_row _ _ 1 _ _ _ HC.out; have e2 := cell_of_row _ _ 2 _ _ _ HC.out; have e3 := cell_of_row _ _ 3 _ _ _ HC.out; have e4 := cell_of_row _ _ 4 _ _ _ HC.out) | (refine wpList_append_reads rfl (.tmp 28) (.tmp 29) _ rfl (w.heap.size + 1) 5 i0 (.int .u8 0) 1 1 Try.underlying40 hti hz0 hz1 hz2 rfl (by omega) v2 16 (bytes ([] ++ high g 4 ++ high m 4 ++ high q 8)) rfl (HO.out.alloc _) (w2.heap.size + 1) (some ⟨w2.heap.size, 0, none⟩) 1 1 (bytes [0]) rfl (Reads.one _ _ _) bytes_one (by unfold maxLen; omega) (by omega) (by have := HS.out; simp; omega) ?_; intro v3 w3 hown2 hg2 hat2; have HC := hide ((hg2.block w.heap.size (by have := HS.out; simp; omega) (fun e => by have := (HO.out.lt _ e.symm).1; omega)).trans ((heap_alloc_old _ _ (by have := HS.out; omega)).trans HC.out)); have HB := hide ((HB.out.alloc HB.out.size _).grown hg2 (by have := HB.out.size; simp; omega) (fun j hj => by have := (HO.out.lt j hj).1; omega)); have HS := hide (show w.heap.size + 2 ≤ w3.heap.size by have := hg2.size; simp at this; have := HS.out; omega); have HO : Hid (w3.ownsRow (w.heap.size + 1) 5 1 v3 17 (bytes ([] ++ high g 4 ++ high m 4 ++ high q 8 ++ [0]))) := hide (by rw [bytes_append]; exact hown2); clear hown2 hg2 hat2; have e0 := cell_of_row _ _ 0 _ _ _ HC.out; have e1 := cell_of_row _ _ 1 _ _ _ HC.out; have e2 := cell_of_row _ _ 2 _ _ _ HC.out; have e3 := cell_of_row _ _ 3 _ _ _ HC.out; have e4 := cell_of_row _ _ 4 _ _ _ HC.out))
    refine Calls.mono (high_any 4 a _ HAA.out (by omega)) ?_
    rintro e w1 ⟨vh, rfl, hoh, hb⟩
    obtain ⟨AH, cH, rfl, hcH, hmH, hrH⟩ := own_slice hoh
    have HRH := hide hrH
    have HO1 := hide (own_on HO.out hb)
    have HB1 := hide (below_then HB.out hb)
    have HC1 := hide ((hb.block w.heap.size (by have := HS.out; omega)).trans HC.out)
    have HS1 := hide (show w.heap.size + 2 ≤ w1.heap.size by have := hb.size; have := HS.out; omega)
    clear hcH hmH hrH hoh hb HO HB HC HS e0 e1 e2 e3 e4
    go_wp2_with (at_builtin; go_loud (refine wpList_append_reads rfl (.tmp 31) (.tmp 35) _ rfl (w.heap.size + 1) 5 i0 (.int .u8 0) 1 1 Try.underlying40 hti hz0 hz1 hz2 rfl (by omega) v3 17 (bytes ([] ++ high g 4 ++ high m 4 ++ high q 8 ++ [0])) rfl HO1.out w1.heap.size AH 4 cH (bytes (high a 4)) rfl HRH.out bytes_one (by unfold maxLen; omega) (by omega) (by have := HS1.out; omega) ?_); intro v2 w2 hown2 hg2 hat2; have HC := hide ((hg2.block w.heap.size (by have := HS1.out; omega) (fun e => by have := (HO1.out.lt _ e.symm).1; omega)).trans HC1.out); have HB := hide (HB1.out.grown hg2 HB1.out.size (fun j hj => by have := (HO1.out.lt j hj).1; omega)); have HS := hide (show w.heap.size + 2 ≤ w2.heap.size by have := hg2.size; have := HS1.out; omega); have HO : Hid (w2.ownsRow (w.heap.size + 1) 5 1 v2 21 (bytes ([] ++ high g 4 ++ high m 4 ++ high q 8 ++ [0] ++ high a 4))) := hide (by rw [bytes_append]; exact hown2); clear hown2 hg2 hat2 HC1 HB1 HS1 HO1; have e0 := cell_of_row _ _ 0 _ _ _ HC.out; have e1 := cell_of_row _ _ 1 _ _ _ HC.out; have e2 := cell_of_row _ _ 2 _ _ _ HC.out; have e3 := cell_of_row _ _ 3 _ _ _ HC.out; have e4 := cell_of_row _ _ 4 _ _ _ HC.out)
    obtain ⟨A, c, rfl, hc, hm, hr⟩ := own_slice HO.out
    have HR := hide (And.intro hc (And.intro hm hr))
    clear hc hm hr e0 e1 e2 e3 e4
    go_wp2_with fail
    go_ret
    refine ⟨A, c, rfl, HR.out.1, HR.out.2.1, ?_, HB.out⟩
    rw [HF.out]
    exact HR.out.2.2
end Go.Proofs.Ytmkkbomkonociaa
