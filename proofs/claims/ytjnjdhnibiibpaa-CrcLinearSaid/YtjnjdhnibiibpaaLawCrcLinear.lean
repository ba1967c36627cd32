/- Proved: davenportlaw09.CrcLinear returns true for every input: checksums of sequences of equal length are affine over XOR. No condition. -/
import Derived.Test.YtjnjdhnibiibpaaRows
import Derived.Test.YtjnjdhnibiibpaaOpen
import Derived.Test.YtjnjdhnibiibpaaCrcWakes
namespace Go.Proofs.Ytjnjdhnibiibpaa.LawCrcLinear
open Go.ChangeShapes Go.WideShapes Go.ChangeAt Go.RowKit
open Go.ChangeMaps (open_string shut_string)
attribute [local go_sem] Dag.gives

theorem made_zero (w : World) (n : Nat) : RB (w.alloc (.cells (madeCells #[.int .u8 0] n) 5)) (some ⟨w.heap.size, 0, none⟩) n (List.replicate n 0) :=
  RB.lit w 5 _ _ n (by simp) (by rw [toList_madeCells_one]; simp [bytes])

/-- byte by byte -/
def xors (a b : List UInt8) : List UInt8 := List.zipWith (· ^^^ ·) a b
theorem nums_xors : ∀ a b : List UInt8, nums (xors a b) = List.zipWith (· ^^^ ·) (nums a) (nums b)
  | [], b => by cases b <;> rfl
  | _ :: _, [] => rfl
  | x :: a, y :: b => by
    have := nums_xors a b
    unfold nums xors at this ⊢
    simp only [List.zipWith_cons_cons, List.map_cons, UInt8.toNat_xor, this]
theorem xors_len (a b : List UInt8) (h : a.length = b.length) : (xors a b).length = a.length := by unfold xors; simp [h]
theorem linear (a b : List UInt8) (k : Nat) (ha : a.length = k) (hb : b.length = k) :
    Crc.more 0 (nums a) ^^^ Crc.more 0 (nums b) ^^^ Crc.more 0 (nums (xors a b)) = Crc.more 0 (nums (List.replicate k 0)) := by
  rw [nums_xors, Crc.linear (nums a) (nums b) (by rw [nums_len, nums_len, ha, hb]) (nums_lt a) (nums_lt b), nums_len, ha]
  simp [nums]

/-- the cells of the third row in the middle of the loop -/
def mid (a b : List UInt8) (k i : Nat) : List Value := bytes ((xors a b).take i) ++ List.replicate (k - i) (.int .u8 0)
theorem mid_zero (a b : List UInt8) (k : Nat) : mid a b k 0 = List.replicate k (.int .u8 0) := by simp [mid, bytes]
theorem mid_len (a b : List UInt8) (k i : Nat) (ha : a.length = k) (hb : b.length = k) (hi : i ≤ k) : (mid a b k i).length = k := by
  simp [mid, bytes_len, List.length_take, xors_len a b (by omega), ha]
  omega
theorem mid_set (a b : List UInt8) (k i : Nat) (ha : a.length = k) (hb : b.length = k) (hi : i < k) (v : Value) (hv : v = .int .u8 (((a[i]'(by omega)) ^^^ (b[i]'(by omega))).toNat : Int)) :
    (mid a b k i).set i v = mid a b k (i + 1) := by
  have hx : (xors a b).length = k := by rw [xors_len a b (by omega), ha]
  have hl : (bytes ((xors a b).take i)).length = i := by rw [bytes_len, List.length_take, hx]; omega
  unfold mid
  rw [List.set_append_right _ _ (by omega), hl, Nat.sub_self, show k - i = (k - (i + 1)) + 1 by omega, List.replicate_succ, List.set_cons_zero,
    List.take_succ_eq_append_getElem (by omega), bytes_append, List.append_assoc, hv]
  simp [bytes, xors]
theorem mid_all (a b : List UInt8) (k : Nat) (ha : a.length = k) (hb : b.length = k) : mid a b k k = bytes (xors a b) := by
  unfold mid
  rw [Nat.sub_self, List.replicate_zero, List.append_nil, List.take_of_length_le (by rw [xors_len a b (by omega)]; omega)]

set_option maxHeartbeats 800000 in
theorem walk (A : Option Addr) (m0 d0 : Nat) (l0 : List UInt8) (B : Option Addr) (m1 d1 : Nat) (l1 : List UInt8) (w : World) (h0 : Arg w A m0 d0 l0) (h1 : Arg w B m1 d1 l1) :
    Calls Try.prog 4 #[.slice A m0 d0, .slice B m1 d1] w fun e w' => e = .returned (.bool true) ∧ Below w.heap.size w w' := by
  obtain ⟨ha, hac, ham⟩ := h0
  obtain ⟨hb, hbc, hbm⟩ := h1
  obtain ⟨i0, hi, hz0, hz1, hz2⟩ := info_parts u8_info
  go_enter Try.func4, Try.ntmps4
  go_wp2_with fail
  refine Calls.mono (wakes_any _) ?_
  rintro e w1 ⟨rfl, hb1⟩
  go_wp2_with fail
  refine Calls.mono (few_rb _ _ _ _ _ (ha.on hb1) hac ham) ?_
  rintro e w2 ⟨B1, n1, c1, rfl, hr2, hn1, hc1, hm1, hb2⟩
  have hb2' := below_then hb1 hb2
  go_wp2_with fail
  refine Calls.mono (few_rb _ _ _ _ _ (hb.on hb2') hbc hbm) ?_
  rintro e w3 ⟨B2, n2, c2, rfl, hr3, hn2, hc2, hm2, hb3⟩
  have hb3' := below_then hb2' hb3
  have hp3 := hr2.on hb3
  generalize l0.take FEW = q1 at *
  generalize l1.take FEW = q2 at *
  clear hb2' hb1 hb2 hb3 hr2 ha hb
  by_cases hle : n1 ≤ n2
  · have hki : (n1 : Int) ≤ (n2 : Int) := by omega
    have hkf : n1 ≤ 400 := by omega
    have hk1 : n1 ≤ n1 := by omega
    have hk2 : n1 ≤ n2 := by omega
    have hk1i : (0 : Int) ≤ (n1 : Int) := by omega
    have hkc1 : (n1 : Int) ≤ (c1 : Int) := by omega
    have hkc2 : (n1 : Int) ≤ (c2 : Int) := by omega
    have hmk : ∀ W : World, (Instr.makeSlice 26 (.int .i64 (n1 : Int)) (.int .i64 (n1 : Int))).run Try.prog W = .ok (.slice (some ⟨W.heap.size, 0, none⟩) n1 n1) (W.alloc (.cells (madeCells #[.int .u8 0] n1) 5)) := fun W => by
      have := run_make (P := Try.prog) W 26 5 i0 _ Try.underlying26 hi hz0 .i64 .i64 (n1 : Int) (n1 : Int) (by omega) (by omega) (by rw [hz2]; omega) (by omega)
      rw [this, hz1, Nat.mul_one, Int.toNat_natCast]
      rfl
    go_wp2_with fail
    go_quiet (fail)
    obtain ⟨V, hWq⟩ : ∃ V, V = w3.drewN nq := ⟨_, rfl⟩
    have hbW : Below w3.heap.size w3 V := by rw [hWq]; exact below_drewN w3 nq
    rw [← hWq]
    clear hWq
    · skip
      have hbg := below_then hb3' hbW
      have hp : RB V B1 n1 (q1.take n1) := (hp3.on hbW).take n1 hk1
      have hq : RB V B2 n1 (q2.take n1) := (hr3.on hbW).take n1 hk2
      have HPL := hide hp.len
      have HQL := hide hq.len
      generalize q1.take n1 = p at *
      generalize q2.take n1 = q at *
      have HM := hide (linear p q n1 HPL.out HQL.out)
      have hsz := hbg.size
      clear hb3' hbW hp3 hr3
      go_wp2
      go_loopw [31] (fun i wr => ∃ j : Nat, j ≤ n1 ∧ i = .int .i64 j ∧ Hid (wr.heap[V.heap.size]? = some (.cells (mid p q n1 j).toArray 5 (0, 0))) ∧ Hid (Below V.heap.size V wr) ∧ V.heap.size < wr.heap.size) (fun i _ => n1 - (intOf i).toNat)
      case atStart =>
        refine ⟨0, Nat.zero_le _, rfl, hide ?_, hide (below_alloc _ _), by simp⟩
        rw [mid_zero, ← toList_madeCells_one, Array.toArray_toList]
        exact heap_alloc_new V _
      case round =>
        obtain ⟨j, hj, rfl, hblk, hbel, hlt1⟩ := hrel
        by_cases hlt : j < n1
        · have hjp : j < p.length := by rw [HPL.out]; exact hlt
          have hjq : j < q.length := by rw [HQL.out]; exact hlt
          obtain ⟨b1, o1, rfl, hbl1, hcell1⟩ := (hp.on hbel.out).cell hjp
          obtain ⟨b2, o2, rfl, hbl2, hcell2⟩ := (hq.on hbel.out).cell hjq
          have hji0 : (0 : Int) ≤ (j : Int) := by omega
          have hji : (j : Int) < (n1 : Int) := by omega
          have hml := mid_len p q n1 j HPL.out HQL.out hj
          have hset := hide (mid_set p q n1 j HPL.out HQL.out hlt _ rfl)
          have hx : Go.bits .xor .u8 ((p[j]).toNat : Int) ((q[j]).toNat : Int) = (((p[j]) ^^^ (q[j])).toNat : Int) := by
            rw [u8_xor_nat _ _ (p[j]).toNat_lt (q[j]).toNat_lt, UInt8.toNat_xor]
          obtain ⟨u0, hu0⟩ : ∃ u, wr.cell? ⟨V.heap.size, j, none⟩ = some u := ⟨(mid p q n1 j)[j]'(by omega), by rw [cell_of_row _ _ _ _ _ _ hblk.out]; simp [hml, hlt]⟩
          have hf0 : wr.frozen? ⟨V.heap.size, j, none⟩ = false := frozen_of_row _ _ _ _ _ hblk.out
          clear hml
          generalize hxv : (p[j]) ^^^ (q[j]) = xv at *
          generalize hpv : (p[j]).toNat = pv at *
          generalize hqv : (q[j]).toNat = qv at *
          clear hxv hpv hqv
          go_wp2_with fail
          refine Dag.wp_region_facts 11 (Dag.list [Dag.Is (.slice (some ⟨V.heap.size, 0, none⟩) n1 n1), Dag.Is (.int .i64 j), Dag.Is (.slice (some ⟨b1, o1, none⟩) n1 c1), Dag.Is (.int .i64 j), Dag.Is (.pointer (some ⟨b1, o1 + j, none⟩)), Dag.Is (.int .u8 pv), Dag.Is (.slice (some ⟨b2, o2, none⟩) n1 c2), Dag.Is (.int .i64 j), Dag.Is (.pointer (some ⟨b2, o2 + j, none⟩)), Dag.Is (.int .u8 qv), Dag.Is (.int .u8 (xv.toNat : Int))]) (by kernel_rfl) (by kernel_rfl) (Dag.stable_list (by simp [Dag.Stable.is])) ?_ ?_
          · intro vs W hbW
            simp only [Dag.allOps, List.take_succ_cons, List.take_zero, Dag.fill, Act.put, List.setIfInBounds_toArray, List.set_cons_succ, List.set_cons_zero, Dag.deps, Region.binds, Dag.list, Dag.Is, List.getD_cons_zero, List.getD_cons_succ, and_true, forall_const, Nat.reduceAdd, Region.wanted, reduceIte]
            refine ⟨?_, ?_, ?_, ?_, ?_, ?_, ?_, ?_, ?_, ?_, ?_⟩
            · (try intro hd); go_simp; (first | done | exact ⟨Below.refl _ _, rfl⟩ | exact Below.refl _ _)
            · (try intro hd); go_simp; (first | done | exact ⟨Below.refl _ _, rfl⟩ | exact Below.refl _ _)
            · (try intro hd); go_simp; (first | done | exact ⟨Below.refl _ _, rfl⟩ | exact Below.refl _ _)
            · (try intro hd); go_simp; (first | done | exact ⟨Below.refl _ _, rfl⟩ | exact Below.refl _ _)
            · (try intro hd); go_simp; (first | done | exact ⟨Below.refl _ _, rfl⟩ | exact Below.refl _ _)
            · (try intro hd); have hcW := keep_cell hbW hcell1; go_simp; exact Below.refl _ _
            · (try intro hd); go_simp; (first | done | exact ⟨Below.refl _ _, rfl⟩ | exact Below.refl _ _)
            · (try intro hd); go_simp; (first | done | exact ⟨Below.refl _ _, rfl⟩ | exact Below.refl _ _)
            · (try intro hd); go_simp; (first | done | exact ⟨Below.refl _ _, rfl⟩ | exact Below.refl _ _)
            · (try intro hd); have hcW := keep_cell hbW hcell2; go_simp; exact Below.refl _ _
            · (try intro hd); go_simp; (first | done | exact ⟨Below.refl _ _, rfl⟩ | exact Below.refl _ _)
          · intro vs W hbW hk
            simp only [Dag.known, Dag.list, Dag.Is, List.getD_cons_zero, List.getD_cons_succ, and_true] at hk
            obtain ⟨k0, k1, k2, k3, k4, k5, k6, k7, k8, k9, k10⟩ := hk
            simp only [List.take_succ_cons, List.take_zero, List.drop_succ_cons, List.drop_zero, Dag.fill, Act.put, List.setIfInBounds_toArray, List.set_cons_succ, List.set_cons_zero, Nat.reduceAdd, k0, k1, k2, k3, k4, k5, k6, k7, k8, k9, k10]
            clear k0 k1 k2 k3 k4 k5 k6 k7 k8 k9 k10
            have hu1 := keep_cell hbW hu0
            have hf1 := keep_frozen hbW hlt1 hf0
            have hsW := hbW.size
            go_wp2
            go_roundw
            case rel =>
              refine ⟨j + 1, by omega, by go_num, hide ?_, hide ?_, ?_⟩
              · rw [heap_setCell_same _ _ _ (mid p q n1 j).toArray 5 _ (by rw [hbW.block _ hlt1]; exact hblk.out), List.setIfInBounds_toArray, hset.out]
              · exact (hbel.out.trans (hbW.mono hbel.out.size)).setCell (Nat.le_refl _) _
              · simp [World.setCell]; omega
            case measure => simp [intOf]; omega
        · obtain rfl : j = n1 := by omega
          have hblk' := hblk.out
          rw [mid_all p q _ HPL.out HQL.out] at hblk'
          have hR3 : RB wr (some ⟨V.heap.size, 0, none⟩) j (xors p q) := RB.block hblk' (by rw [xors_len p q (by rw [HPL.out, HQL.out]), HPL.out])
          have HR3 := hide hR3
          have hp' := hide (hp.on hbel.out)
          have hq' := hide (hq.on hbel.out)
          clear hblk' hblk hR3 hp hq
          have s1 := hide (Crc.more_lt 0 (nums p))
          have s2 := hide (Crc.more_lt 0 (nums q))
          have s3 := hide (Crc.more_lt 0 (nums (xors p q)))
          have hx1 := u32_xor_nat _ _ s1.out s2.out
          have hx2 := u32_xor_nat _ _ (Crc.xor_lt s1.out s2.out) s3.out
          go_wp2_with fail
          refine Dag.wp_region_facts 12 (Dag.list [Dag.Is (.slice B1 j c1), Dag.Is (.int .u32 (Crc.more 0 (nums p) : Nat)), Dag.Is (.slice B2 j c2), Dag.Is (.int .u32 (Crc.more 0 (nums q) : Nat)), Dag.Is (.int .u32 (Crc.more 0 (nums p) ^^^ Crc.more 0 (nums q) : Nat)), Dag.Is (.slice (some ⟨V.heap.size, 0, none⟩) j j), Dag.Is (.int .u32 (Crc.more 0 (nums (xors p q)) : Nat)), Dag.Is (.int .u32 (Crc.more 0 (nums p) ^^^ Crc.more 0 (nums q) ^^^ Crc.more 0 (nums (xors p q)) : Nat)), Dag.Is (.int .i64 j), Dag.Sl (List.replicate j 0), Dag.Is (.int .u32 (Crc.more 0 (nums (List.replicate j 0)) : Nat)), Dag.Is (.bool true)]) (by kernel_rfl) (by kernel_rfl) (Dag.stable_list (by simp [Dag.Stable.is, Dag.Stable.sl])) ?_ ?_
          · intro vs W hbW
            simp only [Dag.allOps, List.take_succ_cons, List.take_zero, Dag.fill, Act.put, List.setIfInBounds_toArray, List.set_cons_succ, List.set_cons_zero, Dag.deps, Region.binds, Dag.list, Dag.Is, List.getD_cons_zero, List.getD_cons_succ, and_true, forall_const, Nat.reduceAdd, Region.wanted, reduceIte]
            refine ⟨?_, ?_, ?_, ?_, ?_, ?_, ?_, ?_, ?_, ?_, ?_, ?_⟩
            · (try intro hd); go_simp; (first | done | exact ⟨Below.refl _ _, rfl⟩ | exact Below.refl _ _)
            · (try intro hd); go_simp; refine Calls.mono (sum_any _ _ _ _ _ (hp'.out.on hbW) (by omega)) ?_; rintro e w' ⟨rfl, hb'⟩; exact ⟨rfl, hb'⟩
            · (try intro hd); go_simp; (first | done | exact ⟨Below.refl _ _, rfl⟩ | exact Below.refl _ _)
            · (try intro hd); go_simp; refine Calls.mono (sum_any _ _ _ _ _ (hq'.out.on hbW) (by omega)) ?_; rintro e w' ⟨rfl, hb'⟩; exact ⟨rfl, hb'⟩
            · (try intro hd); go_simp; (first | done | exact ⟨Below.refl _ _, rfl⟩ | exact Below.refl _ _)
            · (try intro hd); go_simp; (first | done | exact ⟨Below.refl _ _, rfl⟩ | exact Below.refl _ _)
            · (try intro hd); go_simp; refine Calls.mono (sum_any _ _ _ _ _ (HR3.out.on hbW) (by omega)) ?_; rintro e w' ⟨rfl, hb'⟩; exact ⟨rfl, hb'⟩
            · (try intro hd); go_simp; (first | done | exact ⟨Below.refl _ _, rfl⟩ | exact Below.refl _ _)
            · (try intro hd); go_simp; (first | done | exact ⟨Below.refl _ _, rfl⟩ | exact Below.refl _ _)
            · (try intro hd); go_simp; exact ⟨below_alloc _ _, _, _, _, rfl, Nat.le_refl _, made_zero _ _⟩
            · (try intro hd); obtain ⟨⟨A', n', c', hv, hc', hr'⟩, h3⟩ := hd; have l4 : n' ≤ 400 := (by have := hr'.len; rw [List.length_replicate] at this; omega); go_simp; refine Calls.mono (sum_any _ _ _ _ _ hr' (by omega)) ?_; rintro e w' ⟨rfl, hb'⟩; exact ⟨rfl, hb'⟩
            · (try intro hd); go_simp; exact ⟨Below.refl _ _, by rw [HM.out]⟩
          · intro vs W hbW hk
            simp only [Dag.known, Dag.list, Dag.Is, List.getD_cons_zero, List.getD_cons_succ, and_true] at hk
            obtain ⟨k0, k1, k2, k3, k4, k5, k6, k7, k8, k9, k10, k11⟩ := hk
            simp only [List.take_succ_cons, List.take_zero, List.drop_succ_cons, List.drop_zero, Dag.fill, Act.put, List.setIfInBounds_toArray, List.set_cons_succ, List.set_cons_zero, Nat.reduceAdd, k0, k1, k2, k3, k4, k5, k6, k7, k8, k10, k11]
            clear k0 k1 k2 k3 k4 k5 k6 k7 k8 k10 k11
            go_wp2
            go_ret
            exact ⟨rfl, below_then (below_then hbg hbel.out) hbW⟩
  · have hki : ¬ (n1 : Int) ≤ (n2 : Int) := by omega
    have hkf : n2 ≤ 400 := by omega
    have hk1 : n2 ≤ n1 := by omega
    have hk2 : n2 ≤ n2 := by omega
    have hk1i : (0 : Int) ≤ (n2 : Int) := by omega
    have hkc1 : (n2 : Int) ≤ (c1 : Int) := by omega
    have hkc2 : (n2 : Int) ≤ (c2 : Int) := by omega
    have hmk : ∀ W : World, (Instr.makeSlice 26 (.int .i64 (n2 : Int)) (.int .i64 (n2 : Int))).run Try.prog W = .ok (.slice (some ⟨W.heap.size, 0, none⟩) n2 n2) (W.alloc (.cells (madeCells #[.int .u8 0] n2) 5)) := fun W => by
      have := run_make (P := Try.prog) W 26 5 i0 _ Try.underlying26 hi hz0 .i64 .i64 (n2 : Int) (n2 : Int) (by omega) (by omega) (by rw [hz2]; omega) (by omega)
      rw [this, hz1, Nat.mul_one, Int.toNat_natCast]
      rfl
    go_wp2_with fail
    go_quiet (fail)
    obtain ⟨V, hWq⟩ : ∃ V, V = w3.drewN nq := ⟨_, rfl⟩
    have hbW : Below w3.heap.size w3 V := by rw [hWq]; exact below_drewN w3 nq
    rw [← hWq]
    clear hWq
    · skip
      have hbg := below_then hb3' hbW
      have hp : RB V B1 n2 (q1.take n2) := (hp3.on hbW).take n2 hk1
      have hq : RB V B2 n2 (q2.take n2) := (hr3.on hbW).take n2 hk2
      have HPL := hide hp.len
      have HQL := hide hq.len
      generalize q1.take n2 = p at *
      generalize q2.take n2 = q at *
      have HM := hide (linear p q n2 HPL.out HQL.out)
      have hsz := hbg.size
      clear hb3' hbW hp3 hr3
      go_wp2
      go_loopw [31] (fun i wr => ∃ j : Nat, j ≤ n2 ∧ i = .int .i64 j ∧ Hid (wr.heap[V.heap.size]? = some (.cells (mid p q n2 j).toArray 5 (0, 0))) ∧ Hid (Below V.heap.size V wr) ∧ V.heap.size < wr.heap.size) (fun i _ => n2 - (intOf i).toNat)
      case atStart =>
        refine ⟨0, Nat.zero_le _, rfl, hide ?_, hide (below_alloc _ _), by simp⟩
        rw [mid_zero, ← toList_madeCells_one, Array.toArray_toList]
        exact heap_alloc_new V _
      case round =>
        obtain ⟨j, hj, rfl, hblk, hbel, hlt1⟩ := hrel
        by_cases hlt : j < n2
        · have hjp : j < p.length := by rw [HPL.out]; exact hlt
          have hjq : j < q.length := by rw [HQL.out]; exact hlt
          obtain ⟨b1, o1, rfl, hbl1, hcell1⟩ := (hp.on hbel.out).cell hjp
          obtain ⟨b2, o2, rfl, hbl2, hcell2⟩ := (hq.on hbel.out).cell hjq
          have hji0 : (0 : Int) ≤ (j : Int) := by omega
          have hji : (j : Int) < (n2 : Int) := by omega
          have hml := mid_len p q n2 j HPL.out HQL.out hj
          have hset := hide (mid_set p q n2 j HPL.out HQL.out hlt _ rfl)
          have hx : Go.bits .xor .u8 ((p[j]).toNat : Int) ((q[j]).toNat : Int) = (((p[j]) ^^^ (q[j])).toNat : Int) := by
            rw [u8_xor_nat _ _ (p[j]).toNat_lt (q[j]).toNat_lt, UInt8.toNat_xor]
          obtain ⟨u0, hu0⟩ : ∃ u, wr.cell? ⟨V.heap.size, j, none⟩ = some u := ⟨(mid p q n2 j)[j]'(by omega), by rw [cell_of_row _ _ _ _ _ _ hblk.out]; simp [hml, hlt]⟩
          have hf0 : wr.frozen? ⟨V.heap.size, j, none⟩ = false := frozen_of_row _ _ _ _ _ hblk.out
          clear hml
          generalize hxv : (p[j]) ^^^ (q[j]) = xv at *
          generalize hpv : (p[j]).toNat = pv at *
          generalize hqv : (q[j]).toNat = qv at *
          clear hxv hpv hqv
          go_wp2_with fail
          refine Dag.wp_region_facts 11 (Dag.list [Dag.Is (.slice (some ⟨V.heap.size, 0, none⟩) n2 n2), Dag.Is (.int .i64 j), Dag.Is (.slice (some ⟨b1, o1, none⟩) n2 c1), Dag.Is (.int .i64 j), Dag.Is (.pointer (some ⟨b1, o1 + j, none⟩)), Dag.Is (.int .u8 pv), Dag.Is (.slice (some ⟨b2, o2, none⟩) n2 c2), Dag.Is (.int .i64 j), Dag.Is (.pointer (some ⟨b2, o2 + j, none⟩)), Dag.Is (.int .u8 qv), Dag.Is (.int .u8 (xv.toNat : Int))]) (by kernel_rfl) (by kernel_rfl) (Dag.stable_list (by simp [Dag.Stable.is])) ?_ ?_
          · intro vs W hbW
            simp only [Dag.allOps, List.take_succ_cons, List.take_zero, Dag.fill, Act.put, List.setIfInBounds_toArray, List.set_cons_succ, List.set_cons_zero, Dag.deps, Region.binds, Dag.list, Dag.Is, List.getD_cons_zero, List.getD_cons_succ, and_true, forall_const, Nat.reduceAdd, Region.wanted, reduceIte]
            refine ⟨?_, ?_, ?_, ?_, ?_, ?_, ?_, ?_, ?_, ?_, ?_⟩
            · (try intro hd); go_simp; (first | done | exact ⟨Below.refl _ _, rfl⟩ | exact Below.refl _ _)
            · (try intro hd); go_simp; (first | done | exact ⟨Below.refl _ _, rfl⟩ | exact Below.refl _ _)
            · (try intro hd); go_simp; (first | done | exact ⟨Below.refl _ _, rfl⟩ | exact Below.refl _ _)
            · (try intro hd); go_simp; (first | done | exact ⟨Below.refl _ _, rfl⟩ | exact Below.refl _ _)
            · (try intro hd); go_simp; (first | done | exact ⟨Below.refl _ _, rfl⟩ | exact Below.refl _ _)
            · (try intro hd); have hcW := keep_cell hbW hcell1; go_simp; exact Below.refl _ _
            · (try intro hd); go_simp; (first | done | exact ⟨Below.refl _ _, rfl⟩ | exact Below.refl _ _)
            · (try intro hd); go_simp; (first | done | exact ⟨Below.refl _ _, rfl⟩ | exact Below.refl _ _)
            · (try intro hd); go_simp; (first | done | exact ⟨Below.refl _ _, rfl⟩ | exact Below.refl _ _)
            · (try intro hd); have hcW := keep_cell hbW hcell2; go_simp; exact Below.refl _ _
            · (try intro hd); go_simp; (first | done | exact ⟨Below.refl _ _, rfl⟩ | exact Below.refl _ _)
          · intro vs W hbW hk
            simp only [Dag.known, Dag.list, Dag.Is, List.getD_cons_zero, List.getD_cons_succ, and_true] at hk
            obtain ⟨k0, k1, k2, k3, k4, k5, k6, k7, k8, k9, k10⟩ := hk
            simp only [List.take_succ_cons, List.take_zero, List.drop_succ_cons, List.drop_zero, Dag.fill, Act.put, List.setIfInBounds_toArray, List.set_cons_succ, List.set_cons_zero, Nat.reduceAdd, k0, k1, k2, k3, k4, k5, k6, k7, k8, k9, k10]
            clear k0 k1 k2 k3 k4 k5 k6 k7 k8 k9 k10
            have hu1 := keep_cell hbW hu0
            have hf1 := keep_frozen hbW hlt1 hf0
            have hsW := hbW.size
            go_wp2
            go_roundw
            case rel =>
              refine ⟨j + 1, by omega, by go_num, hide ?_, hide ?_, ?_⟩
              · rw [heap_setCell_same _ _ _ (mid p q n2 j).toArray 5 _ (by rw [hbW.block _ hlt1]; exact hblk.out), List.setIfInBounds_toArray, hset.out]
              · exact (hbel.out.trans (hbW.mono hbel.out.size)).setCell (Nat.le_refl _) _
              · simp [World.setCell]; omega
            case measure => simp [intOf]; omega
        · obtain rfl : j = n2 := by omega
          have hblk' := hblk.out
          rw [mid_all p q _ HPL.out HQL.out] at hblk'
          have hR3 : RB wr (some ⟨V.heap.size, 0, none⟩) j (xors p q) := RB.block hblk' (by rw [xors_len p q (by rw [HPL.out, HQL.out]), HPL.out])
          have HR3 := hide hR3
          have hp' := hide (hp.on hbel.out)
          have hq' := hide (hq.on hbel.out)
          clear hblk' hblk hR3 hp hq
          have s1 := hide (Crc.more_lt 0 (nums p))
          have s2 := hide (Crc.more_lt 0 (nums q))
          have s3 := hide (Crc.more_lt 0 (nums (xors p q)))
          have hx1 := u32_xor_nat _ _ s1.out s2.out
          have hx2 := u32_xor_nat _ _ (Crc.xor_lt s1.out s2.out) s3.out
          go_wp2_with fail
          refine Dag.wp_region_facts 12 (Dag.list [Dag.Is (.slice B1 j c1), Dag.Is (.int .u32 (Crc.more 0 (nums p) : Nat)), Dag.Is (.slice B2 j c2), Dag.Is (.int .u32 (Crc.more 0 (nums q) : Nat)), Dag.Is (.int .u32 (Crc.more 0 (nums p) ^^^ Crc.more 0 (nums q) : Nat)), Dag.Is (.slice (some ⟨V.heap.size, 0, none⟩) j j), Dag.Is (.int .u32 (Crc.more 0 (nums (xors p q)) : Nat)), Dag.Is (.int .u32 (Crc.more 0 (nums p) ^^^ Crc.more 0 (nums q) ^^^ Crc.more 0 (nums (xors p q)) : Nat)), Dag.Is (.int .i64 j), Dag.Sl (List.replicate j 0), Dag.Is (.int .u32 (Crc.more 0 (nums (List.replicate j 0)) : Nat)), Dag.Is (.bool true)]) (by kernel_rfl) (by kernel_rfl) (Dag.stable_list (by simp [Dag.Stable.is, Dag.Stable.sl])) ?_ ?_
          · intro vs W hbW
            simp only [Dag.allOps, List.take_succ_cons, List.take_zero, Dag.fill, Act.put, List.setIfInBounds_toArray, List.set_cons_succ, List.set_cons_zero, Dag.deps, Region.binds, Dag.list, Dag.Is, List.getD_cons_zero, List.getD_cons_succ, and_true, forall_const, Nat.reduceAdd, Region.wanted, reduceIte]
            refine ⟨?_, ?_, ?_, ?_, ?_, ?_, ?_, ?_, ?_, ?_, ?_, ?_⟩
            · (try intro hd); go_simp; (first | done | exact ⟨Below.refl _ _, rfl⟩ | exact Below.refl _ _)
            · (try intro hd); go_simp; refine Calls.mono (sum_any _ _ _ _ _ (hp'.out.on hbW) (by omega)) ?_; rintro e w' ⟨rfl, hb'⟩; exact ⟨rfl, hb'⟩
            · (try intro hd); go_simp; (first | done | exact ⟨Below.refl _ _, rfl⟩ | exact Below.refl _ _)
            · (try intro hd); go_simp; refine Calls.mono (sum_any _ _ _ _ _ (hq'.out.on hbW) (by omega)) ?_; rintro e w' ⟨rfl, hb'⟩; exact ⟨rfl, hb'⟩
            · (try intro hd); go_simp; (first | done | exact ⟨Below.refl _ _, rfl⟩ | exact Below.refl _ _)
            · (try intro hd); go_simp; (first | done | exact ⟨Below.refl _ _, rfl⟩ | exact Below.refl _ _)
            · (try intro hd); go_simp; refine Calls.mono (sum_any _ _ _ _ _ (HR3.out.on hbW) (by omega)) ?_; rintro e w' ⟨rfl, hb'⟩; exact ⟨rfl, hb'⟩
            · (try intro hd); go_simp; (first | done | exact ⟨Below.refl _ _, rfl⟩ | exact Below.refl _ _)
            · (try intro hd); go_simp; (first | done | exact ⟨Below.refl _ _, rfl⟩ | exact Below.refl _ _)
            · (try intro hd); go_simp; exact ⟨below_alloc _ _, _, _, _, rfl, Nat.le_refl _, made_zero _ _⟩
            · (try intro hd); obtain ⟨⟨A', n', c', hv, hc', hr'⟩, h3⟩ := hd; have l4 : n' ≤ 400 := (by have := hr'.len; rw [List.length_replicate] at this; omega); go_simp; refine Calls.mono (sum_any _ _ _ _ _ hr' (by omega)) ?_; rintro e w' ⟨rfl, hb'⟩; exact ⟨rfl, hb'⟩
            · (try intro hd); go_simp; exact ⟨Below.refl _ _, by rw [HM.out]⟩
          · intro vs W hbW hk
            simp only [Dag.known, Dag.list, Dag.Is, List.getD_cons_zero, List.getD_cons_succ, and_true] at hk
            obtain ⟨k0, k1, k2, k3, k4, k5, k6, k7, k8, k9, k10, k11⟩ := hk
            simp only [List.take_succ_cons, List.take_zero, List.drop_succ_cons, List.drop_zero, Dag.fill, Act.put, List.setIfInBounds_toArray, List.set_cons_succ, List.set_cons_zero, Nat.reduceAdd, k0, k1, k2, k3, k4, k5, k6, k7, k8, k10, k11]
            clear k0 k1 k2 k3 k4 k5 k6 k7 k8 k10 k11
            go_wp2
            go_ret
            exact ⟨rfl, below_then (below_then hbg hbel.out) hbW⟩

/-! ### the row's step, written by program after the guide's skeleton -/
theorem own : ownKnob Try.prog.godebug = none := by kernel_rfl
theorem laidOut : laidOutB Try.prog = true := by kernel_rfl
set_option maxRecDepth 100000 in
theorem lifted (os : Os) (started : os.Started) (H : Type) (enc : TypeId × Value → H) :
    ReturnsInHanded {} Try.checked os 4 .any (Rows.crcLinearSpec.pre6 enc Try.prog Try.f4 Rows.crcLinearRow.domain false) (Rows.crcLinearSpec.post enc Try.prog Try.f4 false true false false) := by
  refine returnsInHanded_of_change (C := Try.checked) own started (by kernel_rfl) Try.func4
    (ChangeSpec.witness6 (enc := enc) (C := Try.checked) false ⟨#[], #[.slice none 0 0, .slice none 0 0], []⟩ 8 (by kernel_rfl) (by kernel_rfl) (by kernel_rfl) (by kernel_rfl)) ?_
  intro W base args ds gs before hval0 hW hcnd _
  have hval : ∀ (j : Nat) t v, Try.f4.params[j]? = some t → args[j]? = some v → Value.okWide Try.prog W .any base t v := hval0
  have hW' := hW
  obtain ⟨p, q, hA0, hV, rfl, hfz, hnd⟩ := hW
  have hA : DataW.TrodAll enc Try.prog W 0 (fun _ => true) true Try.f4.params.toList args.toList ds p := hA0
  rw [Try.params4] at hA hval
  obtain ⟨v0, vs0, d0, ds0, p0, q0, hargs, rfl, rfl, h0, r0⟩ := trodAll_cons hA
  obtain ⟨v1, vs1, d1, ds1, p1, q1, rfl, rfl, rfl, h1, r1⟩ := trodAll_cons r0
  obtain ⟨rfl, rfl, rfl⟩ := trodAll_nil r1
  obtain rfl : args = #[v0, v1] := by cases args; simp_all
  obtain ⟨rfl, rfl⟩ := trodVars_none hV
  have k0 := h0
  have lt0 := trod_lt' k0
  obtain ⟨a0, n0, c0, l0, rfl, w0⟩ := arg_bytes Try.underlying26 Try.underlying5 (by kernel_rfl) (hval 0 26 v0 rfl rfl) h0
  have k1 := h1
  have lt1 := trod_lt' k1
  obtain ⟨a1, n1, c1, l1, rfl, w1⟩ := arg_bytes Try.underlying26 Try.underlying5 (by kernel_rfl) (hval 1 26 v1 rfl rfl) h1
  clear hA0 hval0
  refine (walk a0 n0 c0 l0 a1 n1 c1 l1 W w0 w1).mono fun e W' ⟨he, bel⟩ => ?_
  subst he
  exact ⟨_, rfl, _, _, _, [], _, [], hW', trodAll_mk1 (shut_bool Try.underlying4 _), (trodAll_cons_mk (Below.trod laidOut (by kernel_rfl) (of_decide_eq_true (by kernel_rfl)) k0 bel lt0) (trodAll_cons_mk (Below.trod laidOut (by kernel_rfl) (of_decide_eq_true (by kernel_rfl)) k1 bel lt1) trodAll_mk0)), rfl, bel.frame _, fun h => by cases h⟩

theorem over : Rows.crcLinearRow.holds Try.pinned (OpenSpec.ofChange Rows.crcLinearSpec) :=
  OpenClaim.holds_of_wide 4 Try.f4 rfl rfl rfl rfl rfl rfl rfl ⟨rfl, rfl, rfl, rfl, rfl⟩ rfl rfl rfl rfl rfl (by kernel_rfl) Try.func4 (by kernel_rfl)
    (of_decide_eq_true (by kernel_rfl)) (by unfold Func.isWrapper; first | (rw [if_pos (by decide +kernel)]; kernel_rfl) | (rw [if_neg (by decide +kernel)]; exact ⟨rfl, rfl⟩))
    (fun os started H enc _ => lifted os started H enc)

theorem proved : Rows.CrcLinearSaid := over
end Go.Proofs.Ytjnjdhnibiibpaa.LawCrcLinear
