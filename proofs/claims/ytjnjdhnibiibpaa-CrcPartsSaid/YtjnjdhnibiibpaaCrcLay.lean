/- Walks of package crc: Lay, Holds. -/
import Derived.Test.YtjnjdhnibiibpaaCrcProg
import Derived.Test.YtjnjdhnibiibpaaSlices
import Derived.Test.YtjnjdhnibiibpaaDag
import Derived.Laws.MakeOwn
import Derived.Laws.CopyOwn
import Derived.Laws.ShiftsVarLaws
namespace Go.Proofs.Ytjnjdhnibiibpaa
open Go.RowKit
attribute [local go_sem] Dag.gives

theorem size_u8 : (Try.prog.info? 5).map (·.size) = some 1 := by kernel_rfl

theorem lay_any (A : Option Addr) (n c : Nat) (l : List UInt8) (w : World) (hA : RB w A n l) (hn : n ≤ 65536) :
    Calls Try.prog 17 #[.slice A n c] w fun e w' => ∃ v, e = .returned v ∧ w'.ownsRow w.heap.size 5 1 v (n + 4) (bytes l ++ bytes (Crc.laid (Crc.more 0 (nums l)))) ∧ Below w.heap.size w w' := by
  obtain ⟨i0, hi, hz0, hz1, hz2⟩ := info_parts u8_info
  have hmk : ∀ W : World, (Instr.makeSlice 26 (.int .i64 (n : Int)) (.int .i64 ((n : Int) + 4))).run Try.prog W = .ok (.slice (some ⟨W.heap.size, 0, none⟩) n (n + 4)) (W.alloc (.cells (madeCells #[.int .u8 0] (n + 4)) 5)) := fun W => by
    have := run_make (P := Try.prog) W 26 5 i0 _ Try.underlying26 hi hz0 .i64 .i64 (n : Int) ((n : Int) + 4) (by omega) (by omega) (by rw [hz2]; omega) (by omega)
    rw [this, hz1, Nat.mul_one, Int.toNat_natCast, show ((n : Int) + 4).toNat = n + 4 by omega]
    rfl
  have HN := hide hA.len
  obtain ⟨W1, hcp, hg1, hb1, hs1⟩ := run_copy_reads (P := Try.prog) (w.alloc (.cells (madeCells #[.int .u8 0] (n + 4)) 5)) 26 26 3 5 5 Try.underlying26 size_u8 w.heap.size 0 n (n + 4) w.heap.size A n c (bytes l) _ (heap_alloc_new w _)
    (Reads.alloc hA (Nat.le_refl _) _) (Nat.le_refl _) (by rw [size_madeCells]; omega) bytes_one
  have hown : W1.ownsRow w.heap.size 5 1 (.slice (some ⟨w.heap.size, 0, none⟩) n (n + 4)) n (bytes l) := by
    refine ⟨by rw [bytes_len, HN.out, Nat.mul_one], .inr ⟨w.heap.size, n + 4, _, rfl, Nat.le_refl _, hg1, by omega, by unfold maxLen; omega, ?_, ?_⟩⟩
    · simp [bytes_len, HN.out, size_madeCells]
    · simp only [List.take_zero, List.nil_append, Nat.mul_one]
      rw [List.take_left' (by rw [bytes_len, HN.out])]
  have hbel : Below w.heap.size w W1 := (below_alloc w _).trans hb1
  have hR := hide (hA.on hbel)
  have HC := hide hg1
  have HO := hide hown
  have HB := hide hbel
  have hsz : w.heap.size < W1.heap.size := by rw [hs1]; simp
  clear hg1 hown hbel hb1 hs1
  go_enter Try.func17, Try.ntmps17
  go_wp2_with (go_at_call 13; refine (sum_any _ _ _ l _ hR.out hn).mono ?_; rintro e w2 ⟨rfl, hb2⟩)
  have hS := hide (Crc.more_lt 0 (nums l))
  generalize hse : Crc.more 0 (nums l) = s at *
  have HSE := hide hse
  clear hse
  have hown2 : w2.ownsRow w.heap.size 5 1 (.slice (some ⟨w.heap.size, 0, none⟩) n (n + 4)) (n + 0) (bytes l ++ bytes ((Crc.laid s).take 0)) := by
    have := HO.out.kept (row := none) ⟨hb2.os, hb2.tape, hb2.output, hb2.size, fun k hk _ => hb2.block k hk⟩ (.inr (by simp [Value.ownBlock]))
    simpa [bytes_nil] using this
  have hbel2 : Below w.heap.size w w2 := HB.out.trans (hb2.mono (Nat.le_of_lt hsz))
  go_loopw [3, 5] (fun v i wr => ∃ k : Nat, k ≤ 4 ∧ i = .int .i64 k ∧ Hid (wr.ownsRow w.heap.size 5 1 v (n + k) (bytes l ++ bytes ((Crc.laid s).take k))) ∧ Hid (Below w.heap.size w wr)) (fun _ i _ => 4 - (intOf i).toNat)
  case atStart => exact ⟨0, by omega, rfl, hide hown2, hide hbel2⟩
  case round =>
    clear hown2 hbel2
    obtain ⟨k, hk, rfl, ho, hb⟩ := hrel
    by_cases hlt : k < 4
    · have HT := hide (Crc.laid_take s k hlt)
      have hval : ((s : Int) / 2 ^ (8 * k) % 256) = (((Crc.laidAt s k).toNat : Nat) : Int) := by
        rw [Crc.laidAt, UInt8.toNat_ofNat']
        simp
      go_wp2_with (at_builtin; refine wpList_append_reads rfl (.tmp 21) (.tmp 27) _ rfl w.heap.size 5 i0 (.int .u8 0) 1 1 Try.underlying26 hi hz0 hz1 hz2 rfl (by omega) u3 (n + k) (bytes l ++ bytes ((Crc.laid s).take k)) rfl (ho.out.alloc _) (wr.heap.size + 1) (some ⟨wr.heap.size, 0, none⟩) 1 1 _ rfl (by exact Reads.one wr _ _) (by intro u hu; obtain rfl := List.mem_singleton.1 hu; rfl) (by unfold maxLen; omega) (by omega) (by have := hb.out.size; simp; omega) ?_; intro v1 w3 hown3 hg3 hat3)
      have hsz3 := hb.out.size
      go_roundw
      case rel =>
        refine ⟨k + 1, by omega, by go_num, hide ?_, hide ?_⟩
        · rw [HT.out, bytes_append, ← List.append_assoc]
          exact hown3
        · exact (hb.out.alloc hsz3 _).grown hg3 (by simp; omega) fun j hj => (ho.out.lt j hj).1
      case measure => simp [intOf]; omega
    · obtain rfl : k = 4 := by omega
      go_wp2
      go_ret
      exact ⟨u3, rfl, by rw [HSE.out]; exact ho.out, hb.out⟩

/-- the sealed sequences -/
def Crc.holds (l : List UInt8) : Bool := decide (4 ≤ l.length) && decide (l.take (l.length - 4) ++ Crc.laid (Crc.more 0 (nums (l.take (l.length - 4)))) = l)

theorem holds_any (A : Option Addr) (n c : Nat) (l : List UInt8) (w : World) (hA : RB w A n l) (hn : n ≤ 65536) (hc : n ≤ c) :
    Calls Try.prog 19 #[.slice A n c] w fun e w' => e = .returned (.bool (Crc.holds l)) ∧ Below w.heap.size w w' := by
  have HN := hide hA.len
  by_cases h4 : 4 ≤ n
  · have t1 : decide ((0 : Int) ≤ (n : Int) - 4) = true := by simp; omega
    go_enter Try.func19, Try.ntmps19
    have hle : (n : Int) - 4 ≤ (c : Int) := by omega
    have h4i : (4 : Int) ≤ (n : Int) := by omega
    have hmx : (n : Int) - 4 ≤ max ((n : Int) - 4) 0 := by omega
    have hto : ((n : Int) - 4).toNat = n - 4 := by omega
    have hB : l.take (n - 4) = l.take (l.length - 4) := by rw [HN.out]
    obtain ⟨q, hq⟩ : ∃ q, q = l.take (n - 4) := ⟨_, rfl⟩
    have HQ := hide hq
    have hRq : RB w A (n - 4) q := by rw [hq]; exact hA.take _ (by omega)
    clear hq hB
    go_wp2_with fail
    refine Dag.wp_region_facts 13 (Dag.list [Dag.Is (.int .i64 ((n : Int) - 4)), Dag.Is (.bool true), Dag.Is (.bool true), Dag.Is (.slice A n c), Dag.Is (.int .i64 ((n : Int) - 4)), Dag.Is (.int .i64 ((n : Int) - 4)), Dag.Is (.slice A (n - 4) (n - 4)), Dag.Sl (q ++ Crc.laid (Crc.more 0 (nums q))), Dag.Is (.string (str (q ++ Crc.laid (Crc.more 0 (nums q))))), Dag.Is (.slice A n c), Dag.Is (.string (str l)), Dag.Is (.bool (decide (q ++ Crc.laid (Crc.more 0 (nums q)) = l))), Dag.Is (.bool (decide (q ++ Crc.laid (Crc.more 0 (nums q)) = l)))]) (by kernel_rfl) (by kernel_rfl) (Dag.stable_list (by simp [Dag.Stable.is, Dag.Stable.sl])) ?_ ?_
    · intro vs W hbW
      simp only [Dag.allOps, List.take_succ_cons, List.take_zero, Dag.fill, Act.put, List.setIfInBounds_toArray, List.set_cons_succ, List.set_cons_zero, Dag.deps, Region.binds, Dag.list, Dag.Is, List.getD_cons_zero, List.getD_cons_succ, and_true, forall_const, Nat.reduceAdd, Region.wanted, reduceIte]
      refine ⟨?_, ?_, ?_, ?_, ?_, ?_, ?_, ?_, ?_, ?_, ?_, ?_, ?_⟩
      · (try intro hd); go_simp; (first | done | exact ⟨Below.refl _ _, rfl⟩ | exact Below.refl _ _)
      · (try intro hd); go_simp; (first | done | exact ⟨Below.refl _ _, rfl⟩ | exact Below.refl _ _)
      · (try intro hd); go_simp; (first | done | exact ⟨Below.refl _ _, rfl⟩ | exact Below.refl _ _)
      · (try intro hd); go_simp; (first | done | exact ⟨Below.refl _ _, rfl⟩ | exact Below.refl _ _)
      · (try intro hd); go_simp; (first | done | exact ⟨Below.refl _ _, rfl⟩ | exact Below.refl _ _)
      · (try intro hd); go_simp; (first | done | exact ⟨Below.refl _ _, rfl⟩ | exact Below.refl _ _)
      · (try intro hd); go_simp; (first | done | exact ⟨Below.refl _ _, rfl⟩ | exact Below.refl _ _)
      · (try intro hd); go_simp; refine (lay_any A _ _ q _ (hRq.on hbW) (by omega)).mono ?_; rintro e w' ⟨v, rfl, ho, hb⟩; obtain ⟨A', c', rfl, hc', _, hr⟩ := own_slice ho; exact ⟨_, rfl, hb, A', _, c', rfl, hc', by rw [RB, bytes_append]; exact hr⟩
      · (try intro hd); obtain ⟨⟨A', n', c', hv, hc', hr⟩, h2⟩ := hd; have hrun := run_str (P := Try.prog) W 26 9 5 A' n' c' _ hr Try.underlying26 Try.underlying5 Try.underlying9; go_simp; exact Below.refl _ _
      · (try intro hd); go_simp; (first | done | exact ⟨Below.refl _ _, rfl⟩ | exact Below.refl _ _)
      · (try intro hd); have hrun := run_str (P := Try.prog) W 26 9 5 A n c _ (hA.on hbW) Try.underlying26 Try.underlying5 Try.underlying9; go_simp; exact Below.refl _ _
      · (try intro hd); have hs := str_beq (q ++ Crc.laid (Crc.more 0 (nums q))) l; go_simp; exact Below.refl _ _
      · (try intro hd); go_simp; (first | done | exact ⟨Below.refl _ _, rfl⟩ | exact Below.refl _ _)
    · intro vs W hbW hk
      simp only [Dag.known, Dag.list, Dag.Is, List.getD_cons_zero, List.getD_cons_succ, and_true] at hk
      obtain ⟨k0, k1, k2, k3, k4, k5, k6, k7, k8, k9, k10, k11, k12⟩ := hk
      simp only [List.take_succ_cons, List.take_zero, List.drop_succ_cons, List.drop_zero, Dag.fill, Act.put, List.setIfInBounds_toArray, List.set_cons_succ, List.set_cons_zero, Nat.reduceAdd, k0, k1, k2, k3, k4, k5, k6, k8, k9, k10, k11, k12]
      clear k0 k1 k2 k3 k4 k5 k6 k8 k9 k10 k11 k12
      go_wp2
      go_ret
      refine ⟨ret_bool ?_, hbW⟩
      unfold Crc.holds
      rw [HN.out, ← HQ.out, show decide (4 ≤ n) = true by simpa using h4]
      rfl
  · have t1 : decide ((0 : Int) ≤ (n : Int) - 4) = false := by simp; omega
    go_enter Try.func19, Try.ntmps19
    have h4i : ¬ (4 : Int) ≤ (n : Int) := by omega
    go_wp2_with fail
    refine Dag.wp_region_facts 13 (Dag.list [Dag.Is (.int .i64 ((n : Int) - 4)), Dag.Is (.bool false), Dag.Is (.bool false), Dag.Any, Dag.Any, Dag.Any, Dag.Any, Dag.Any, Dag.Any, Dag.Any, Dag.Any, Dag.Any, Dag.Is (.bool false)]) (by kernel_rfl) (by kernel_rfl) (Dag.stable_list (by simp [Dag.Stable.is, Dag.Stable.any])) ?_ ?_
    · intro vs W hbW
      simp only [Dag.allOps, List.take_succ_cons, List.take_zero, Dag.fill, Act.put, List.setIfInBounds_toArray, List.set_cons_succ, List.set_cons_zero, Dag.deps, Region.binds, Dag.list, Dag.Is, Dag.Any, List.getD_cons_zero, List.getD_cons_succ, and_true, forall_const, Nat.reduceAdd, Region.wanted, reduceIte]
      refine ⟨?_, ?_, ?_, ?_, ?_, ?_, ?_, ?_, ?_, ?_, ?_, ?_, ?_⟩
      · (try intro hd); go_simp; (first | done | exact ⟨Below.refl _ _, rfl⟩ | exact Below.refl _ _)
      · (try intro hd); go_simp; (first | done | exact ⟨Below.refl _ _, rfl⟩ | exact Below.refl _ _)
      · (try intro hd); go_simp; (first | done | exact ⟨Below.refl _ _, rfl⟩ | exact Below.refl _ _)
      · (try intro hd); go_simp; (first | done | exact ⟨Below.refl _ _, rfl⟩ | exact Below.refl _ _)
      · (try intro hd); go_simp; (first | done | exact ⟨Below.refl _ _, rfl⟩ | exact Below.refl _ _)
      · (try intro hd); go_simp; (first | done | exact ⟨Below.refl _ _, rfl⟩ | exact Below.refl _ _)
      · (try intro hd); go_simp; (first | done | exact ⟨Below.refl _ _, rfl⟩ | exact Below.refl _ _)
      · (try intro hd); go_simp; (first | done | exact ⟨Below.refl _ _, rfl⟩ | exact Below.refl _ _)
      · (try intro hd); go_simp; (first | done | exact ⟨Below.refl _ _, rfl⟩ | exact Below.refl _ _)
      · (try intro hd); go_simp; (first | done | exact ⟨Below.refl _ _, rfl⟩ | exact Below.refl _ _)
      · (try intro hd); go_simp; (first | done | exact ⟨Below.refl _ _, rfl⟩ | exact Below.refl _ _)
      · (try intro hd); go_simp; (first | done | exact ⟨Below.refl _ _, rfl⟩ | exact Below.refl _ _)
      · (try intro hd); go_simp; (first | done | exact ⟨Below.refl _ _, rfl⟩ | exact Below.refl _ _)
    · intro vs W hbW hk
      simp only [Dag.known, Dag.list, Dag.Is, Dag.Any, List.getD_cons_zero, List.getD_cons_succ, and_true] at hk
      obtain ⟨k0, k1, k2, k3, k4, k5, k6, k7, k8, k9, k10, k11, k12⟩ := hk
      simp only [List.take_succ_cons, List.take_zero, List.drop_succ_cons, List.drop_zero, Dag.fill, Act.put, List.setIfInBounds_toArray, List.set_cons_succ, List.set_cons_zero, Nat.reduceAdd, k0, k1, k2, k12]
      clear k0 k1 k2 k12
      go_wp2
      go_ret
      refine ⟨ret_bool ?_, hbW⟩
      unfold Crc.holds
      rw [HN.out, show decide (4 ≤ n) = false by simpa using h4]
      rfl
end Go.Proofs.Ytjnjdhnibiibpaa
