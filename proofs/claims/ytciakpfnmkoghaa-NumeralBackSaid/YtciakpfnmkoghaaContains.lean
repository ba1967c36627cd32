/- Walks of the library's functions on slices of bytes: Index, Contains. -/
import Derived.Test.YtciakpfnmkoghaaSlices
namespace Go.Proofs.Ytciakpfnmkoghaa
open Go.RowKit

def IndexAs (l : List UInt8) (x : UInt8) (w : World) (e : Ending) (w' : World) : Prop := (∃ k : Int, e = .returned (.int .i64 k) ∧ (decide (0 ≤ k) = l.contains x) ∧ -1 ≤ k ∧ k ≤ l.length) ∧ ∃ q, w' = w.drewN q
theorem index_any (A : Option Addr) (n c : Nat) (l : List UInt8) (x : UInt8) (w : World) (h : RB w A n l) (hn : n ≤ 1048576) :
    Calls Try.prog 25 #[.slice A n c, .int .u8 (x.toNat : Int)] w (IndexAs l x w) := by
  have HN := hide h.len
  have HH := hide h
  clear h
  go_enter Try.func25, Try.ntmps25
  go_wp2
  go_loopw [8] (fun i wr => ∃ j q : Nat, j ≤ n ∧ i = .int .i64 j ∧ wr = w.drewN q ∧ Hid ((l.take j).contains x = false)) (fun i _ => n - (intOf i).toNat)
  case atStart => exact ⟨0, 0, Nat.zero_le _, rfl, rfl, hide rfl⟩
  case round =>
    obtain ⟨j, q, hj, rfl, rfl, heq⟩ := hrel
    by_cases hlt : j < n
    · have hjl : j < l.length := by rw [HN.out]; exact hlt
      obtain ⟨b1, o1, rfl, hb1, hc1⟩ := HH.out.cell hjl
      have hj0 : (0 : Int) ≤ (j : Int) := by omega
      have hj1 : (j : Int) < (n : Int) := by omega
      by_cases hx : l[j] = x
      · have HX := hide (show l.contains x = true by rw [← hx, List.contains_iff_mem]; exact List.getElem_mem _)
        have ht : ((x.toNat : Int) == (l[j].toNat : Int)) = true := by rw [hx]; simp
        have hln := HN.out
        clear hx
        generalize l[j].toNat = y at *
        go_wp2_with fail
        try go_quiet (fail)
        try go_wp2_with fail
        go_ret
        refine ⟨⟨j, rfl, by rw [HX.out]; simp, by omega, by omega⟩, ?_⟩
        exact ⟨_, rfl⟩
      · have HX := hide (show (l.take (j + 1)).contains x = false by
          rw [List.take_succ_eq_append_getElem hjl, List.contains_append, heq.out]
          simpa [List.contains_cons] using fun e => hx e.symm)
        have ht : ((x.toNat : Int) == (l[j].toNat : Int)) = false := by
          rw [beq_eq_false_iff_ne]
          intro e
          exact hx (UInt8.toNat_inj.1 (by omega))
        clear hx
        generalize l[j].toNat = y at *
        go_wp2_with fail
        try go_quiet (fail)
        try go_wp2_with fail
        go_roundw
        case rel => exact ⟨j + 1, _, by omega, by go_num, rfl, HX⟩
        case measure => simp [intOf]; omega
    · obtain rfl : j = n := by omega
      have HE := hide (show l.contains x = false by
        have := heq.out
        rwa [List.take_of_length_le (Nat.le_of_eq HN.out)] at this)
      go_wp2_with fail
      go_ret
      exact ⟨⟨-1, rfl, by rw [HE.out]; rfl, by omega, by omega⟩, q, rfl⟩
theorem contains_any (A : Option Addr) (n c : Nat) (l : List UInt8) (x : UInt8) (w : World) (h : RB w A n l) (hn : n ≤ 1048576) :
    Calls Try.prog 19 #[.slice A n c, .int .u8 (x.toNat : Int)] w fun e w' => e = .returned (.bool (l.contains x)) ∧ ∃ q, w' = w.drewN q := by
  have hl := h.len
  go_enter Try.func19, Try.ntmps19
  go_wp2_with fail
  refine Calls.mono (index_any A n c l x w h hn) ?_
  rintro e w1 ⟨⟨k, rfl, hk, hk0, hk1⟩, q, rfl⟩
  have HK := hide hk
  clear hk
  go_wp2_with fail
  go_ret
  exact ⟨by rw [← HK.out]; rfl, q, rfl⟩
end Go.Proofs.Ytciakpfnmkoghaa
