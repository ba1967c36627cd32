/- Walks of the library's functions on slices of bytes: Equal, Clone. -/
import Derived.Test.YtgliindhndcceaaProg
import Derived.Test.YtgliindhndcceaaKit
import Derived.WalkKit
import Derived.Outline
import Derived.WalkSpells
import Derived.WalkLawsBesides
import Derived.BigQuiet
import Derived.Lib.SliceRun
import Derived.Maps.RangeWalk
namespace Go.Proofs.Ytgliindhndcceaa
open Go.RowKit

theorem ret_bool {a b : Bool} (h : a = b) : Ending.returned (.bool a) = .returned (.bool b) := by rw [h]

theorem equal_any (A B : Option Addr) (n m c d : Nat) (l k : List UInt8) (w : World) (hA : RB w A n l) (hB : RB w B m k) (hn : n ≤ 1048576) (hm : m ≤ 1048576) :
    Calls Try.prog 29 #[.slice A n c, .slice B m d] w fun e w' => e = .returned (.bool (decide (l = k))) ∧ ∃ q, w' = w.drewN q := by
  have HL := hide hA.len
  have HK := hide hB.len
  by_cases hnm : n = m
  · subst hnm
    have ht : ((n : Int) != (n : Int)) = false := by simp
    go_enter Try.func29, Try.ntmps29
    go_wp2
    go_loopw [13] (fun i wr => ∃ j q : Nat, j ≤ n ∧ i = .int .i64 j ∧ wr = w.drewN q ∧ Hid (l.take j = k.take j)) (fun i _ => n - (intOf i).toNat)
    case atStart => exact ⟨0, 0, Nat.zero_le _, rfl, rfl, rfl⟩
    case round =>
      obtain ⟨j, q, hj, rfl, rfl, heq⟩ := hrel
      by_cases hlt : j < n
      · have hjl : j < l.length := by rw [HL.out]; exact hlt
        have hjk : j < k.length := by rw [HK.out]; exact hlt
        obtain ⟨b1, o1, rfl, hb1, hc1⟩ := hA.cell hjl
        obtain ⟨b2, o2, rfl, hb2, hc2⟩ := hB.cell hjk
        have hj0 : (0 : Int) ≤ (j : Int) := by omega
        have hj1 : (j : Int) < (n : Int) := by omega
        by_cases hx : l[j] = k[j]
        · have HX := hide hx
          have ht : (((l[j]).toNat : Int) != ((k[j]).toNat : Int)) = false := by rw [hx]; simp
          clear hx
          generalize hv1 : (l[j]).toNat = x1 at *
          generalize hv2 : (k[j]).toNat = x2 at *
          clear hv1 hv2
          go_wp2_with fail
          go_quiet (fail)
          go_wp2
          go_roundw
          case rel => exact ⟨j + 1, q + nq, by omega, by go_num, (by first | rfl | exact World.drewN_drewN ..), by show _ = _; rw [List.take_succ_eq_append_getElem hjl, List.take_succ_eq_append_getElem hjk, heq.out, HX.out]⟩
          case measure => simp [intOf]; omega
        · have HX := hide hx
          have ht : (((l[j]).toNat : Int) != ((k[j]).toNat : Int)) = true := by
            rw [bne_iff_ne]
            intro h
            exact hx (UInt8.toNat_inj.1 (by omega))
          clear hx
          generalize hv1 : (l[j]).toNat = x1 at *
          generalize hv2 : (k[j]).toNat = x2 at *
          clear hv1 hv2
          go_wp2_with fail
          go_quiet (fail)
          go_wp2
          go_ret
          refine ⟨ret_bool ?_, q + nq, (by first | rfl | exact World.drewN_drewN ..)⟩
          symm
          rw [decide_eq_false_iff_not]
          intro h
          subst h
          exact HX.out rfl
      · obtain rfl : j = n := by omega
        go_wp2
        go_ret
        refine ⟨ret_bool ?_, _, rfl⟩
        symm
        rw [decide_eq_true_eq]
        have h1 := heq.out
        rwa [List.take_of_length_le (Nat.le_of_eq HL.out), List.take_of_length_le (Nat.le_of_eq HK.out)] at h1
  · have ht : ((n : Int) != (m : Int)) = true := by rw [bne_iff_ne]; omega
    have HN := hide hnm
    clear hnm
    go_enter Try.func29, Try.ntmps29
    go_wp2
    go_ret
    refine ⟨ret_bool ?_, 0, rfl⟩
    symm
    rw [decide_eq_false_iff_not]
    rintro rfl
    exact HN.out (HL.out.symm.trans HK.out)

theorem equal_b (A B : Option Addr) (n m c d : Nat) (l k : List UInt8) (w : World) (hA : RB w A n l) (hB : RB w B m k) (hn : n ≤ 1048576) (hm : m ≤ 1048576) :
    Calls Try.prog 29 #[.slice A n c, .slice B m d] w fun e w' => e = .returned (.bool (decide (l = k))) ∧ Below w.heap.size w w' :=
  (equal_any A B n m c d l k w hA hB hn hm).mono fun _ _ ⟨he, q, hw⟩ => ⟨he, by rw [hw]; exact below_drewN w q⟩

theorem u8_info : (Try.prog.info? 5).map (fun i => (i.zero, i.size, i.bytes)) = some (some (.int .u8 0), 1, 1) := by kernel_rfl

theorem clone_any (A : Option Addr) (n c : Nat) (l : List UInt8) (w : World) (hA : RB w A n l) (hn : n ≤ 1048576) :
    Calls Try.prog 32 #[.slice A n c] w fun e w' => ∃ v, e = .returned v ∧ w'.ownsRow w.heap.size 5 1 v n (bytes l) ∧ Below w.heap.size w w' := by
  obtain ⟨i0, hi, hz0, hz1, hz2⟩ := info_parts u8_info
  have hq := fun W => Lib.run_eql_slice_nil (P := Try.prog) W 23 5 A n c 0 0 Try.underlying23
  cases A with
  | none =>
    have h0 : n = 0 := by
      rcases Nat.eq_zero_or_pos n with h | h
      · exact h
      · obtain ⟨b, o, h1, _⟩ := hA.2 h
        cases h1
    subst h0
    have hl : l = [] := List.eq_nil_of_length_eq_zero hA.len
    subst hl
    go_enter Try.func32, Try.ntmps32
    go_wp2
    go_ret
    exact ⟨_, rfl, World.ownsRow_nil _ _ _ _, Below.refl _ _⟩
  | some ad =>
    go_enter Try.func32, Try.ntmps32
    go_wp2_with (at_builtin; go_loud (refine wpList_append_reads rfl (.tmp 5) (.tmp 6) _ rfl w.heap.size 5 i0 (.int .u8 0) 1 1 Try.underlying23 hi hz0 hz1 hz2 rfl (by omega) (.slice (some ⟨w.heap.size, 0, none⟩) 0 0) 0 [] rfl (World.ownsRow_lit _ _ 0 (Nat.le_refl _) (by simp [maxLen]) rfl) w.heap.size (some ad) n c (bytes l) rfl (hA.alloc (Nat.le_refl _) _) bytes_one (by unfold maxLen; omega) (by omega) (by simp) ?_); intro v1 w1 hown1 hg1 hat1)
    go_ret
    refine ⟨v1, rfl, by simpa using hown1, (below_alloc w _).grown hg1 (by simp) fun k hk => ?_⟩
    simp [Value.ownBlock] at hk
    omega
end Go.Proofs.Ytgliindhndcceaa
