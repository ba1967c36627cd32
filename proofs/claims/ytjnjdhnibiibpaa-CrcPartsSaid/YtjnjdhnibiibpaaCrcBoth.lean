/- Walks of package crc: squares, Both. -/
import Derived.Test.YtjnjdhnibiibpaaCrcProg
import Derived.Test.YtjnjdhnibiibpaaDag
import Derived.Deep.RegionHeld3
import Derived.Deep.MidRow
import Derived.Laws.ShiftsVarLaws
import Derived.Laws.CopyOwn
import Derived.Deep.WholeRow
import Derived.Laws.Tables
import Derived.Laws.Rows
namespace Go.Proofs.Ytjnjdhnibiibpaa
open Go.RowKit
attribute [local go_sem] Dag.gives

/-- the cells of a square: what so many bits of 0 do to each bit -/
def Sq (cs : Array Value) (m : Nat) : Prop := cs.size = 32 ∧ ∀ k, k < 32 → cs[k]? = some (.int .u32 (Crc.bits m (2 ^ k) : Nat))
theorem Sq.lt (m : Nat) {k : Nat} (h : k < 32) : Crc.bits m (2 ^ k) < 4294967296 := Crc.bits_lt m (Crc.pow_lt h)
theorem ofN_odd {f : Nat → Nat} {s k : Nat} (h : s / 2 ^ k % 2 = 1) : Crc.ofN f s (k + 1) = Crc.ofN f s k ^^^ f k := by rw [Crc.ofN, if_pos h]
theorem ofN_even {f : Nat → Nat} {s k : Nat} (h : ¬ s / 2 ^ k % 2 = 1) : Crc.ofN f s (k + 1) = Crc.ofN f s k := by rw [Crc.ofN, if_neg h]
theorem bit_test (s k : Nat) (hs : s < 4294967296) : Go.bits .and .u32 ((s : Int) / 2 ^ k) 1 = ((s / 2 ^ k % 2 : Nat) : Int) := by
  have h : s / 2 ^ k < 4294967296 := Nat.lt_of_le_of_lt (Nat.div_le_self _ _) hs
  rw [← low_u32 _ h]
  rw [show ((s / 2 ^ k : Nat) : Int) = (s : Int) / 2 ^ k by simp]

theorem of_any (cs : Array Value) (m : Nat) (s : Int) (w : World) (hq : Sq cs m) (h0 : 0 ≤ s) (hs : s < 4294967296) :
    Calls Try.prog 23 #[.agg cs, .int .u32 s] w fun e w' => e = .returned (.int .u32 (Crc.bits m s.toNat : Nat)) ∧ Below w.heap.size w w' := by
  obtain ⟨s, rfl⟩ := Int.eq_ofNat_of_zero_le h0
  have hs' : s < 4294967296 := by omega
  clear hs h0
  rw [Int.toNat_natCast, ← Crc.of_bits m s hs']
  obtain ⟨f, hf⟩ : ∃ f : Nat → Nat, f = fun j => Crc.bits m (2 ^ j) := ⟨_, rfl⟩
  rw [← hf]
  have hq' : ∀ k, k < 32 → f k < 4294967296 ∧ cs[k]? = some (.int .u32 (f k : Nat)) := fun k hk => by rw [hf]; exact ⟨Sq.lt m hk, hq.2 k hk⟩
  clear hf hq
  go_enter Try.func23, Try.ntmps23
  go_wp2
  go_loop [5, 7] (fun o i => ∃ k : Nat, k ≤ 32 ∧ i = .int .i64 k ∧ o = .int .u32 (Crc.ofN f s k : Nat)) (fun _ i => 32 - (intOf i).toNat)
  case atStart => exact ⟨0, by omega, rfl, rfl⟩
  case round =>
    obtain ⟨k, hk, rfl, rfl⟩ := hrel
    by_cases hlt : k < 32
    · obtain ⟨hf, hc⟩ := hq' k hlt
      have hr := Crc.ofN_lt (f := f) (s := s) k (fun j hj => (hq' j (by omega)).1)
      have hc' : (w.alloc (.cells cs 40)).cell? ⟨w.heap.size, k, none⟩ = some (.int .u32 (f k : Nat)) := by rw [World.cell?_alloc_at _ _ _ _ rfl, hc]
      have ht := bit_test s k hs'
      by_cases hb : s / 2 ^ k % 2 = 1
      · have HO := hide (ofN_odd (f := f) hb)
        have hx := u32_xor_nat _ _ hr hf
        have htest : (Go.bits .and .u32 ((s : Int) / 2 ^ k) 1 == 1) = true := by rw [ht, hb]; rfl
        clear ht hb hq' hc
        go_wp2
        go_round
        case rel => exact ⟨k + 1, by omega, by go_num, by rw [HO.out]⟩
        case measure => simp [intOf]; omega
      · have HO := hide (ofN_even (f := f) hb)
        have htest : (Go.bits .and .u32 ((s : Int) / 2 ^ k) 1 == 1) = false := by rw [ht, beq_eq_false_iff_ne]; omega
        clear ht hb hq' hc
        go_wp2
        go_round
        case rel => exact ⟨k + 1, by omega, by go_num, by rw [HO.out]⟩
        case measure => simp [intOf]; omega
    · obtain rfl : k = 32 := by omega
      go_wp2
      go_ret
      exact ⟨rfl, below_alloc _ _⟩

theorem sq_info : (Try.prog.info? 40).map (·.size) = some 32 := by kernel_rfl
theorem sq_ints {co : Array Value} {f : Nat → Nat} (h : co.size = 32) (hc : ∀ j, j < 32 → co[j]? = some (.int .u32 (f j : Nat))) : co.all (·.oneCell') = true := by
  rw [Array.all_eq_true_iff_forall_mem]
  intro x hx
  obtain ⟨j, hj, rfl⟩ := Array.getElem_of_mem hx
  have := hc j (by omega)
  rw [Array.getElem?_eq_getElem hj] at this
  injection this with this
  rw [this]
  rfl

theorem shl_one (k : Nat) (h : k < 32) : (2 : Int) ^ k % 4294967296 = ((2 ^ k : Nat) : Int) := by
  have hp := Crc.pow_lt h
  have e : ((2 ^ k : Nat) : Int) = (2 : Int) ^ k := by simp
  rw [← e]
  generalize 2 ^ k = p at *
  omega

set_option maxRecDepth 100000 in
theorem nought_any (w : World) :
    Calls Try.prog 22 #[] w fun e w' => ∃ cs, e = .returned (.agg cs) ∧ Sq cs 8 ∧ Below w.heap.size w w' := by
  go_enter Try.func22, Try.ntmps22
  go_wp2
  go_loopw [4] (fun i wr => ∃ (k : Nat) (co z : Array Value), k ≤ 32 ∧ i = .int .i64 k ∧ Hid (co.size = 32) ∧ (∀ j, j < k → co[j]? = some (.int .u32 (Crc.bits 8 (2 ^ j) : Nat))) ∧
      wr.heap[w.heap.size + 1]? = some (.cells co 40 (0, 0)) ∧ wr.heap[w.heap.size]? = some (.cells z 40 (0, 0)) ∧ Hid (z.size = 32) ∧ w.heap.size + 1 < wr.heap.size ∧ Below w.heap.size w wr) (fun i _ => 32 - (intOf i).toNat)
  case atStart =>
    exact ⟨0, _, _, by omega, rfl, hide rfl, fun j hj => absurd hj (by omega), heap_alloc2_new _ _ _, heap_alloc2_old _ _ _, hide rfl, by simp, (below_alloc _ _).alloc (by simp) _⟩
  case round =>
    obtain ⟨k, co, z, hk, rfl, hco, hval, hb1, hb0, hz, hlt1, hbel⟩ := hrel
    have HV := hide hval
    clear hval
    by_cases hlt : k < 32
    · obtain ⟨u0, hc0⟩ : ∃ u, wr.cell? ⟨w.heap.size + 1, k, none⟩ = some u := ⟨co[k]'(by rw [hco.out]; omega), by rw [cell_of_row _ _ _ _ _ _ hb1, Array.getElem?_eq_getElem]⟩
      have hf0 : wr.frozen? ⟨w.heap.size + 1, k, none⟩ = false := frozen_of_row _ _ _ _ _ hb1
      have hS := shl_one k hlt
      have HPN := hide (Crc.pow_lt hlt)
      obtain ⟨p, hp⟩ : ∃ p, p = 2 ^ k := ⟨_, rfl⟩
      rw [← hp] at hS HPN
      have HP := hide hp
      clear hp
      have HB1 := hide hb1
      have HB0 := hide hb0
      clear hb1 hb0
      have hlast : (wr.alloc (.cells #[.int .u32 (p : Nat)] 47)).cell? ⟨wr.heap.size, 0, none⟩ = some (.int .u32 (p : Nat)) := by simp
      go_wp2_with (go_at_call 26; refine (takes_any p 0 _ _ HPN.out (by omega) (by simp) (by simp)).mono ?_; rintro e w' ⟨rfl, rfl⟩)
      go_roundw
      case rel =>
        refine ⟨k + 1, co.setIfInBounds k (.int .u32 (Crc.byte p 0 : Nat)), z, by omega, by go_num, hide (by simpa using hco.out), ?_, ?_, ?_, hz, by simp [World.setCell]; omega, ?_⟩
        · intro j hj
          have hsz := hco.out
          by_cases hjk : j = k
          · subst hjk
            rw [Array.getElem?_setIfInBounds_self_of_lt (by omega), Crc.byte, Nat.xor_zero, HP.out]
          · rw [Array.getElem?_setIfInBounds_ne (by omega)]
            exact HV.out j (by omega)
        · rw [heap_alloc_old _ _ (by simp [World.setCell]; omega), heap_setCell_same _ _ _ co 40 _ HB1.out]
        · rw [heap_alloc_old _ _ (by simp [World.setCell]; omega), heap_setCell_other _ _ _ _ (by simp)]; exact HB0.out
        · exact (hbel.setCell (by simp) _).alloc (by simp [World.setCell]; omega) _
      case measure => simp [intOf]; omega
    · obtain rfl : k = 32 := by omega
      have HI := sq_ints hco.out HV.out
      go_wp2_with (first
        | refine wpList_load_row rfl 40 _ rfl (w.heap.size + 1) rfl _ co _ _ hb1 Try.underlying40 rfl (by rw [hco.out]; exact sq_info) ?_
        | refine wpList_store_row rfl 40 _ _ rfl w.heap.size co rfl rfl _ z hb0 (by rw [hco.out]; exact sq_info) (by rw [hz.out, hco.out]) HI ?_)
      exact bodyPost_ret (v := .agg co) (results_cell_row rfl _ _ w.heap.size 40 co (0, 0) _ rfl (setRow_heap _ _ z _ _ _ hb0) Try.underlying40 rfl (by rw [hco.out]; exact sq_info)) rfl
        ⟨co, rfl, ⟨hco.out, HV.out⟩, below_setRow hbel (Nat.le_refl _) _⟩
theorem twice_keep {W : World} {b k : Nat} {cl : List Value} {u v : Value} (_h : b + 1 + 1 < W.heap.size) (h : W.rangeAt b 0 cl ∧ W.cell? ⟨b, k, none⟩ = some v ∧ (W.cell? ⟨b + 1 + 1, k, none⟩).isSome = true ∧ W.frozen? ⟨b + 1 + 1, k, none⟩ = false) :
    (W.setCell ⟨b + 1 + 1, k, none⟩ u).rangeAt b 0 cl ∧ (W.setCell ⟨b + 1 + 1, k, none⟩ u).cell? ⟨b, k, none⟩ = some v ∧ ((W.setCell ⟨b + 1 + 1, k, none⟩ u).cell? ⟨b + 1 + 1, k, none⟩).isSome = true ∧ (W.setCell ⟨b + 1 + 1, k, none⟩ u).frozen? ⟨b + 1 + 1, k, none⟩ = false := by
  obtain ⟨h1, h2, h3, h4⟩ := h
  refine ⟨fun j v hv => ?_, ?_, ?_, ?_⟩
  · rw [World.cell?_setCell_other _ _ _ _ (by simp)]; exact h1 j v hv
  · rw [World.cell?_setCell_other _ _ _ _ (by simp)]; exact h2
  · obtain ⟨x, hx⟩ := Option.isSome_iff_exists.1 h3
    rw [World.cell?_setCell_same _ _ _ hx]; rfl
  · rw [World.frozen?_setCell]; exact h4

set_option maxRecDepth 100000 in
theorem twice_any (cs : Array Value) (m : Nat) (w : World) (hq : Sq cs m) :
    Calls Try.prog 24 #[.agg cs] w fun e w' => ∃ cs, e = .returned (.agg cs) ∧ Sq cs (m + m) ∧ Below w.heap.size w w' := by
  go_enter Try.func24, Try.ntmps24
  go_wp2
  go_loopw [5] (fun i wr => ∃ (k : Nat) (co z : Array Value), k ≤ 32 ∧ i = .int .i64 k ∧ Hid (co.size = 32) ∧ Hid (∀ j, j < k → co[j]? = some (.int .u32 (Crc.bits (m + m) (2 ^ j) : Nat))) ∧
      Hid (wr.heap[w.heap.size]? = some (.cells cs 40 (0, 0))) ∧ Hid (wr.heap[w.heap.size + 1]? = some (.cells z 40 (0, 0))) ∧ Hid (wr.heap[w.heap.size + 1 + 1]? = some (.cells co 40 (0, 0))) ∧ Hid (z.size = 32) ∧
      w.heap.size + 1 + 1 < wr.heap.size ∧ Below w.heap.size w wr) (fun i _ => 32 - (intOf i).toNat)
  case atStart =>
    refine ⟨0, ?_⟩
    apply Exists.intro
    apply Exists.intro
    refine ⟨by omega, rfl, ?hs1, fun j hj => absurd hj (by omega), ?b0, ?b1, ?b2, ?hs2, by simp, ((below_alloc _ _).alloc (by simp) _).alloc (by simp; omega) _⟩
    case b0 => exact hide (by rw [heap_alloc_old _ _ (by simp; omega)]; exact heap_alloc2_old _ _ _)
    case b1 => exact hide (by rw [heap_alloc_old _ _ (by simp)]; exact heap_alloc2_new _ _ _)
    case b2 => refine hide (heap_at _ _ _ ?_); simp
    case hs1 => exact hide rfl
    case hs2 => exact hide rfl
  case round =>
    obtain ⟨k, co, z, hk, rfl, hco, HV, hb0, hb1, hb2, hz, hlt1, hbel⟩ := hrel
    by_cases hlt : k < 32
    · obtain ⟨u0, hc0⟩ : ∃ u, wr.cell? ⟨w.heap.size + 1 + 1, k, none⟩ = some u := ⟨co[k]'(by rw [hco.out]; omega), by rw [cell_of_row _ _ _ _ _ _ hb2.out, Array.getElem?_eq_getElem]⟩
      have hf0 : wr.frozen? ⟨w.heap.size + 1 + 1, k, none⟩ = false := frozen_of_row _ _ _ _ _ hb2.out
      have hcq : wr.cell? ⟨w.heap.size, k, none⟩ = some (.int .u32 (Crc.bits m (2 ^ k) : Nat)) := by rw [cell_of_row _ _ _ _ _ _ hb0.out]; exact hq.2 k hlt
      have hql := hide (Sq.lt m hlt)
      have hi0 : (0 : Int) ≤ (k : Int) := by omega
      have hi1 : (k : Int) < 32 := by omega
      generalize hP : Crc.bits m (2 ^ k) = p at *
      have HP := hide hP.symm
      clear hP
      go_wp2_with fail
      refine Dag.wp_region_facts 6 (Dag.list [Dag.Is (.int .i64 k), Dag.Is (.agg cs), Dag.Is (.int .i64 k), Dag.Is (.pointer (some ⟨w.heap.size, k, none⟩)), Dag.Is (.int .u32 (p : Nat)), Dag.Is (.int .u32 (Crc.bits m p : Nat))])
        (by kernel_rfl) (by kernel_rfl) (Dag.stable_list (by simp [Dag.Stable.is])) ?_ ?_
      · intro vs W hbW
        simp only [Dag.allOps, List.take_succ_cons, List.take_zero, Dag.fill, Act.put, List.setIfInBounds_toArray, List.set_cons_succ, List.set_cons_zero, Dag.deps, Region.binds, Region.wanted, if_true]
        have hcW := keep_cell hbW hcq
        refine ⟨?_, ?_, ?_, ?_, ?_, ?_, trivial⟩
        · intro _; go_simp; exact ⟨Below.refl _ _, rfl⟩
        · intro _; exact Dag.gives_load_row 40 _ rfl w.heap.size rfl _ cs _ _ ((hbW.block _ (by omega)).trans hb0.out) Try.underlying40 rfl (by rw [hq.1]; exact sq_info) ⟨Below.refl _ _, rfl⟩
        · intro _; go_simp; exact ⟨Below.refl _ _, rfl⟩
        · intro hd; simp [Dag.list, Dag.Is] at hd; go_simp; exact ⟨Below.refl _ _, rfl⟩
        · intro hd; simp [Dag.list, Dag.Is] at hd; go_simp; exact ⟨Below.refl _ _, rfl⟩
        · intro hd
          simp [Dag.list, Dag.Is] at hd
          go_simp
          refine (of_any cs m _ _ hq (by omega) (by have := hql.out; omega)).mono ?_
          rintro e w' ⟨rfl, hb⟩
          exact ⟨_, rfl, hb, rfl⟩
      · intro vs W hbW hk
        simp only [Dag.known, Dag.list, Dag.Is, List.getD_cons_zero, List.getD_cons_succ, and_true] at hk
        obtain ⟨k0, k1, k2, k3, k4, k5⟩ := hk
        simp only [List.take_succ_cons, List.take_zero, List.drop_succ_cons, List.drop_zero, Dag.fill, Act.put, List.setIfInBounds_toArray, List.set_cons_succ, List.set_cons_zero, k0, k1, k2, k3, k4, k5]
        have hcW := keep_cell hbW hc0
        have hfW := keep_frozen hbW hlt1 hf0
        clear k0 k1 k2 k3 k4 k5
        go_wp2
        go_roundw
        case rel =>
          have hsz := hbW.size
          refine ⟨k + 1, co.setIfInBounds k (.int .u32 (Crc.bits m p : Nat)), z, by omega, by go_num, hide (by simpa using hco.out), hide ?_, hide ?_, hide ?_, hide ?_, hz, by simp [World.setCell]; omega, ?_⟩
          · intro j hj
            have hsz := hco.out
            by_cases hjk : j = k
            · subst hjk
              rw [Array.getElem?_setIfInBounds_self_of_lt (by omega), HP.out, ← Crc.bits_add]
            · rw [Array.getElem?_setIfInBounds_ne (by omega)]
              exact HV.out j (by omega)
          · rw [heap_setCell_other _ _ _ _ (by simp; omega), hbW.block _ (by omega)]; exact hb0.out
          · rw [heap_setCell_other _ _ _ _ (by simp), hbW.block _ (by omega)]; exact hb1.out
          · rw [heap_setCell_same _ _ _ co 40 _ (by rw [hbW.block _ hlt1]; exact hb2.out)]
          · exact (hbel.trans (hbW.mono (by omega))).setCell (by show _ ≤ w.heap.size + 1 + 1; omega) _
        case measure => simp [intOf]; omega
    · obtain rfl : k = 32 := by omega
      have HI := sq_ints hco.out HV.out
      have hb1' := hb1.out
      have hb2' := hb2.out
      go_wp2_with (first
        | refine wpList_load_row rfl 40 _ rfl (w.heap.size + 1 + 1) rfl _ co _ _ hb2' Try.underlying40 rfl (by rw [hco.out]; exact sq_info) ?_
        | refine wpList_store_row rfl 40 _ _ rfl (w.heap.size + 1) co rfl rfl _ z hb1' (by rw [hco.out]; exact sq_info) (by rw [hz.out, hco.out]) HI ?_)
      exact bodyPost_ret (v := .agg co) (results_cell_row rfl _ _ (w.heap.size + 1) 40 co (0, 0) _ rfl (setRow_heap _ _ z _ _ _ hb1') Try.underlying40 rfl (by rw [hco.out]; exact sq_info)) rfl
        ⟨co, rfl, ⟨hco.out, HV.out⟩, below_setRow hbel (by omega) _⟩

theorem both_step {n p a r s0 s1 : Nat} (hs : s1 = Crc.bits (8 * a) s0) (hn : r = a + p * n) (h : n % 2 = 1) : Crc.bits (8 * p) s1 = Crc.bits (8 * (a + p)) s0 ∧ r = (a + p) + (p + p) * (n / 2) := by
  refine ⟨by rw [hs, Nat.mul_add, Crc.bits_add], ?_⟩
  rw [hn]
  conv => lhs; rw [show n = 1 + 2 * (n / 2) by omega]
  rw [Nat.mul_add, Nat.add_mul, Nat.mul_one, ← Nat.mul_assoc, Nat.mul_comm p 2, Nat.two_mul, Nat.add_mul, Nat.add_assoc]
theorem both_even {n p a r : Nat} (hn : r = a + p * n) (h : n % 2 = 0) : r = a + (p + p) * (n / 2) := by
  rw [hn]
  conv => lhs; rw [show n = 2 * (n / 2) by omega]
  rw [← Nat.mul_assoc, Nat.mul_comm p 2, Nat.two_mul]
theorem Sq.double {cs : Array Value} {p : Nat} (h : Sq cs (8 * p + 8 * p)) : Sq cs (8 * (p + p)) := by rwa [Nat.mul_add]

set_option maxRecDepth 100000 in
theorem both_any (s t : Int) (r : Int) (w : World) (h0 : 0 ≤ s) (hs : s < 4294967296) (h1 : 0 ≤ t) (ht : t < 4294967296) (hr0 : 0 ≤ r) (hr : r ≤ 9223372036854775807) :
    Calls Try.prog 10 #[.int .u32 s, .int .u32 t, .int .i64 r] w fun e w' => e = .returned (.int .u32 (Crc.bits (8 * r.toNat) s.toNat ^^^ t.toNat : Nat)) ∧ Below w.heap.size w w' := by
  obtain ⟨s, rfl⟩ := Int.eq_ofNat_of_zero_le h0
  obtain ⟨t, rfl⟩ := Int.eq_ofNat_of_zero_le h1
  obtain ⟨r, rfl⟩ := Int.eq_ofNat_of_zero_le hr0
  rw [Int.toNat_natCast, Int.toNat_natCast, Int.toNat_natCast]
  have hs' : s < 4294967296 := by omega
  have ht' : t < 4294967296 := by omega
  have hr' : r ≤ 9223372036854775807 := by omega
  clear hs h0 h1 ht hr hr0
  go_enter Try.func10, Try.ntmps10
  go_wp2_with fail
  go_step3
  go_wp2_with fail
  refine (nought_any _).mono ?_
  rintro e w1 ⟨cs, rfl, hq, hb⟩
  go_wp2_with (refine wpList_store_row rfl 40 _ _ rfl w1.heap.size cs rfl rfl 40 _ (heap_alloc_new w1 _) (by rw [hq.1]; exact sq_info) (by rw [hq.1]; rfl) (sq_ints hq.1 hq.2) ?_; rw [World.setRow_alloc_new])
  have hbw := hb.size
  go_step3
  go_wp2_with fail
  go_frame
  go_loopw [0, 2] (fun s' n' wr => ∃ (a p n : Nat) (cs : Array Value), s' = .int .u32 (Crc.bits (8 * a) s : Nat) ∧ n' = .int .i64 n ∧ Hid (r = a + p * n) ∧ Hid (0 < p) ∧ Hid (Sq cs (8 * p)) ∧
      Hid (wr.heap[w1.heap.size]? = some (.cells cs 40 (0, 0))) ∧ Hid (Below w.heap.size w wr) ∧ w1.heap.size < wr.heap.size) (fun _ n' _ => (intOf n').toNat)
  case atStart => exact ⟨0, 1, r, cs, rfl, rfl, hide (by omega), hide (by omega), hide hq, hide (heap_alloc_new w1 _), hide ((hb.alloc hbw _)), by simp⟩
  case round =>
    clear hb hq
    obtain ⟨a, p, n, cq, rfl, rfl, hra, hp, hq, hb0, hbel, hlt1⟩ := hrel
    have hn : n ≤ 9223372036854775807 := by
      have h1 := hra.out
      have h2 : n ≤ p * n := Nat.le_mul_of_pos_left n hp.out
      omega
    have hbits := hide (Crc.bits_lt (8 * a) hs')
    have hb0' := hb0.out
    have hsq := hq.out
    generalize hS : Crc.bits (8 * a) s = S at *
    have HS := hide hS.symm
    clear hS
    by_cases hodd : n % 2 = 1 <;> by_cases hz : n / 2 = 0
    · have t1 : ((n : Int) % 2 == 1) = true := (by rw [beq_iff_eq]; omega)
      have t2 : ((n : Int) / 2 == 0) = true := (by rw [beq_iff_eq]; omega)
      have HO := hide hodd
      have HZ := hide hz
      clear hodd hz
      go_wp2_with (first
        | refine wpList_load_row rfl 40 _ rfl w1.heap.size rfl _ cq _ _ hb0' Try.underlying40 rfl (by rw [hsq.1]; exact sq_info) ?_
        | (go_at_call 23; refine (of_any _ _ _ _ hsq (by omega) (by have := hbits.out; omega)).mono ?_; rintro e w2 ⟨rfl, hb2⟩; rw [Int.toNat_natCast]; have hlt2 := Nat.lt_of_lt_of_le hlt1 hb2.size; have hb0'' := (hb2.block _ hlt1).trans hb0.out))
      rw [Exit.noGoto_ret]
      go_ret
      obtain ⟨e1, e2⟩ := both_step HS.out hra.out HO.out
      refine ⟨ret_u32 ?_, (hbel.out.trans (hb2.mono hbel.out.size))⟩
      rw [e1, show a + p = r by rw [e2, HZ.out, Nat.mul_zero, Nat.add_zero]]
      exact u32_xor_nat _ _ (Crc.bits_lt _ hs') ht'
    · have t1 : ((n : Int) % 2 == 1) = true := (by rw [beq_iff_eq]; omega)
      have t2 : ((n : Int) / 2 == 0) = false := (by rw [beq_eq_false_iff_ne]; omega)
      have HO := hide hodd
      have HZ := hide hz
      clear hodd hz
      go_wp2_with (first
        | refine wpList_load_row rfl 40 _ rfl w1.heap.size rfl _ cq _ _ hb0' Try.underlying40 rfl (by rw [hsq.1]; exact sq_info) ?_
        | (go_at_call 23; refine (of_any _ _ _ _ hsq (by omega) (by have := hbits.out; omega)).mono ?_; rintro e w2 ⟨rfl, hb2⟩; rw [Int.toNat_natCast]; have hlt2 := Nat.lt_of_lt_of_le hlt1 hb2.size; have hb0'' := (hb2.block _ hlt1).trans hb0.out)
        | refine wpList_load_row rfl 40 _ rfl w1.heap.size rfl _ cq _ _ hb0'' Try.underlying40 rfl (by rw [hsq.1]; exact sq_info) ?_
        | (go_at_call 24; refine (twice_any _ _ _ hsq).mono ?_; rintro e w3 ⟨cs3, rfl, hq3, hb3⟩; have hlt3 := Nat.lt_of_lt_of_le hlt2 hb3.size; have hb03 := (hb3.block _ hlt2).trans hb0'')
        | (refine wpList_store_row rfl 40 _ _ rfl w1.heap.size cs3 rfl rfl 40 _ hb03 (by rw [hq3.1]; exact sq_info) (by rw [hq3.1, hsq.1]) (sq_ints hq3.1 hq3.2) ?_; go_frame))
      go_roundw
      case rel =>
        obtain ⟨e1, e2⟩ := both_step HS.out hra.out HO.out
        refine ⟨a + p, p + p, n / 2, cs3, by rw [e1], by go_num, hide e2, hide (by have := hp.out; omega), hide hq3.double, hide (setRow_heap _ _ cq _ _ _ hb03), hide (below_setRow ((hbel.out.trans (hb2.mono hbel.out.size)).trans (hb3.mono (Nat.le_trans hbel.out.size hb2.size))) hbw _), by rw [size_setRow]; exact hlt3⟩
      case measure => have := HZ.out; simp [intOf]; omega
    · have t1 : ((n : Int) % 2 == 1) = false := (by rw [beq_eq_false_iff_ne]; omega)
      have t2 : ((n : Int) / 2 == 0) = true := (by rw [beq_iff_eq]; omega)
      have HO := hide hodd
      have HZ := hide hz
      clear hodd hz
      go_wp2
      rw [Exit.noGoto_ret]
      go_ret
      have e2 := both_even hra.out (by have := HO.out; omega)
      refine ⟨ret_u32 ?_, hbel.out⟩
      rw [show a = r by rw [e2, HZ.out, Nat.mul_zero, Nat.add_zero]] at HS
      rw [← HS.out]
      exact u32_xor_nat _ _ hbits.out ht'
    · have t1 : ((n : Int) % 2 == 1) = false := (by rw [beq_eq_false_iff_ne]; omega)
      have t2 : ((n : Int) / 2 == 0) = false := (by rw [beq_eq_false_iff_ne]; omega)
      have HO := hide hodd
      have HZ := hide hz
      clear hodd hz
      go_wp2_with (first
        | refine wpList_load_row rfl 40 _ rfl w1.heap.size rfl _ cq _ _ hb0' Try.underlying40 rfl (by rw [hsq.1]; exact sq_info) ?_
        | (go_at_call 24; refine (twice_any _ _ _ hsq).mono ?_; rintro e w3 ⟨cs3, rfl, hq3, hb3⟩; have hlt3 := Nat.lt_of_lt_of_le hlt1 hb3.size; have hb03 := (hb3.block _ hlt1).trans hb0.out)
        | (refine wpList_store_row rfl 40 _ _ rfl w1.heap.size cs3 rfl rfl 40 _ hb03 (by rw [hq3.1]; exact sq_info) (by rw [hq3.1, hsq.1]) (sq_ints hq3.1 hq3.2) ?_; go_frame))
      go_roundw
      case rel =>
        have e2 := both_even hra.out (by have := HO.out; omega)
        refine ⟨a, p + p, n / 2, cs3, by rw [HS.out], by go_num, hide e2, hide (by have := hp.out; omega), hide hq3.double, hide (setRow_heap _ _ cq _ _ _ hb03), hide (below_setRow (hbel.out.trans (hb3.mono hbel.out.size)) hbw _), by rw [size_setRow]; exact hlt3⟩
      case measure => have := HZ.out; simp [intOf]; omega
end Go.Proofs.Ytjnjdhnibiibpaa
