/- Proved: davenportlaw09.CrcLays returns true for every input: crc.Lay appends the checksum, and crc.Holds recognizes exactly the sealed sequences. No condition. -/
import Derived.Test.YtjnjdhnibiibpaaRows
import Derived.Test.YtjnjdhnibiibpaaOpen
import Derived.Test.YtjnjdhnibiibpaaCrcWakes
import Derived.Test.YtjnjdhnibiibpaaCrcRef
namespace Go.Proofs.Ytjnjdhnibiibpaa.LawCrcLays
open Go.ChangeShapes Go.WideShapes Go.ChangeAt Go.RowKit
open Go.ChangeMaps (open_string shut_string)
attribute [local go_sem] Dag.gives

theorem laid_len (s : Nat) : (Crc.laid s).length = 4 := rfl
theorem holds_self (l : List UInt8) : Crc.holds (l ++ Crc.laid (Crc.more 0 (nums l))) = true := by
  unfold Crc.holds
  have h : (l ++ Crc.laid (Crc.more 0 (nums l))).length - 4 = l.length := by rw [List.length_append, laid_len]; omega
  rw [h, List.take_left]
  simp [laid_len]
theorem holds_drop (l : List UInt8) (n : Nat) (hl : l.length = n) (h : 4 ≤ n) : Crc.holds l = decide (l.drop (n - 4) = Crc.laid (Crc.more 0 (nums (l.take (n - 4))))) := by
  unfold Crc.holds
  rw [hl, decide_eq_true h, Bool.true_and]
  congr 1
  apply propext
  constructor
  · intro he
    have := List.take_append_drop (n - 4) l
    rw [← he] at this
    rw [he] at this
    have h2 := he.trans this.symm
    exact (List.append_cancel_left h2).symm
  · intro he
    rw [← he, List.take_append_drop]
theorem holds_short (l : List UInt8) (n : Nat) (hl : l.length = n) (h : ¬ 4 ≤ n) : Crc.holds l = false := by
  unfold Crc.holds
  rw [hl, decide_eq_false h, Bool.false_and]

theorem walk (A : Option Addr) (n c : Nat) (l : List UInt8) (w : World) (h1 : Arg w A n c l) :
    Calls Try.prog 6 #[.slice A n c] w fun e w' => e = .returned (.bool true) ∧ Below w.heap.size w w' := by
  obtain ⟨hr, hc, hm⟩ := h1
  obtain ⟨i0, hi, hz0, hz1, hz2⟩ := info_parts u8_info
  go_enter Try.func6, Try.ntmps6
  go_wp2_with fail
  refine Calls.mono (wakes_any _) ?_
  rintro e w1 ⟨rfl, hb1⟩
  have hr1 := hr.on hb1
  go_wp2_with fail
  refine Calls.mono (few_rb _ _ _ _ _ hr1 hc hm) ?_
  rintro e w2 ⟨B, n2, c2, rfl, hr2, hn2, hc2, hm2, hb2⟩
  have hb2' := below_then hb1 hb2
  have hx2 := hr1.on hb2
  generalize hq : l.take FEW = q at *
  have HQ := hide hq
  clear hq
  have hlen := hide hr2.len
  go_wp2_with fail
  refine Calls.mono (lay_any _ _ _ _ _ hr2 (by omega)) ?_
  rintro e w3 ⟨v, rfl, ho3, hb3⟩
  obtain ⟨C, c3, rfl, hc3, hm3, hl3⟩ := own_slice ho3
  rw [← bytes_append] at hl3
  have hl3' : RB w3 C (n2 + 4) _ := hl3
  clear ho3 hl3
  have hr3 := hr2.on hb3
  have hx3 := hx2.on hb3
  have hb3' := below_then hb2' hb3
  go_wp2_with fail
  refine Calls.mono (few_any _ _ _ _ _ hx3 hc (by unfold maxLen at hm; omega)) ?_
  rintro e w4 ⟨v4, rfl, ho4, hb4⟩
  rw [HQ.out] at ho4
  have hr4 := hr3.on hb4
  have hx4 := hx3.on hb4
  have hl4 := hl3'.on hb4
  have hb4' := below_then hb3' hb4
  go_wp2_with fail
  refine Calls.mono (rMore_any _ _ _ _ _ _ (by omega) (by omega) hr4 (by omega)) ?_
  rintro e w' ⟨rfl, rfl⟩
  rw [show (0 : Int).toNat = 0 from rfl]
  have hS := hide (Crc.more_lt 0 (nums q))
  go_wp2_with fail
  refine Calls.mono (laid_any _ _ (by omega) (by have := hS.out; omega)) ?_
  rintro e w5 ⟨rfl, hl5, hb5⟩
  rw [Int.toNat_natCast] at hl5
  have ho5 := own_on ho4 hb5
  have hr5 := hr4.on hb5
  have hx5 := hx4.on hb5
  have hly5 := hl4.on hb5
  have hb5' := below_then hb4' hb5
  have hmn : min n FEW ≤ 400 := Nat.min_le_right _ _
  have hsz45 := hb5.size
  generalize hms : min n FEW = m at *
  have HMS := hide hms
  clear hms
  go_wp2_with (at_builtin; refine wpList_append_reads rfl (.tmp 15) (.tmp 18) _ rfl w3.heap.size 5 i0 (.int .u8 0) 1 1 Try.underlying26 hi hz0 hz1 hz2 rfl (by omega) v4 m (bytes q) rfl ho5 w5.heap.size (some ⟨w4.heap.size, 0, none⟩) 4 4 _ rfl hl5 bytes_one (by unfold maxLen; omega) (by omega) (by have := hb4.size; omega) ?_; intro v6 w6 ho6 hg6 hat6)
  have hb35 := below_then hb4 hb5
  have hb36 := below_append hb35 ho5 (Nat.le_refl _) hg6
  have hl6 := hl3'.on hb36
  have hr6 := hr3.on hb36
  have hx6 := hx3.on hb36
  have hb6' := below_then hb3' hb36
  obtain ⟨D, c6, rfl, hc6, hm6, hd6⟩ := own_slice ho6
  rw [← bytes_append] at hd6
  have hd6' : RB w6 D (m + 4) _ := hd6
  clear ho4 ho5 ho6 hd6 hat6 hg6 hr4 hr5 hx4 hx5 hl4 hly5 hl5 hb4' hb5' hb4 hb5 hb35 hsz45
  refine Calls.mono (equal_b _ _ _ _ _ _ _ _ _ hl6 hd6' (by omega) (by omega)) ?_
  rintro e w7 ⟨rfl, hb7⟩
  rw [decide_eq_true rfl]
  have hr7 := hr6.on hb7
  have hx7 := hx6.on hb7
  have hl7 := hl6.on hb7
  have hb7' := below_then hb6' hb7
  clear hd6' hr6 hx6 hl6
  go_wp2_with fail
  refine Calls.mono (few_rb _ _ _ _ _ hx7 hc hm) ?_
  rintro e w8 ⟨E, n8, c8, rfl, hr8, hn8, hc8, hm8, hb8⟩
  rw [HQ.out] at hr8
  have hq8 := hr7.on hb8
  have hl8 := hl7.on hb8
  have hb8' := below_then hb7' hb8
  go_wp2_with fail
  refine Calls.mono (equal_b _ _ _ _ _ _ _ _ _ hq8 hr8 (by omega) (by omega)) ?_
  rintro e w9 ⟨rfl, hb9⟩
  rw [decide_eq_true rfl]
  have hr9 := hq8.on hb9
  have hl9 := hl8.on hb9
  have hb9' := below_then hb8' hb9
  clear hr8 hq8 hl8 hl7 hr7 hx7 hr3 hx3 hl3' hr2 hx2 hr1 hr hb36 hb3 hb2 hb1 hb7 hb8 hb9 hb2' hb3' hb6' hb7' hb8'
  by_cases h4 : 4 ≤ n2
  · have HH := hide (holds_drop q n2 hlen.out h4)
    have t1 : decide ((0 : Int) ≤ (n2 : Int) - 4) = true := by simp; omega
    have h4i : (4 : Int) ≤ (n2 : Int) := by omega
    have hto : ((n2 : Int) - 4).toNat = n2 - 4 := by omega
    have hle : (n2 : Int) - 4 ≤ (c2 : Int) := by omega
    have hle2 : (n2 : Int) - 4 ≤ (n2 : Int) := by omega
    obtain ⟨k, hk⟩ : ∃ k, k = n2 - 4 := ⟨_, rfl⟩
    rw [← hk] at hto HH
    have hkn : k ≤ n2 := by omega
    have HK := hide hk
    clear hk
    go_wp2_with fail
    refine Dag.wp_region_facts 13 (Dag.list [Dag.Is (.int .i64 ((n2 : Int) - 4)), Dag.Is (.bool true), Dag.Is (.bool true), Dag.Is (.slice B n2 c2), Dag.Is (.int .i64 ((n2 : Int) - 4)), Dag.Sl (q.drop k), Dag.Is (.slice B n2 c2), Dag.Is (.int .i64 ((n2 : Int) - 4)), Dag.Is (.slice B k c2), Dag.Is (.int .u32 (Crc.more 0 (nums (q.take k)) : Nat)), Dag.Sl (Crc.laid (Crc.more 0 (nums (q.take k)))), Dag.Is (.bool (Crc.holds q)), Dag.Is (.bool (Crc.holds q))]) (by kernel_rfl) (by kernel_rfl) (Dag.stable_list (by simp [Dag.Stable.is, Dag.Stable.sl])) ?_ ?_
    · intro vs W hbW
      simp only [Dag.allOps, List.take_succ_cons, List.take_zero, Dag.fill, Act.put, List.setIfInBounds_toArray, List.set_cons_succ, List.set_cons_zero, Dag.deps, Region.binds, Dag.list, Dag.Is, List.getD_cons_zero, List.getD_cons_succ, and_true, forall_const, Nat.reduceAdd, Region.wanted, reduceIte]
      refine ⟨?_, ?_, ?_, ?_, ?_, ?_, ?_, ?_, ?_, ?_, ?_, ?_, ?_⟩
      · (try intro hd); go_simp; (first | done | exact ⟨Below.refl _ _, rfl⟩ | exact Below.refl _ _)
      · (try intro hd); go_simp; (first | done | exact ⟨Below.refl _ _, rfl⟩ | exact Below.refl _ _)
      · (try intro hd); go_simp; (first | done | exact ⟨Below.refl _ _, rfl⟩ | exact Below.refl _ _)
      · (try intro hd); go_simp; (first | done | exact ⟨Below.refl _ _, rfl⟩ | exact Below.refl _ _)
      · (try intro hd); go_simp; (first | done | exact ⟨Below.refl _ _, rfl⟩ | exact Below.refl _ _)
      · (try intro hd); go_simp; exact ⟨Below.refl _ _, _, _, _, rfl, by omega, (hr9.on hbW).drop hkn hc2⟩
      · (try intro hd); go_simp; (first | done | exact ⟨Below.refl _ _, rfl⟩ | exact Below.refl _ _)
      · (try intro hd); go_simp; (first | done | exact ⟨Below.refl _ _, rfl⟩ | exact Below.refl _ _)
      · (try intro hd); go_simp; (first | done | exact ⟨Below.refl _ _, rfl⟩ | exact Below.refl _ _)
      · (try intro hd); go_simp; refine Calls.mono (rMore_any _ _ _ _ _ _ (by omega) (by omega) ((hr9.on hbW).take k hkn) (by omega)) ?_; rintro e w' ⟨rfl, rfl⟩; exact ⟨rfl, Below.refl _ _⟩
      · (try intro hd); go_simp; refine Calls.mono (laid_any _ _ (by omega) (by have := Crc.more_lt 0 (nums (q.take k)); omega)) ?_; rintro e w' ⟨rfl, hl', hb'⟩; rw [Int.toNat_natCast] at hl'; exact ⟨_, rfl, hb', _, _, _, rfl, Nat.le_refl _, hl'⟩
      · (try intro hd); (obtain ⟨⟨A1, m1, d1, e1, f1, g1⟩, ⟨A2, m2, d2, e2, f2, g2⟩, h3⟩ := hd; have l1 := g1.len; have l2 := g2.len; rw [laid_len] at l2; have l4 : m2 ≤ 4 := (by omega); clear l2; have l3 : m1 ≤ 400 := (by rw [← l1, List.length_drop, hlen.out]; omega); clear l1; go_simp; refine Calls.mono (equal_b _ _ _ _ _ _ _ _ _ g1 g2 (by omega) (by omega)) ?_; rintro e w' ⟨rfl, hb'⟩; exact ⟨by rw [HH.out], hb'⟩)
      · (try intro hd); go_simp; (first | done | exact ⟨Below.refl _ _, rfl⟩ | exact Below.refl _ _)
    · intro vs W hbW hk
      simp only [Dag.known, Dag.list, Dag.Is, List.getD_cons_zero, List.getD_cons_succ, and_true] at hk
      obtain ⟨k0, k1, k2, k3, k4, k5, k6, k7, k8, k9, k10, k11, k12⟩ := hk
      simp only [List.take_succ_cons, List.take_zero, List.drop_succ_cons, List.drop_zero, Dag.fill, Act.put, List.setIfInBounds_toArray, List.set_cons_succ, List.set_cons_zero, Nat.reduceAdd, k0, k1, k2, k3, k4, k6, k7, k8, k9, k11, k12]
      clear k0 k1 k2 k3 k4 k6 k7 k8 k9 k11 k12
      have hb10' := below_then hb9' hbW
      go_wp2_with fail
      refine Calls.mono (holds_any _ _ _ _ _ (hr9.on hbW) (by omega) hc2) ?_
      rintro e w10 ⟨rfl, hb10⟩
      have hb11' := below_then hb10' hb10
      have hl10 := (hl9.on hbW).on hb10
      have hsame : (Crc.holds q == Crc.holds q) = true := by simp
      go_wp2_with fail
      refine Calls.mono (holds_any _ _ _ _ _ hl10 (by omega) hc3) ?_
      rintro e w11 ⟨rfl, hb12⟩
      rw [holds_self]
      go_wp2
      go_ret
      exact ⟨rfl, below_then hb11' hb12⟩
  · have HH := hide (holds_short q n2 hlen.out h4)
    have t1 : decide ((0 : Int) ≤ (n2 : Int) - 4) = false := by simp; omega
    have h4i : ¬ (4 : Int) ≤ (n2 : Int) := by omega
    go_wp2_with fail
    refine Dag.wp_region_facts 13 (Dag.list [Dag.Is (.int .i64 ((n2 : Int) - 4)), Dag.Is (.bool false), Dag.Is (.bool false), Dag.Any, Dag.Any, Dag.Any, Dag.Any, Dag.Any, Dag.Any, Dag.Any, Dag.Any, Dag.Any, Dag.Is (.bool false)]) (by kernel_rfl) (by kernel_rfl) (Dag.stable_list (by simp [Dag.Stable.is, Dag.Stable.any])) ?_ ?_
    · intro vs W hbW
      simp only [Dag.allOps, List.take_succ_cons, List.take_zero, Dag.fill, Act.put, List.setIfInBounds_toArray, List.set_cons_succ, List.set_cons_zero, Dag.deps, Region.binds, Dag.list, Dag.Is, Dag.Any, List.getD_cons_zero, List.getD_cons_succ, and_true, forall_const, Nat.reduceAdd, Region.wanted, reduceIte]
      refine ⟨?_, ?_, ?_, ?_, ?_, ?_, ?_, ?_, ?_, ?_, ?_, ?_, ?_⟩
      · (try intro hd); go_simp; (first | done | exact ⟨Below.refl _ _, rfl⟩ | exact Below.refl _ _)
      · (try intro hd); go_simp; (first | done | exact ⟨Below.refl _ _, rfl⟩ | exact Below.refl _ _)
      · (try intro hd); go_simp; (first | done | exact ⟨Below.refl _ _, rfl⟩ | exact Below.refl _ _)
      · (try intro hd); go_simp; (first | done | exact ⟨Below.refl _ _, rfl⟩ | exact Below.refl _ _)
      · (try intro hd); go_simp; (first | done | exact ⟨Below.refl _ _, rfl⟩ | exact Below.refl _ _)
      · (try intro hd); go_simp; (first | done | exact ⟨Below.refl _ _, rfl⟩ | exact Below.refl _ _)
      · (try intro hd); go_simp; (first | done | exact ⟨Below.refl _ _, rfl⟩ | exact Below.refl _ _)
      · (try intro hd); go_simp; (first | done | exact ⟨Below.refl _ _, rfl⟩ | exact Below.refl _ _)
      · (try intro hd); go_simp; (first | done | exact ⟨Below.refl _ _, rfl⟩ | exact Below.refl _ _)
      · (try intro hd); go_simp; (first | done | exact ⟨Below.refl _ _, rfl⟩ | exact Below.refl _ _)
      · (try intro hd); go_simp; (first | done | exact ⟨Below.refl _ _, rfl⟩ | exact Below.refl _ _)
      · (try intro hd); go_simp; (first | done | exact ⟨Below.refl _ _, rfl⟩ | exact Below.refl _ _)
      · (try intro hd); go_simp; (first | done | exact ⟨Below.refl _ _, rfl⟩ | exact Below.refl _ _)
    · intro vs W hbW hk
      simp only [Dag.known, Dag.list, Dag.Is, Dag.Any, List.getD_cons_zero, List.getD_cons_succ, and_true] at hk
      obtain ⟨k0, k1, k2, k3, k4, k5, k6, k7, k8, k9, k10, k11, k12⟩ := hk
      simp only [List.take_succ_cons, List.take_zero, List.drop_succ_cons, List.drop_zero, Dag.fill, Act.put, List.setIfInBounds_toArray, List.set_cons_succ, List.set_cons_zero, Nat.reduceAdd, k0, k1, k2, k12]
      clear k0 k1 k2 k12
      have hb10' := below_then hb9' hbW
      go_wp2_with fail
      refine Calls.mono (holds_any _ _ _ _ _ (hr9.on hbW) (by omega) hc2) ?_
      rintro e w10 ⟨rfl, hb10⟩
      rw [HH.out]
      have hb11' := below_then hb10' hb10
      have hl10 := (hl9.on hbW).on hb10
      go_wp2_with fail
      refine Calls.mono (holds_any _ _ _ _ _ hl10 (by omega) hc3) ?_
      rintro e w11 ⟨rfl, hb12⟩
      rw [holds_self]
      go_wp2
      go_ret
      exact ⟨rfl, below_then hb11' hb12⟩

/-! ### the row's step, written by program after the guide's skeleton -/
theorem own : ownKnob Try.prog.godebug = none := by kernel_rfl
theorem laidOut : laidOutB Try.prog = true := by kernel_rfl
set_option maxRecDepth 100000 in
theorem lifted (os : Os) (started : os.Started) (H : Type) (enc : TypeId × Value → H) :
    ReturnsInHanded {} Try.checked os 6 .any (Rows.crcLaysSpec.pre6 enc Try.prog Try.f6 Rows.crcLaysRow.domain false) (Rows.crcLaysSpec.post enc Try.prog Try.f6 false true false false) := by
  refine returnsInHanded_of_change (C := Try.checked) own started (by kernel_rfl) Try.func6
    (ChangeSpec.witness6 (enc := enc) (C := Try.checked) false ⟨#[], #[.slice none 0 0], []⟩ 8 (by kernel_rfl) (by kernel_rfl) (by kernel_rfl) (by kernel_rfl)) ?_
  intro W base args ds gs before hval0 hW hcnd _
  have hval : ∀ (j : Nat) t v, Try.f6.params[j]? = some t → args[j]? = some v → Value.okWide Try.prog W .any base t v := hval0
  have hW' := hW
  obtain ⟨p, q, hA0, hV, rfl, hfz, hnd⟩ := hW
  have hA : DataW.TrodAll enc Try.prog W 0 (fun _ => true) true Try.f6.params.toList args.toList ds p := hA0
  rw [Try.params6] at hA hval
  obtain ⟨v0, vs0, d0, ds0, p0, q0, hargs, rfl, rfl, h0, r0⟩ := trodAll_cons hA
  obtain ⟨rfl, rfl, rfl⟩ := trodAll_nil r0
  obtain rfl : args = #[v0] := by cases args; simp_all
  obtain ⟨rfl, rfl⟩ := trodVars_none hV
  have k0 := h0
  have lt0 := trod_lt' k0
  obtain ⟨a0, n0, c0, l0, rfl, w0⟩ := arg_bytes Try.underlying26 Try.underlying5 (by kernel_rfl) (hval 0 26 v0 rfl rfl) h0
  clear hA0 hval0
  refine (walk a0 n0 c0 l0 W w0).mono fun e W' ⟨he, bel⟩ => ?_
  subst he
  exact ⟨_, rfl, _, _, _, [], _, [], hW', trodAll_mk1 (shut_bool Try.underlying4 _), (trodAll_cons_mk (Below.trod laidOut (by kernel_rfl) (of_decide_eq_true (by kernel_rfl)) k0 bel lt0) trodAll_mk0), rfl, bel.frame _, fun h => by cases h⟩

theorem over : Rows.crcLaysRow.holds Try.pinned (OpenSpec.ofChange Rows.crcLaysSpec) :=
  OpenClaim.holds_of_wide 6 Try.f6 rfl rfl rfl rfl rfl rfl rfl ⟨rfl, rfl, rfl, rfl, rfl⟩ rfl rfl rfl rfl rfl (by kernel_rfl) Try.func6 (by kernel_rfl)
    (of_decide_eq_true (by kernel_rfl)) (by unfold Func.isWrapper; first | (rw [if_pos (by decide +kernel)]; kernel_rfl) | (rw [if_neg (by decide +kernel)]; exact ⟨rfl, rfl⟩))
    (fun os started H enc _ => lifted os started H enc)

theorem proved : Rows.CrcLaysSaid := over
end Go.Proofs.Ytjnjdhnibiibpaa.LawCrcLays
