/- Proved: davenportlaw09.CrcBoth returns true for every input: crc.Both agrees with the reference's definition for any checksums and lengths. No condition. -/
import Derived.Test.YtjnjdhnibiibpaaRows
import Derived.Test.YtjnjdhnibiibpaaOpen
import Derived.Test.YtjnjdhnibiibpaaCrcWakes
import Derived.Test.YtjnjdhnibiibpaaCrcRef
namespace Go.Proofs.Ytjnjdhnibiibpaa.LawCrcBoth
open Go.ChangeShapes Go.WideShapes Go.ChangeAt Go.RowKit
open Go.ChangeMaps (open_string shut_string)
attribute [local go_sem] Dag.gives

theorem both_neg (s t r : Int) (w : World) (hr : r < 0) :
    Calls Try.prog 10 #[.int .u32 s, .int .u32 t, .int .i64 r] w fun e w' => e = .returned (.int .u32 0) ∧ Below w.heap.size w w' := by
  go_enter Try.func10, Try.ntmps10
  go_wp2_with fail
  go_step3
  go_wp2
  rw [Exit.noGoto_ret]
  go_ret
  exact ⟨rfl, Below.refl _ _⟩

theorem made_zero (w : World) (n : Nat) : RB (w.alloc (.cells (madeCells #[.int .u8 0] n) 5)) (some ⟨w.heap.size, 0, none⟩) n (List.replicate n 0) :=
  RB.lit w 5 _ _ n (by simp) (by rw [toList_madeCells_one]; simp [bytes])

theorem nums_zeros (n : Nat) : nums (List.replicate n 0) = List.replicate n 0 := by simp [nums]

theorem walk (a0 a1 a2 : Int) (w : World) (w0 : (Lit.int .u32 a0).wf = true) (w1 : (Lit.int .u32 a1).wf = true) (w2 : (Lit.int .i64 a2).wf = true) :
    Calls Try.prog 3 #[.int .u32 a0, .int .u32 a1, .int .i64 a2] w fun e w' => e = .returned (.bool true) ∧ Below w.heap.size w w' := by
  have b0 := wf_u32 w0
  have b1 := wf_u32 w1
  have b2 := wf_i64 w2
  clear w0 w1 w2
  by_cases hn : a2 < 0
  · have B0 := hide b0
    have B1 := hide b1
    clear b0 b1
    go_enter Try.func3, Try.ntmps3
    go_wp2_with (first
      | (go_at_call 9; refine (wakes_any _).mono ?_; rintro e w1 ⟨rfl, hb1⟩)
      | (go_at_call 10; refine (both_neg _ _ _ _ hn).mono ?_; rintro e w2 ⟨rfl, hb2⟩))
    go_ret
    exact ⟨rfl, hb1.trans (hb2.mono hb1.size)⟩
  · obtain ⟨n, rfl⟩ := Int.eq_ofNat_of_zero_le (show 0 ≤ a2 by omega)
    obtain ⟨s, rfl⟩ := Int.eq_ofNat_of_zero_le b0.1
    obtain ⟨t, rfl⟩ := Int.eq_ofNat_of_zero_le b1.1
    have hs : s < 4294967296 := by omega
    have ht : t < 4294967296 := by omega
    have hn0 : (0 : Int) ≤ (n : Int) := by omega
    have hmod : (n : Int) % 2000 = ((n % 2000 : Nat) : Int) := by omega
    have hlt : n % 2000 < 2000 := by omega
    obtain ⟨i0, hi, hz0, hz1, hz2⟩ := info_parts u8_info
    obtain ⟨m, hm⟩ : ∃ m, m = n % 2000 := ⟨_, rfl⟩
    rw [← hm] at hmod hlt
    have hmk : ∀ W : World, (Instr.makeSlice 26 (.int .i64 (m : Int)) (.int .i64 (m : Int))).run Try.prog W = .ok (.slice (some ⟨W.heap.size, 0, none⟩) m m) (W.alloc (.cells (madeCells #[.int .u8 0] m) 5)) := fun W => by
      have := run_make (P := Try.prog) W 26 5 i0 _ Try.underlying26 hi hz0 .i64 .i64 (m : Int) (m : Int) (by omega) (by omega) (by rw [hz2]; omega) (by omega)
      rw [this, hz1, Nat.mul_one, Int.toNat_natCast]
      rfl
    have hmath : (Crc.bits (8 * m) s ^^^ t : Nat) = (Crc.take s (nums (List.replicate m 0)) ^^^ t : Nat) := by rw [nums_zeros, Crc.take_zeros]
    have HM := hide hmath
    have hbl := hide (Crc.take_lt (nums (List.replicate m 0)) hs (nums_lt _))
    have HS := hide hs
    have HT := hide ht
    clear hmath b0 b1 b2 hm hs ht
    go_enter Try.func3, Try.ntmps3
    go_wp2_with (go_at_call 9; refine (wakes_any _).mono ?_; rintro e w1 ⟨rfl, hb1⟩)
    refine Dag.wp_region_facts 11 (Dag.list [Dag.Is (.int .u32 s), Dag.Is (.int .u32 t), Dag.Is (.int .i64 m), Dag.Is (.int .u32 (Crc.bits (8 * m) s ^^^ t : Nat)), Dag.Is (.int .u32 s), Dag.Is (.int .i64 m), Dag.Sl (List.replicate m 0), Dag.Is (.int .u32 (Crc.take s (nums (List.replicate m 0)) : Nat)), Dag.Is (.int .u32 t), Dag.Is (.int .u32 (Crc.take s (nums (List.replicate m 0)) ^^^ t : Nat)), Dag.Is (.bool true)]) (by kernel_rfl) (by kernel_rfl) (Dag.stable_list (by simp [Dag.Stable.is, Dag.Stable.sl])) ?_ ?_
    · intro vs W hbW
      simp only [Dag.allOps, List.take_succ_cons, List.take_zero, Dag.fill, Act.put, List.setIfInBounds_toArray, List.set_cons_succ, List.set_cons_zero, Dag.deps, Region.binds, Dag.list, Dag.Is, List.getD_cons_zero, List.getD_cons_succ, and_true, forall_const, Nat.reduceAdd, Region.wanted, reduceIte]
      refine ⟨?_, ?_, ?_, ?_, ?_, ?_, ?_, ?_, ?_, ?_, ?_⟩
      · (try intro hd); go_simp; (first | done | exact ⟨Below.refl _ _, rfl⟩ | exact Below.refl _ _)
      · (try intro hd); go_simp; (first | done | exact ⟨Below.refl _ _, rfl⟩ | exact Below.refl _ _)
      · (try intro hd); go_simp; (first | done | exact ⟨Below.refl _ _, rfl⟩ | exact Below.refl _ _)
      · (try intro hd); go_simp; refine Calls.mono (both_any _ _ _ _ (by omega) (by have := HS.out; omega) (by omega) (by have := HT.out; omega) (by omega) (by omega)) ?_; rintro e w' ⟨rfl, hb⟩; exact ⟨rfl, hb⟩
      · (try intro hd); go_simp; (first | done | exact ⟨Below.refl _ _, rfl⟩ | exact Below.refl _ _)
      · (try intro hd); go_simp; (first | done | exact ⟨Below.refl _ _, rfl⟩ | exact Below.refl _ _)
      · (try intro hd); go_simp; exact ⟨below_alloc _ _, _, _, _, rfl, Nat.le_refl _, made_zero _ _⟩
      · (try intro hd); obtain ⟨h1, ⟨A', n', c', hv, hc', hr⟩, h3⟩ := hd; obtain rfl : n' = m := (by have := hr.len; simpa using this.symm); go_simp; refine Calls.mono (take_any _ A' _ c' _ W (by omega) (by have := HS.out; omega) hr (by omega)) ?_; rintro e w' ⟨rfl, rfl⟩; exact ⟨rfl, Below.refl _ _⟩
      · (try intro hd); go_simp; (first | done | exact ⟨Below.refl _ _, rfl⟩ | exact Below.refl _ _)
      · (try intro hd); have hx := u32_xor_nat _ _ hbl.out HT.out; go_simp; exact Below.refl _ _
      · (try intro hd); go_simp; exact ⟨Below.refl _ _, by rw [HM.out]⟩
    · intro vs W hbW hk
      simp only [Dag.known, Dag.list, Dag.Is, List.getD_cons_zero, List.getD_cons_succ, and_true] at hk
      obtain ⟨k0, k1, k2, k3, k4, k5, k6, k7, k8, k9, k10⟩ := hk
      simp only [List.take_succ_cons, List.take_zero, List.drop_succ_cons, List.drop_zero, Dag.fill, Act.put, List.setIfInBounds_toArray, List.set_cons_succ, List.set_cons_zero, Nat.reduceAdd, k0, k1, k2, k3, k4, k5, k7, k8, k9, k10]
      clear k0 k1 k2 k3 k4 k5 k7 k8 k9 k10
      go_wp2
      go_ret
      exact ⟨rfl, hb1.trans (hbW.mono hb1.size)⟩

/-! ### the row's step, written by program after the guide's skeleton -/
theorem own : ownKnob Try.prog.godebug = none := by kernel_rfl
theorem laidOut : laidOutB Try.prog = true := by kernel_rfl
set_option maxRecDepth 100000 in
theorem lifted (os : Os) (started : os.Started) (H : Type) (enc : TypeId × Value → H) :
    ReturnsInHanded {} Try.checked os 3 .any (Rows.crcBothSpec.pre6 enc Try.prog Try.f3 Rows.crcBothRow.domain false) (Rows.crcBothSpec.post enc Try.prog Try.f3 false true false false) := by
  refine returnsInHanded_of_change (C := Try.checked) own started (by kernel_rfl) Try.func3
    (ChangeSpec.witness6 (enc := enc) (C := Try.checked) false ⟨#[], #[.int .u32 0, .int .u32 0, .int .i64 0], []⟩ 8 (by kernel_rfl) (by kernel_rfl) (by kernel_rfl) (by kernel_rfl)) ?_
  intro W base args ds gs before hval0 hW hcnd _
  have hval : ∀ (j : Nat) t v, Try.f3.params[j]? = some t → args[j]? = some v → Value.okWide Try.prog W .any base t v := hval0
  have hW' := hW
  obtain ⟨p, q, hA0, hV, rfl, hfz, hnd⟩ := hW
  have hA : DataW.TrodAll enc Try.prog W 0 (fun _ => true) true Try.f3.params.toList args.toList ds p := hA0
  rw [Try.params3] at hA hval
  obtain ⟨v0, vs0, d0, ds0, p0, q0, hargs, rfl, rfl, h0, r0⟩ := trodAll_cons hA
  obtain ⟨v1, vs1, d1, ds1, p1, q1, rfl, rfl, rfl, h1, r1⟩ := trodAll_cons r0
  obtain ⟨v2, vs2, d2, ds2, p2, q2, rfl, rfl, rfl, h2, r2⟩ := trodAll_cons r1
  obtain ⟨rfl, rfl, rfl⟩ := trodAll_nil r2
  obtain rfl : args = #[v0, v1, v2] := by cases args; simp_all
  obtain ⟨rfl, rfl⟩ := trodVars_none hV
  obtain ⟨a0, rfl, rfl, rfl, w0⟩ := open_int Try.underlying22 (hval 0 22 v0 rfl rfl) h0
  obtain ⟨a1, rfl, rfl, rfl, w1⟩ := open_int Try.underlying22 (hval 1 22 v1 rfl rfl) h1
  obtain ⟨a2, rfl, rfl, rfl, w2⟩ := open_int Try.underlying3 (hval 2 3 v2 rfl rfl) h2
  clear hA0 hval0
  refine (walk a0 a1 a2 W w0 w1 w2).mono fun e W' ⟨he, bel⟩ => ?_
  subst he
  exact ⟨_, rfl, _, _, _, [], _, [], hW', trodAll_mk1 (shut_bool Try.underlying4 _), (trodAll_cons_mk (shut_int Try.underlying22 w0) (trodAll_cons_mk (shut_int Try.underlying22 w1) (trodAll_cons_mk (shut_int Try.underlying3 w2) trodAll_mk0))), rfl, bel.frame _, fun h => by cases h⟩

theorem over : Rows.crcBothRow.holds Try.pinned (OpenSpec.ofChange Rows.crcBothSpec) :=
  OpenClaim.holds_of_wide 3 Try.f3 rfl rfl rfl rfl rfl rfl rfl ⟨rfl, rfl, rfl, rfl, rfl⟩ rfl rfl rfl rfl rfl (by kernel_rfl) Try.func3 (by kernel_rfl)
    (of_decide_eq_true (by kernel_rfl)) (by unfold Func.isWrapper; first | (rw [if_pos (by decide +kernel)]; kernel_rfl) | (rw [if_neg (by decide +kernel)]; exact ⟨rfl, rfl⟩))
    (fun os started H enc _ => lifted os started H enc)

theorem proved : Rows.CrcBothSaid := over
end Go.Proofs.Ytjnjdhnibiibpaa.LawCrcBoth
