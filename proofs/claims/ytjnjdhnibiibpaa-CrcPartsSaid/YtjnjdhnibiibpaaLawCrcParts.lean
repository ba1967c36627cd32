/- Proved: davenportlaw09.CrcParts returns true for every input: a checksum computed in two parts, by crc.More or by crc.Both, is the checksum of the whole; zero bits can be consumed in two halves. No condition. -/
import Derived.Test.YtjnjdhnibiibpaaRows
import Derived.Test.YtjnjdhnibiibpaaOpen
import Derived.Test.YtjnjdhnibiibpaaCrcWakes
import Derived.Test.YtjnjdhnibiibpaaConcat
namespace Go.Proofs.Ytjnjdhnibiibpaa.LawCrcParts
open Go.ChangeShapes Go.WideShapes Go.ChangeAt Go.RowKit
open Go.ChangeMaps (open_string shut_string)

theorem both_zero (s n : Int) (w : World) (h0 : 0 ≤ s) (hs : s < 4294967296) (hn0 : 0 ≤ n) (hn : n ≤ 9223372036854775807) :
    Calls Try.prog 10 #[.int .u32 s, .int .u32 0, .int .i64 n] w fun e w' => e = .returned (.int .u32 (Crc.bits (8 * n.toNat) s.toNat : Nat)) ∧ Below w.heap.size w w' := by
  have := both_any s 0 n w h0 hs (by omega) (by omega) hn0 hn
  rwa [show (0 : Int).toNat = 0 from rfl, Nat.xor_zero] at this

theorem halves (s n : Nat) : Crc.bits (8 * (n - n / 2)) (Crc.bits (8 * (n / 2)) s) = Crc.bits (8 * n) s := by
  rw [← Crc.bits_add]
  congr 1
  omega

theorem walk (A : Option Addr) (m0 d0 : Nat) (l0 : List UInt8) (B : Option Addr) (m1 d1 : Nat) (l1 : List UInt8) (n0 : Int) (w : World) (h0 : Arg w A m0 d0 l0) (h1 : Arg w B m1 d1 l1) (h2 : (Lit.int .i64 n0).wf = true) :
    Calls Try.prog 8 #[.slice A m0 d0, .slice B m1 d1, .int .i64 n0] w fun e w' => e = .returned (.bool true) ∧ Below w.heap.size w w' := by
  obtain ⟨ha, hac, ham⟩ := h0
  obtain ⟨hb, hbc, hbm⟩ := h1
  have hn0 := (wf_i64 h2).2
  clear h2
  go_enter Try.func8, Try.ntmps8
  go_wp2_with fail
  refine Calls.mono (wakes_any _) ?_
  rintro e w1 ⟨rfl, hb1⟩
  go_wp2_with fail
  refine Calls.mono (few_rb _ _ _ _ _ (ha.on hb1) hac ham) ?_
  rintro e w2 ⟨B1, n1, c1, rfl, hr2, hn1, hc1, hm1, hb2⟩
  have hb2' := below_then hb1 hb2
  go_wp2_with fail
  refine Calls.mono (few_rb _ _ _ _ _ (hb.on hb2') hbc hbm) ?_
  rintro e w3 ⟨B2, n2, c2, rfl, hr3, hn2, hc2, hm2, hb3⟩
  have hb3' := below_then hb2' hb3
  have hp3 := hr2.on hb3
  generalize l0.take FEW = p at *
  generalize l1.take FEW = q at *
  clear hb2' hb1 hb2 hb3 hr2 ha hb
  have HQ := hide hr3.len
  go_wp2_with fail
  refine Calls.mono (concat_any _ 2 _ [⟨B1, n1, c1, p⟩, ⟨B2, n2, c2, q⟩] _ rfl ?_ (by omega) (by simp [lens]; omega)) ?_
  · intro i hi
    match i, hi with
    | 0, _ => exact ⟨by simp, hp3.on (below_alloc _ _)⟩
    | 1, _ => exact ⟨by simp, hr3.on (below_alloc _ _)⟩
  rintro e w4 ⟨v, rfl, ho4, hb4⟩
  have hb4' := below_then (below_alloc w3 _) hb4
  obtain ⟨C, c4, rfl, hc4, hm4, hr4⟩ := own_slice ho4
  have hsum : lens [⟨B1, n1, c1, p⟩, ⟨B2, n2, c2, q⟩] 2 = n1 + n2 := by simp [lens]
  have hcat : cat [⟨B1, n1, c1, p⟩, ⟨B2, n2, c2, q⟩] 2 = p ++ q := by simp [cat]
  rw [hsum, hcat] at hr4
  rw [hsum]
  have hp4 := hp3.on hb4'
  have hq4 := hr3.on hb4'
  have hbw4 := below_then hb3' hb4'
  clear hsum hcat ho4 hp3 hr3 hb3' hb4 hb4'
  go_wp2_with fail
  refine Calls.mono (sum_any _ _ _ _ _ hr4 (by omega)) ?_
  rintro e w5 ⟨rfl, hb5⟩
  have hp5 := hp4.on hb5
  have hq5 := hq4.on hb5
  have hbw5 := below_then hbw4 hb5
  have hall := hide (Crc.more_lt 0 (nums (p ++ q)))
  have hpl := hide (Crc.more_lt 0 (nums p))
  have hql := hide (Crc.more_lt 0 (nums q))
  have hmore := hide (Crc.more_append 0 (nums p) (nums q) (nums_lt p))
  have hboth := hide (Crc.both_append (nums p) (nums q) (nums_lt p) (nums_lt q))
  clear hr4 hp4 hq4
  rw [nums_append] at hall ⊢
  go_wp2_with fail
  refine Calls.mono (sum_any _ _ _ _ _ hp5 (by omega)) ?_
  rintro e w6 ⟨rfl, hb6⟩
  go_wp2_with fail
  refine Calls.mono (more_any _ _ _ _ _ _ (by omega) (by have := hpl.out; omega) (hq5.on hb6) (by omega)) ?_
  rintro e w7 ⟨rfl, hb7⟩
  rw [Int.toNat_natCast, hmore.out]
  have hb57 := below_then hb6 hb7
  go_wp2_with fail
  refine Calls.mono (sum_any _ _ _ _ _ (hp5.on hb57) (by omega)) ?_
  rintro e w8 ⟨rfl, hb8⟩
  have hb58 := below_then hb57 hb8
  go_wp2_with fail
  refine Calls.mono (sum_any _ _ _ _ _ (hq5.on hb58) (by omega)) ?_
  rintro e w9 ⟨rfl, hb9⟩
  have hb59 := below_then hb58 hb9
  go_wp2_with fail
  refine Calls.mono (both_any _ _ _ _ (by omega) (by have := hpl.out; omega) (by omega) (by have := hql.out; omega) (by omega) (by omega)) ?_
  rintro e w10 ⟨rfl, hb10⟩
  have hb510 := below_then (below_then hbw5 hb59) hb10
  rw [Int.toNat_natCast, Int.toNat_natCast, Int.toNat_natCast, ← HQ.out, ← nums_len q, hboth.out]
  clear hb57 hb58 hb59 hb6 hb7 hb8 hb9 hb10 hbw4 hbw5 hp5 hq5
  generalize Crc.more 0 (nums p ++ nums q) = s at *
  have HH := hide (halves s)
  have HB := hide (fun m : Nat => Crc.bits_lt m hall.out)
  clear hmore hboth hpl hql hc4 hm4 hc1 hm1 hc2 hm2 hac ham hbc hbm hn1 hn2 HQ
  by_cases hz : n0 < 0
  · have e0 : Crc.bits (8 * Int.toNat 0) (s : Int).toNat = s := by simp [Crc.bits]
    go_wp2_with fail
    refine Calls.mono (both_zero _ _ _ (by omega) (by have := hall.out; omega) (by omega) (by omega)) ?_
    rintro e w11 ⟨rfl, hb11⟩
    rw [e0]
    have hb11' := below_then hb510 hb11
    clear hb510 hb11
    go_wp2_with fail
    refine Calls.mono (both_zero _ _ _ (by omega) (by have := hall.out; omega) (by omega) (by omega)) ?_
    rintro e w12 ⟨rfl, hb12⟩
    rw [e0]
    have hb12' := below_then hb11' hb12
    clear hb11' hb12
    go_wp2_with fail
    refine Calls.mono (both_zero _ _ _ (by omega) (by have := hall.out; omega) (by omega) (by omega)) ?_
    rintro e w13 ⟨rfl, hb13⟩
    rw [e0]
    have hb13' := below_then hb12' hb13
    clear hb12' hb13
    go_wp2_with fail
    refine Calls.mono (both_zero _ _ _ (by omega) (by have := hall.out; omega) (by omega) (by omega)) ?_
    rintro e w14 ⟨rfl, hb14⟩
    rw [e0]
    have hb14' := below_then hb13' hb14
    clear hb13' hb14
    go_wp2
    all_goals (go_ret; exact ⟨by simp, hb14'⟩)
  · obtain ⟨N, rfl⟩ : ∃ N : Nat, n0 = N := ⟨n0.toNat, by omega⟩
    have e0 : Crc.bits (8 * Int.toNat 0) (s : Int).toNat = s := by simp [Crc.bits]
    go_wp2_with fail
    refine Calls.mono (both_zero _ _ _ (by omega) (by have := hall.out; omega) (by omega) (by omega)) ?_
    rintro e w11 ⟨rfl, hb11⟩
    rw [show ((N : Int) / 2).toNat = N / 2 by omega, Int.toNat_natCast]
    have hb11' := below_then hb510 hb11
    have hh := hide (HH.out N)
    have hl := hide (HB.out (8 * (N / 2)))
    have hL := hide (HB.out (8 * N))
    clear hb510 hb11 HH HB
    generalize Crc.bits (8 * (N / 2)) s = t at *
    go_wp2_with fail
    refine Calls.mono (both_zero _ _ _ (by omega) (by have := hl.out; omega) (by omega) (by omega)) ?_
    rintro e w12 ⟨rfl, hb12⟩
    rw [show ((N : Int) - (N : Int) / 2).toNat = N - N / 2 by omega, Int.toNat_natCast, hh.out]
    have hb12' := below_then hb11' hb12
    clear hb11' hb12 hh
    go_wp2_with fail
    refine Calls.mono (both_zero _ _ _ (by omega) (by have := hall.out; omega) (by omega) (by omega)) ?_
    rintro e w13 ⟨rfl, hb13⟩
    rw [Int.toNat_natCast, Int.toNat_natCast]
    have hb13' := below_then hb12' hb13
    clear hb12' hb13
    generalize Crc.bits (8 * N) s = u at *
    go_wp2_with fail
    refine Calls.mono (both_zero _ _ _ (by omega) (by have := hall.out; omega) (by omega) (by omega)) ?_
    rintro e w14 ⟨rfl, hb14⟩
    rw [e0]
    have hb14' := below_then hb13' hb14
    clear hb13' hb14
    go_wp2
    all_goals (go_ret; exact ⟨by simp, hb14'⟩)

/-! ### the row's step, written by program after the guide's skeleton -/
theorem own : ownKnob Try.prog.godebug = none := by kernel_rfl
theorem laidOut : laidOutB Try.prog = true := by kernel_rfl
set_option maxRecDepth 100000 in
theorem lifted (os : Os) (started : os.Started) (H : Type) (enc : TypeId × Value → H) :
    ReturnsInHanded {} Try.checked os 8 .any (Rows.crcPartsSpec.pre6 enc Try.prog Try.f8 Rows.crcPartsRow.domain false) (Rows.crcPartsSpec.post enc Try.prog Try.f8 false true false false) := by
  refine returnsInHanded_of_change (C := Try.checked) own started (by kernel_rfl) Try.func8
    (ChangeSpec.witness6 (enc := enc) (C := Try.checked) false ⟨#[], #[.slice none 0 0, .slice none 0 0, .int .i64 0], []⟩ 8 (by kernel_rfl) (by kernel_rfl) (by kernel_rfl) (by kernel_rfl)) ?_
  intro W base args ds gs before hval0 hW hcnd _
  have hval : ∀ (j : Nat) t v, Try.f8.params[j]? = some t → args[j]? = some v → Value.okWide Try.prog W .any base t v := hval0
  have hW' := hW
  obtain ⟨p, q, hA0, hV, rfl, hfz, hnd⟩ := hW
  have hA : DataW.TrodAll enc Try.prog W 0 (fun _ => true) true Try.f8.params.toList args.toList ds p := hA0
  rw [Try.params8] at hA hval
  obtain ⟨v0, vs0, d0, ds0, p0, q0, hargs, rfl, rfl, h0, r0⟩ := trodAll_cons hA
  obtain ⟨v1, vs1, d1, ds1, p1, q1, rfl, rfl, rfl, h1, r1⟩ := trodAll_cons r0
  obtain ⟨v2, vs2, d2, ds2, p2, q2, rfl, rfl, rfl, h2, r2⟩ := trodAll_cons r1
  obtain ⟨rfl, rfl, rfl⟩ := trodAll_nil r2
  obtain rfl : args = #[v0, v1, v2] := by cases args; simp_all
  obtain ⟨rfl, rfl⟩ := trodVars_none hV
  have k0 := h0
  have lt0 := trod_lt' k0
  obtain ⟨a0, n0, c0, l0, rfl, w0⟩ := arg_bytes Try.underlying26 Try.underlying5 (by kernel_rfl) (hval 0 26 v0 rfl rfl) h0
  have k1 := h1
  have lt1 := trod_lt' k1
  obtain ⟨a1, n1, c1, l1, rfl, w1⟩ := arg_bytes Try.underlying26 Try.underlying5 (by kernel_rfl) (hval 1 26 v1 rfl rfl) h1
  obtain ⟨a2, rfl, rfl, rfl, w2⟩ := open_int Try.underlying3 (hval 2 3 v2 rfl rfl) h2
  clear hA0 hval0
  refine (walk a0 n0 c0 l0 a1 n1 c1 l1 a2 W w0 w1 w2).mono fun e W' ⟨he, bel⟩ => ?_
  subst he
  exact ⟨_, rfl, _, _, _, [], _, [], hW', trodAll_mk1 (shut_bool Try.underlying4 _), (trodAll_cons_mk (Below.trod laidOut (by kernel_rfl) (of_decide_eq_true (by kernel_rfl)) k0 bel lt0) (trodAll_cons_mk (Below.trod laidOut (by kernel_rfl) (of_decide_eq_true (by kernel_rfl)) k1 bel lt1) (trodAll_cons_mk (shut_int Try.underlying3 w2) trodAll_mk0))), rfl, bel.frame _, fun h => by cases h⟩

theorem over : Rows.crcPartsRow.holds Try.pinned (OpenSpec.ofChange Rows.crcPartsSpec) :=
  OpenClaim.holds_of_wide 8 Try.f8 rfl rfl rfl rfl rfl rfl rfl ⟨rfl, rfl, rfl, rfl, rfl⟩ rfl rfl rfl rfl rfl (by kernel_rfl) Try.func8 (by kernel_rfl)
    (of_decide_eq_true (by kernel_rfl)) (by unfold Func.isWrapper; first | (rw [if_pos (by decide +kernel)]; kernel_rfl) | (rw [if_neg (by decide +kernel)]; exact ⟨rfl, rfl⟩))
    (fun os started H enc _ => lifted os started H enc)

theorem proved : Rows.CrcPartsSaid := over
end Go.Proofs.Ytjnjdhnibiibpaa.LawCrcParts
