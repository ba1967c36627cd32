/- Proved: davenportlaw19.DocOnce returns true for every input: Decode returns the metadata from its encoding, and rejects truncated and extended encodings. No condition. -/
import Derived.Test.YtmkkbomkonociaaRows
import Derived.Test.YtmkkbomkonociaaOpen
import Derived.Test.YtmkkbomkonociaaDocOpen
import Derived.Test.YtmkkbomkonociaaDocWakes
import Derived.Test.YtmkkbomkonociaaDocRead
import Derived.Test.YtmkkbomkonociaaDag
namespace Go.Proofs.Ytmkkbomkonociaa.LawDocOnce
open Go.ChangeShapes Go.WideShapes Go.ChangeAt Go.RowKit
open Go.ChangeMaps (open_string shut_string)
attribute [local go_sem] Dag.gives

set_option maxHeartbeats 8000000 in
theorem walk (i : Inf) (A : Option Addr) (n c : Nat) (l : List UInt8) (w : World) (hi : i.Ok) (hA : Arg w A n c l) :
    Calls Try.prog 9 #[.agg i.cells, .slice A n c] w fun e w' => e = .returned (.bool true) ∧ Below w.heap.size w w' := by
  obtain ⟨i0, hti, hz0, hz1, hz2⟩ := info_parts u8_info
  obtain ⟨hr, hnc, hc⟩ := hA
  have HI := hide hi
  have HR := hide hr
  have HC := hide (And.intro hnc hc)
  clear hi hr hnc hc
  obtain ⟨g, m, q, d, a⟩ := i
  unfold Inf.cells
  dsimp only
  go_enter Try.func9, Try.ntmps9
  go_wp2_with fail
  refine Calls.mono (wakes_any _) ?_
  rintro e w1 ⟨rfl, hb1⟩
  have HX1 := hide (on_heap (heap_alloc_last w _) hb1)
  have HB1 := hide (below_then (below_alloc w _) hb1)
  clear hb1
  obtain ⟨x0, x1, x2, x3, x4⟩ := five_at HX1.out
  go_wp2_with fail
  refine Calls.mono (encode_any ⟨g, m, q, d, a⟩ HI.out _) ?_
  rintro e w2 ⟨hb2, he⟩
  have HX2 := hide (on_heap HX1.out hb2)
  have HB2 := hide (below_then HB1.out hb2)
  clear hb2 x0 x1 x2 x3 x4 HX1 HB1
  cases hm : mayB ⟨g, m, q, d, a⟩ with
  | false =>
    rw [if_neg (by rw [hm]; simp)] at he
    subst he
    have HB := hide HB2.out
    clear hm HX2 HB2
    go_wp2_with fail
    refine Calls.mono (few_rb A n c l _ (by first | exact HR.out.on HB.out | exact HR.out.on (below_then HB.out (below_alloc _ _))) HC.out.1 HC.out.2) ?_
    rintro e w8 ⟨A2, n2, c2, rfl, hr2, hn2, hc2, hm2, hb8⟩
    generalize l.take FEW = L at *
    have HB8 := hide (show Below w.heap.size w w8 from by first | exact below_then HB.out hb8 | exact below_then HB.out (below_then (below_alloc _ _) hb8))
    have HR2 := hide hr2
    have HN2 := hide (And.intro hn2 (And.intro hc2 hm2))
    clear hb8 hr2 hn2 hc2 hm2 HB
    go_wp2_with fail
    refine Calls.mono (decode_any A2 n2 c2 L _ HR2.out HN2.out.2.1 (by have := HN2.out.1; omega)) ?_
    rintro e w9 ⟨hb9, rfl⟩
    have HB9 := hide (below_then HB8.out hb9)
    have HR9 := hide (HR2.out.on hb9)
    clear hb9 HB8 HR2
    cases hd : decoded L with
    | mk J k =>
      by_cases hk : k = 0
      · subst hk
        have hok := dec_ok (l := L) (by rw [hd])
        rw [hd] at hok
        obtain ⟨g5, m5, q5, d5, a5⟩ := J
        have HOK := hide hok
        clear hd hok
        unfold Inf.cells
        dsimp only
        go_wp2_with fail
        refine Calls.mono (encode_any ⟨g5, m5, q5, d5, a5⟩ HOK.out.2.2 _) ?_
        rintro e w10 ⟨hb10, he⟩
        rw [if_pos HOK.out.1] at he
        obtain ⟨A3, c3, rfl, hc3, hm3, hr3⟩ := he
        have hlen : infBytes ⟨g5, m5, q5, d5, a5⟩ = L := HOK.out.2.1
        rw [hlen] at hr3
        have HR3 := hide hr3
        have HB10 := hide (below_then HB9.out (below_then (below_alloc w9 _) hb10))
        have HR10 := hide (HR9.out.on (below_then (below_alloc w9 _) hb10))
        clear hb10 hc3 hm3 hr3 hlen HB9 HR9
        go_wp2_with fail
        refine Calls.mono (equal_b A3 A2 21 n2 c3 c2 L L _ HR3.out HR10.out (by omega) (by have := HN2.out.1; omega)) ?_
        rintro e w11 ⟨rfl, hb11⟩
        rw [decide_eq_true rfl]
        go_wp2_with fail
        go_ret
        exact ⟨rfl, below_then HB10.out hb11⟩
      · have hno := dec_no (l := L) (by rw [hd]; exact hk)
        rw [hd] at hno
        have hno : J = noInf := hno
        subst hno
        have hne : ((k : Int) != 0) = true := by rw [bne_iff_ne]; omega
        have hne2 : ¬ (k : Int) = 0 := by omega
        clear hd hk
        unfold noInf Inf.cells
        dsimp only
        go_wp2_with fail
        go_ret
        exact ⟨rfl, below_then HB9.out (below_alloc w9 _)⟩
  | true =>
    rw [if_pos hm] at he
    obtain ⟨AE, cE, rfl, hcE, hmE, hrE⟩ := he
    have HM := hide hm
    have HRE := hide hrE
    have HE := hide (And.intro hcE hmE)
    clear hm hcE hmE hrE
    go_wp2_with fail
    refine Calls.mono (decode_any AE 21 cE _ _ HRE.out HE.out.1 (by omega)) ?_
    rintro e w3 ⟨hb3, rfl⟩
    rw [dec_bytes HI.out HM.out]
    have HX3 := hide (on_heap HX2.out hb3)
    have HB3 := hide (below_then HB2.out hb3)
    have HRE3 := hide (HRE.out.on hb3)
    clear hb3 HX2 HB2 HRE
    unfold Inf.cells
    dsimp only
    have h20 : (20 : Int) ≤ (cE : Int) := by have := HE.out.1; omega
    go_wp2_with fail
    refine Calls.mono (decode_any AE 20 cE _ _ ((HRE3.out.on (below_alloc w3 _)).take 20 (by omega)) (by omega) (by omega)) ?_
    rintro e w4 ⟨hb4, rfl⟩
    rw [dec_short (l := (infBytes ⟨g, m, q, d, a⟩).take 20) (by rw [List.length_take]; omega)]
    have HX4 := hide (on_heap (old_heap HX3.out _) hb4)
    have HY4 := hide (on_heap (heap_alloc_last w3 _) hb4)
    have HB4 := hide (below_then HB3.out (below_then (below_alloc w3 _) hb4))
    have HRE4 := hide (HRE3.out.on (below_then (below_alloc w3 _) hb4))
    clear hb4 HX3 HB3 HRE3
    unfold noInf Inf.cells
    dsimp only
    go_wp2_with fail
    refine Calls.mono (clone_any AE 21 cE _ _ (HRE4.out.on (below_alloc w4 _)) (by omega)) ?_
    rintro e w5 ⟨vC, rfl, hoC, hb5⟩
    have HX5 := hide (on_heap (old_heap HX4.out _) hb5)
    have HY5 := hide (on_heap (old_heap HY4.out _) hb5)
    have HB5 := hide (below_then HB4.out (below_then (below_alloc w4 _) hb5))
    have HS5 := hide (show w4.heap.size + 1 ≤ w5.heap.size by have := hb5.size; simpa using this)
    have HO5 := hide hoC
    have HL4 := hide (And.intro (lt_heap HX4.out) (lt_heap HY4.out))
    have HSZ := hide HB4.out.size
    clear hb5 hoC HX4 HY4 HB4 HRE4
    go_wp2_with (at_builtin; go_loud (refine wpList_append_reads rfl (.tmp 42) (.tmp 43) _ rfl _ 5 i0 (.int .u8 0) 1 1 Try.underlying40 hti hz0 hz1 hz2 rfl (by omega) vC 21 (bytes (infBytes ⟨g, m, q, d, a⟩)) rfl (HO5.out.alloc _) (w5.heap.size + 1) (some ⟨w5.heap.size, 0, none⟩) 1 1 (bytes [0]) rfl (Reads.one _ _ _) bytes_one (by unfold maxLen; omega) (by omega) (by have := HS5.out; simp; omega) ?_); intro v6 w6 hown6 hg6 hat6)
    obtain ⟨A6, c6, rfl, hc6, hm6, hr6⟩ := own_slice hown6
    have hC := ((Below.refl (w4.heap.size + 1) w5).alloc HS5.out _).grown hg6 (by have := HS5.out; simp; omega) fun j hj => by have := (HO5.out.lt j hj).1; simpa using this
    have HX6 := hide ((hC.block w.heap.size (by have := HL4.out; omega)).trans HX5.out)
    have HY6 := hide ((hC.block w3.heap.size (by have := HL4.out; omega)).trans HY5.out)
    have HB6 := hide (HB5.out.trans (hC.mono (by have := HSZ.out; omega)))
    have HR6 : Hid (RB w6 A6 22 (infBytes ⟨g, m, q, d, a⟩ ++ [0])) := hide (by rw [RB, bytes_append]; exact hr6)
    have HC6 := hide (And.intro hc6 hm6)
    clear hown6 hg6 hat6 hc6 hm6 hr6 hC HX5 HY5 HB5 HO5
    refine Calls.mono (decode_any A6 22 c6 _ _ HR6.out HC6.out.1 (by omega)) ?_
    rintro e w7 ⟨hb7, rfl⟩
    rw [dec_long (l := infBytes ⟨g, m, q, d, a⟩ ++ [0]) (by rw [List.length_append, infBytes_len]; decide)]
    obtain ⟨x0, x1, x2, x3, x4⟩ := five_old (on_heap HX6.out hb7)
    obtain ⟨y0, y1, y2, y3, y4⟩ := five_old (on_heap HY6.out hb7)
    have HB := hide (below_then HB6.out hb7)
    clear hb7 HX6 HY6 HB6 HR6
    unfold noInf Inf.cells
    dsimp only
    go_wp2_with fail
    clear x0 x1 x2 x3 x4 y0 y1 y2 y3 y4
    refine Calls.mono (few_rb A n c l _ (by first | exact HR.out.on HB.out | exact HR.out.on (below_then HB.out (below_alloc _ _))) HC.out.1 HC.out.2) ?_
    rintro e w8 ⟨A2, n2, c2, rfl, hr2, hn2, hc2, hm2, hb8⟩
    generalize l.take FEW = L at *
    have HB8 := hide (show Below w.heap.size w w8 from by first | exact below_then HB.out hb8 | exact below_then HB.out (below_then (below_alloc _ _) hb8))
    have HR2 := hide hr2
    have HN2 := hide (And.intro hn2 (And.intro hc2 hm2))
    clear hb8 hr2 hn2 hc2 hm2 HB
    go_wp2_with fail
    refine Calls.mono (decode_any A2 n2 c2 L _ HR2.out HN2.out.2.1 (by have := HN2.out.1; omega)) ?_
    rintro e w9 ⟨hb9, rfl⟩
    have HB9 := hide (below_then HB8.out hb9)
    have HR9 := hide (HR2.out.on hb9)
    clear hb9 HB8 HR2
    cases hd : decoded L with
    | mk J k =>
      by_cases hk : k = 0
      · subst hk
        have hok := dec_ok (l := L) (by rw [hd])
        rw [hd] at hok
        obtain ⟨g5, m5, q5, d5, a5⟩ := J
        have HOK := hide hok
        clear hd hok
        unfold Inf.cells
        dsimp only
        go_wp2_with fail
        refine Calls.mono (encode_any ⟨g5, m5, q5, d5, a5⟩ HOK.out.2.2 _) ?_
        rintro e w10 ⟨hb10, he⟩
        rw [if_pos HOK.out.1] at he
        obtain ⟨A3, c3, rfl, hc3, hm3, hr3⟩ := he
        have hlen : infBytes ⟨g5, m5, q5, d5, a5⟩ = L := HOK.out.2.1
        rw [hlen] at hr3
        have HR3 := hide hr3
        have HB10 := hide (below_then HB9.out (below_then (below_alloc w9 _) hb10))
        have HR10 := hide (HR9.out.on (below_then (below_alloc w9 _) hb10))
        clear hb10 hc3 hm3 hr3 hlen HB9 HR9
        go_wp2_with fail
        refine Calls.mono (equal_b A3 A2 21 n2 c3 c2 L L _ HR3.out HR10.out (by omega) (by have := HN2.out.1; omega)) ?_
        rintro e w11 ⟨rfl, hb11⟩
        rw [decide_eq_true rfl]
        go_wp2_with fail
        go_ret
        exact ⟨rfl, below_then HB10.out hb11⟩
      · have hno := dec_no (l := L) (by rw [hd]; exact hk)
        rw [hd] at hno
        have hno : J = noInf := hno
        subst hno
        have hne : ((k : Int) != 0) = true := by rw [bne_iff_ne]; omega
        have hne2 : ¬ (k : Int) = 0 := by omega
        clear hd hk
        unfold noInf Inf.cells
        dsimp only
        go_wp2_with fail
        go_ret
        exact ⟨rfl, below_then HB9.out (below_alloc w9 _)⟩
/-! ### the row's step, written by program after the guide's skeleton -/
theorem own : ownKnob Try.prog.godebug = none := by kernel_rfl
theorem laidOut : laidOutB Try.prog = true := by kernel_rfl
set_option maxRecDepth 100000 in
theorem lifted (os : Os) (started : os.Started) (H : Type) (enc : TypeId × Value → H) :
    ReturnsInHanded {} Try.checked os 9 .any (Rows.docOnceSpec.pre6 enc Try.prog Try.f9 Rows.docOnceRow.domain false) (Rows.docOnceSpec.post enc Try.prog Try.f9 false true false false) := by
  refine returnsInHanded_of_change (C := Try.checked) own started (by kernel_rfl) Try.func9
    (ChangeSpec.witness6 (enc := enc) (C := Try.checked) false ⟨#[], #[.agg #[.int .u32 0, .int .u32 0, .int .u64 0, .bool false, .int .i64 0], .slice none 0 0], []⟩ 8 (by kernel_rfl) (by kernel_rfl) (by kernel_rfl) (by kernel_rfl)) ?_
  intro W base args ds gs before hval0 hW hcnd _
  have hval : ∀ (j : Nat) t v, Try.f9.params[j]? = some t → args[j]? = some v → Value.okWide Try.prog W .any base t v := hval0
  have hW' := hW
  obtain ⟨p, q, hA0, hV, rfl, hfz, hnd⟩ := hW
  have hA : DataW.TrodAll enc Try.prog W 0 (fun _ => true) true Try.f9.params.toList args.toList ds p := hA0
  rw [Try.params9] at hA hval
  obtain ⟨v0, vs0, d0, ds0, p0, q0, hargs, rfl, rfl, h0, r0⟩ := trodAll_cons hA
  obtain ⟨v1, vs1, d1, ds1, p1, q1, rfl, rfl, rfl, h1, r1⟩ := trodAll_cons r0
  obtain ⟨rfl, rfl, rfl⟩ := trodAll_nil r1
  obtain rfl : args = #[v0, v1] := by cases args; simp_all
  obtain ⟨rfl, rfl⟩ := trodVars_none hV
  have k0 := h0
  have lt0 := trod_lt' k0
  obtain ⟨x0, rfl, w0⟩ := arg_info (hval 0 48 v0 rfl rfl) h0
  have k1 := h1
  have lt1 := trod_lt' k1
  obtain ⟨a1, n1, c1, l1, rfl, w1⟩ := arg_bytes Try.underlying40 Try.underlying5 (by kernel_rfl) (hval 1 40 v1 rfl rfl) h1
  clear hA0 hval0
  refine (walk x0 a1 n1 c1 l1 W w0 w1).mono fun e W' ⟨he, bel⟩ => ?_
  subst he
  exact ⟨_, rfl, _, _, _, [], _, [], hW', trodAll_mk1 (shut_bool Try.underlying4 _), (trodAll_cons_mk (Below.trod laidOut (by kernel_rfl) (of_decide_eq_true (by kernel_rfl)) k0 bel lt0) (trodAll_cons_mk (Below.trod laidOut (by kernel_rfl) (of_decide_eq_true (by kernel_rfl)) k1 bel lt1) trodAll_mk0)), rfl, bel.frame _, fun h => by cases h⟩

theorem over : Rows.docOnceRow.holds Try.pinned (OpenSpec.ofChange Rows.docOnceSpec) :=
  OpenClaim.holds_of_wide 9 Try.f9 rfl rfl rfl rfl rfl rfl rfl ⟨rfl, rfl, rfl, rfl, rfl⟩ rfl rfl rfl rfl rfl (by kernel_rfl) Try.func9 (by kernel_rfl)
    (of_decide_eq_true (by kernel_rfl)) (by unfold Func.isWrapper; first | (rw [if_pos (by decide +kernel)]; kernel_rfl) | (rw [if_neg (by decide +kernel)]; exact ⟨rfl, rfl⟩))
    (fun os started H enc _ => lifted os started H enc)

theorem proved : Rows.DocOnceSaid := over
end Go.Proofs.Ytmkkbomkonociaa.LawDocOnce
