/- Proved: davenportlaw19.DocCodes returns true for every input: Encode and Decode agree with their definitions for any metadata and bytes. No condition. -/
import Derived.Test.YtmkkbomkonociaaRows
import Derived.Test.YtmkkbomkonociaaOpen
import Derived.Test.YtmkkbomkonociaaDocOpen
import Derived.Test.YtmkkbomkonociaaDocWakes
import Derived.Test.YtmkkbomkonociaaDocRead
import Derived.Test.YtmkkbomkonociaaDag
namespace Go.Proofs.Ytmkkbomkonociaa.LawDocCodes
open Go.ChangeShapes Go.WideShapes Go.ChangeAt Go.RowKit
open Go.ChangeMaps (open_string shut_string)
attribute [local go_sem] Dag.gives

set_option maxHeartbeats 8000000 in
theorem walk (i : Inf) (A : Option Addr) (n c : Nat) (l : List UInt8) (w : World) (hi : i.Ok) (hA : Arg w A n c l) :
    Calls Try.prog 7 #[.agg i.cells, .slice A n c] w fun e w' => e = .returned (.bool true) ∧ Below w.heap.size w w' := by
  obtain ⟨hr, hnc, hc⟩ := hA
  have HI := hide hi
  have HR := hide hr
  have HC := hide (And.intro hnc hc)
  clear hi hr hnc hc
  obtain ⟨g, m, q, d, a⟩ := i
  unfold Inf.cells
  dsimp only
  go_enter Try.func7, Try.ntmps7
  go_wp2_with fail
  refine Calls.mono (wakes_any _) ?_
  rintro e w1 ⟨rfl, hb1⟩
  have HX1 := hide (on_heap (heap_alloc_last w _) hb1)
  have HB1 := hide (below_then (below_alloc w _) hb1)
  clear hb1
  obtain ⟨x0, x1, x2, x3, x4⟩ := five_at HX1.out
  go_wp2_with fail
  refine Calls.mono (encode_any ⟨g, m, q, d, a⟩ HI.out _) ?_
  rintro e w2 ⟨hb2, he⟩
  have HX2 := hide (on_heap HX1.out hb2)
  have HB2 := hide (below_then HB1.out hb2)
  clear hb2 x0 x1 x2 x3 x4 HX1 HB1
  obtain ⟨x0, x1, x2, x3, x4⟩ := five_at HX2.out
  cases hm : mayB ⟨g, m, q, d, a⟩ with
  | false =>
    rw [if_neg (by rw [hm]; simp)] at he
    subst he
    have HM := hide hm
    clear hm
    go_wp2_with fail
    refine Calls.mono (rmay_any ⟨g, m, q, d, a⟩ HI.out _) ?_
    rintro e w3 ⟨rfl, hb3⟩
    rw [HM.out]
    have HB := hide (below_then HB2.out hb3)
    clear hb3 x0 x1 x2 x3 x4 HX2 HB2
    go_wp2_with fail
    refine Calls.mono (few_rb A n c l _ (HR.out.on HB.out) HC.out.1 HC.out.2) ?_
    rintro e w6 ⟨A2, n2, c2, rfl, hr2, hn2, hc2, hm2, hb6⟩
    generalize hL : l.take FEW = L at *
    have HL := hide hL
    have HB6 := hide (below_then HB.out hb6)
    have HR2 := hide hr2
    have HN2 := hide (And.intro hn2 (And.intro hc2 hm2))
    have HLN := hide hr2.len
    clear hL hb6 hr2 hn2 hc2 hm2 HB
    go_wp2_with fail
    refine Calls.mono (decode_any A2 n2 c2 L _ HR2.out HN2.out.2.1 (by have := HN2.out.1; omega)) ?_
    rintro e w7 ⟨hb7, rfl⟩
    have HB7 := hide (below_then HB6.out hb7)
    have HR7 := hide (HR2.out.on hb7)
    clear hb7 HB6 HR2
    by_cases hsh : L.length < 21
    · have hn21 : (n2 : Int) < 21 := by have := HLN.out; omega
      rw [dec_short hsh]
      have HRD := hide (show readR L = (noInf, false) by unfold readR; rw [if_neg (fun h => by omega)])
      clear hsh
      unfold noInf Inf.cells
      dsimp only
      go_wp2_with fail
      refine Calls.mono (rread_any A2 n2 c2 L _ (HR7.out.on (below_alloc w7 _)) HN2.out.2.1) ?_
      rintro e w8 ⟨rfl, hb8⟩
      rw [HRD.out]
      obtain ⟨y0, y1, y2, y3, y4⟩ := five_old (on_heap (heap_alloc_last w7 _) hb8)
      have HB8 := hide (below_then HB7.out (below_then (below_alloc w7 _) hb8))
      clear hb8
      unfold noInf Inf.cells
      dsimp only
      go_wp2_with fail
      go_ret
      exact ⟨rfl, below_then HB8.out (below_alloc w8 _)⟩
    · have hn21 : ¬ (n2 : Int) < 21 := by have := HLN.out; omega
      rw [dec_read hsh]
      cases hrd : readR L with
      | mk J k =>
        obtain ⟨g5, m5, q5, d5, a5⟩ := J
        have HRD := hide hrd
        cases k with
        | false =>
          have HJ := hide (show (⟨g5, m5, q5, d5, a5⟩ : Inf) = noInf by
            unfold readR at hrd
            split at hrd
            · simp at hrd
            · simp only [Prod.mk.injEq, and_true] at hrd; exact hrd.symm)
          clear hsh hrd
          unfold noInf at HJ
          obtain ⟨rfl, rfl, rfl, rfl, rfl⟩ : g5 = 0 ∧ m5 = 0 ∧ q5 = 0 ∧ d5 = false ∧ a5 = 0 := by have := HJ.out; simpa using this
          clear HJ
          simp only [Bool.false_eq_true, if_false]
          unfold noInf Inf.cells
          dsimp only
          go_wp2_with fail
          refine Calls.mono (rread_any A2 n2 c2 L _ (HR7.out.on (below_alloc w7 _)) HN2.out.2.1) ?_
          rintro e w8 ⟨rfl, hb8⟩
          rw [HRD.out]
          obtain ⟨y0, y1, y2, y3, y4⟩ := five_old (on_heap (heap_alloc_last w7 _) hb8)
          have HB8 := hide (below_then HB7.out (below_then (below_alloc w7 _) hb8))
          clear hb8
          unfold Inf.cells
          dsimp only
          go_wp2_with fail
          go_ret
          exact ⟨rfl, below_then HB8.out (below_alloc w8 _)⟩
        | true =>
          clear hsh hrd
          simp only [if_true]
          unfold Inf.cells
          dsimp only
          go_wp2_with fail
          refine Calls.mono (rread_any A2 n2 c2 L _ (HR7.out.on (below_alloc w7 _)) HN2.out.2.1) ?_
          rintro e w8 ⟨rfl, hb8⟩
          rw [HRD.out]
          obtain ⟨y0, y1, y2, y3, y4⟩ := five_old (on_heap (heap_alloc_last w7 _) hb8)
          have HB8 := hide (below_then HB7.out (below_then (below_alloc w7 _) hb8))
          have HR8 := hide (HR7.out.on (below_then (below_alloc w7 _) hb8))
          clear hb8 HB7 HR7
          unfold Inf.cells
          dsimp only
          go_wp2_with fail
          refine Calls.mono (few_rb A n c l _ (HR.out.on (below_then HB8.out (below_alloc w8 _))) HC.out.1 HC.out.2) ?_
          rintro e w9 ⟨A9, n9, c9, rfl, hr9, hn9, hc9, hm9, hb9⟩
          rw [HL.out] at hr9
          have HR9 := hide hr9
          have HN9 := hide hn9
          have HB9 := hide (below_then HB8.out (below_then (below_alloc w8 _) hb9))
          have HR29 := hide (HR8.out.on (below_then (below_alloc w8 _) hb9))
          clear hb9 hr9 hn9 hc9 hm9 y0 y1 y2 y3 y4
          go_wp2_with fail
          refine Calls.mono (equal_b A2 A9 n2 n9 c2 c9 L L _ HR29.out HR9.out (by have := HN2.out.1; omega) (by have := HN9.out; omega)) ?_
          rintro e w10 ⟨rfl, hb10⟩
          rw [decide_eq_true rfl]
          go_wp2_with fail
          go_ret
          exact ⟨rfl, below_then HB9.out hb10⟩
  | true =>
    rw [if_pos hm] at he
    obtain ⟨AE, cE, rfl, hcE, hmE, hrE⟩ := he
    have HM := hide hm
    have HRE := hide hrE
    clear hm hcE hmE hrE
    go_wp2_with fail
    refine Calls.mono (rmay_any ⟨g, m, q, d, a⟩ HI.out _) ?_
    rintro e w3 ⟨rfl, hb3⟩
    rw [HM.out]
    have HX3 := hide (on_heap HX2.out hb3)
    have HB3 := hide (below_then HB2.out hb3)
    have HRE3 := hide (HRE.out.on hb3)
    clear hb3 x0 x1 x2 x3 x4 HX2 HB2 HRE
    obtain ⟨x0, x1, x2, x3, x4⟩ := five_at HX3.out
    go_wp2_with fail
    refine Calls.mono (rbytes_any ⟨g, m, q, d, a⟩ HI.out HM.out _) ?_
    rintro e w4 ⟨AB, cB, rfl, hcB, hmB, hrB, hb4⟩
    have HB4 := hide (below_then HB3.out hb4)
    have HRE4 := hide (HRE3.out.on hb4)
    have HRB := hide hrB
    clear hb4 x0 x1 x2 x3 x4 HX3 HB3 HRE3 hcB hmB hrB
    go_wp2_with fail
    refine Calls.mono (equal_b AE AB 21 21 cE cB _ _ _ HRE4.out HRB.out (by omega) (by omega)) ?_
    rintro e w5 ⟨rfl, hb5⟩
    rw [decide_eq_true rfl]
    have HB := hide (below_then HB4.out hb5)
    clear hb5 HB4 HRE4 HRB
    go_wp2_with fail
    refine Calls.mono (few_rb A n c l _ (HR.out.on HB.out) HC.out.1 HC.out.2) ?_
    rintro e w6 ⟨A2, n2, c2, rfl, hr2, hn2, hc2, hm2, hb6⟩
    generalize hL : l.take FEW = L at *
    have HL := hide hL
    have HB6 := hide (below_then HB.out hb6)
    have HR2 := hide hr2
    have HN2 := hide (And.intro hn2 (And.intro hc2 hm2))
    have HLN := hide hr2.len
    clear hL hb6 hr2 hn2 hc2 hm2 HB
    go_wp2_with fail
    refine Calls.mono (decode_any A2 n2 c2 L _ HR2.out HN2.out.2.1 (by have := HN2.out.1; omega)) ?_
    rintro e w7 ⟨hb7, rfl⟩
    have HB7 := hide (below_then HB6.out hb7)
    have HR7 := hide (HR2.out.on hb7)
    clear hb7 HB6 HR2
    by_cases hsh : L.length < 21
    · have hn21 : (n2 : Int) < 21 := by have := HLN.out; omega
      rw [dec_short hsh]
      have HRD := hide (show readR L = (noInf, false) by unfold readR; rw [if_neg (fun h => by omega)])
      clear hsh
      unfold noInf Inf.cells
      dsimp only
      go_wp2_with fail
      refine Calls.mono (rread_any A2 n2 c2 L _ (HR7.out.on (below_alloc w7 _)) HN2.out.2.1) ?_
      rintro e w8 ⟨rfl, hb8⟩
      rw [HRD.out]
      obtain ⟨y0, y1, y2, y3, y4⟩ := five_old (on_heap (heap_alloc_last w7 _) hb8)
      have HB8 := hide (below_then HB7.out (below_then (below_alloc w7 _) hb8))
      clear hb8
      unfold noInf Inf.cells
      dsimp only
      go_wp2_with fail
      go_ret
      exact ⟨rfl, below_then HB8.out (below_alloc w8 _)⟩
    · have hn21 : ¬ (n2 : Int) < 21 := by have := HLN.out; omega
      rw [dec_read hsh]
      cases hrd : readR L with
      | mk J k =>
        obtain ⟨g5, m5, q5, d5, a5⟩ := J
        have HRD := hide hrd
        cases k with
        | false =>
          have HJ := hide (show (⟨g5, m5, q5, d5, a5⟩ : Inf) = noInf by
            unfold readR at hrd
            split at hrd
            · simp at hrd
            · simp only [Prod.mk.injEq, and_true] at hrd; exact hrd.symm)
          clear hsh hrd
          unfold noInf at HJ
          obtain ⟨rfl, rfl, rfl, rfl, rfl⟩ : g5 = 0 ∧ m5 = 0 ∧ q5 = 0 ∧ d5 = false ∧ a5 = 0 := by have := HJ.out; simpa using this
          clear HJ
          simp only [Bool.false_eq_true, if_false]
          unfold noInf Inf.cells
          dsimp only
          go_wp2_with fail
          refine Calls.mono (rread_any A2 n2 c2 L _ (HR7.out.on (below_alloc w7 _)) HN2.out.2.1) ?_
          rintro e w8 ⟨rfl, hb8⟩
          rw [HRD.out]
          obtain ⟨y0, y1, y2, y3, y4⟩ := five_old (on_heap (heap_alloc_last w7 _) hb8)
          have HB8 := hide (below_then HB7.out (below_then (below_alloc w7 _) hb8))
          clear hb8
          unfold Inf.cells
          dsimp only
          go_wp2_with fail
          go_ret
          exact ⟨rfl, below_then HB8.out (below_alloc w8 _)⟩
        | true =>
          clear hsh hrd
          simp only [if_true]
          unfold Inf.cells
          dsimp only
          go_wp2_with fail
          refine Calls.mono (rread_any A2 n2 c2 L _ (HR7.out.on (below_alloc w7 _)) HN2.out.2.1) ?_
          rintro e w8 ⟨rfl, hb8⟩
          rw [HRD.out]
          obtain ⟨y0, y1, y2, y3, y4⟩ := five_old (on_heap (heap_alloc_last w7 _) hb8)
          have HB8 := hide (below_then HB7.out (below_then (below_alloc w7 _) hb8))
          have HR8 := hide (HR7.out.on (below_then (below_alloc w7 _) hb8))
          clear hb8 HB7 HR7
          unfold Inf.cells
          dsimp only
          go_wp2_with fail
          refine Calls.mono (few_rb A n c l _ (HR.out.on (below_then HB8.out (below_alloc w8 _))) HC.out.1 HC.out.2) ?_
          rintro e w9 ⟨A9, n9, c9, rfl, hr9, hn9, hc9, hm9, hb9⟩
          rw [HL.out] at hr9
          have HR9 := hide hr9
          have HN9 := hide hn9
          have HB9 := hide (below_then HB8.out (below_then (below_alloc w8 _) hb9))
          have HR29 := hide (HR8.out.on (below_then (below_alloc w8 _) hb9))
          clear hb9 hr9 hn9 hc9 hm9 y0 y1 y2 y3 y4
          go_wp2_with fail
          refine Calls.mono (equal_b A2 A9 n2 n9 c2 c9 L L _ HR29.out HR9.out (by have := HN2.out.1; omega) (by have := HN9.out; omega)) ?_
          rintro e w10 ⟨rfl, hb10⟩
          rw [decide_eq_true rfl]
          go_wp2_with fail
          go_ret
          exact ⟨rfl, below_then HB9.out hb10⟩
/-! ### the row's step, written by program after the guide's skeleton -/
theorem own : ownKnob Try.prog.godebug = none := by kernel_rfl
theorem laidOut : laidOutB Try.prog = true := by kernel_rfl
set_option maxRecDepth 100000 in
theorem lifted (os : Os) (started : os.Started) (H : Type) (enc : TypeId × Value → H) :
    ReturnsInHanded {} Try.checked os 7 .any (Rows.docCodesSpec.pre6 enc Try.prog Try.f7 Rows.docCodesRow.domain false) (Rows.docCodesSpec.post enc Try.prog Try.f7 false true false false) := by
  refine returnsInHanded_of_change (C := Try.checked) own started (by kernel_rfl) Try.func7
    (ChangeSpec.witness6 (enc := enc) (C := Try.checked) false ⟨#[], #[.agg #[.int .u32 0, .int .u32 0, .int .u64 0, .bool false, .int .i64 0], .slice none 0 0], []⟩ 8 (by kernel_rfl) (by kernel_rfl) (by kernel_rfl) (by kernel_rfl)) ?_
  intro W base args ds gs before hval0 hW hcnd _
  have hval : ∀ (j : Nat) t v, Try.f7.params[j]? = some t → args[j]? = some v → Value.okWide Try.prog W .any base t v := hval0
  have hW' := hW
  obtain ⟨p, q, hA0, hV, rfl, hfz, hnd⟩ := hW
  have hA : DataW.TrodAll enc Try.prog W 0 (fun _ => true) true Try.f7.params.toList args.toList ds p := hA0
  rw [Try.params7] at hA hval
  obtain ⟨v0, vs0, d0, ds0, p0, q0, hargs, rfl, rfl, h0, r0⟩ := trodAll_cons hA
  obtain ⟨v1, vs1, d1, ds1, p1, q1, rfl, rfl, rfl, h1, r1⟩ := trodAll_cons r0
  obtain ⟨rfl, rfl, rfl⟩ := trodAll_nil r1
  obtain rfl : args = #[v0, v1] := by cases args; simp_all
  obtain ⟨rfl, rfl⟩ := trodVars_none hV
  have k0 := h0
  have lt0 := trod_lt' k0
  obtain ⟨x0, rfl, w0⟩ := arg_info (hval 0 48 v0 rfl rfl) h0
  have k1 := h1
  have lt1 := trod_lt' k1
  obtain ⟨a1, n1, c1, l1, rfl, w1⟩ := arg_bytes Try.underlying40 Try.underlying5 (by kernel_rfl) (hval 1 40 v1 rfl rfl) h1
  clear hA0 hval0
  refine (walk x0 a1 n1 c1 l1 W w0 w1).mono fun e W' ⟨he, bel⟩ => ?_
  subst he
  exact ⟨_, rfl, _, _, _, [], _, [], hW', trodAll_mk1 (shut_bool Try.underlying4 _), (trodAll_cons_mk (Below.trod laidOut (by kernel_rfl) (of_decide_eq_true (by kernel_rfl)) k0 bel lt0) (trodAll_cons_mk (Below.trod laidOut (by kernel_rfl) (of_decide_eq_true (by kernel_rfl)) k1 bel lt1) trodAll_mk0)), rfl, bel.frame _, fun h => by cases h⟩

theorem over : Rows.docCodesRow.holds Try.pinned (OpenSpec.ofChange Rows.docCodesSpec) :=
  OpenClaim.holds_of_wide 7 Try.f7 rfl rfl rfl rfl rfl rfl rfl ⟨rfl, rfl, rfl, rfl, rfl⟩ rfl rfl rfl rfl rfl (by kernel_rfl) Try.func7 (by kernel_rfl)
    (of_decide_eq_true (by kernel_rfl)) (by unfold Func.isWrapper; first | (rw [if_pos (by decide +kernel)]; kernel_rfl) | (rw [if_neg (by decide +kernel)]; exact ⟨rfl, rfl⟩))
    (fun os started H enc _ => lifted os started H enc)

theorem proved : Rows.DocCodesSaid := over
end Go.Proofs.Ytmkkbomkonociaa.LawDocCodes
