/- Proved: davenportlaw19.DocTexts returns true for every input: RevText and ParseRev agree with their definitions for any revision and string. No condition. -/
import Derived.Test.YtmkkbomkonociaaRows
import Derived.Test.YtmkkbomkonociaaOpen
import Derived.Test.YtmkkbomkonociaaDocOpen
import Derived.Test.YtmkkbomkonociaaDocWakes
import Derived.Test.YtmkkbomkonociaaDocRefParse
import Derived.Test.YtmkkbomkonociaaDocRead
import Derived.Test.YtmkkbomkonociaaDag
namespace Go.Proofs.Ytmkkbomkonociaa.LawDocTexts
open Go.ChangeShapes Go.WideShapes Go.ChangeAt Go.RowKit
open Go.ChangeMaps (open_string shut_string)
attribute [local go_sem] Dag.gives

/-- the text, cut -/
def sh (s : ByteArray) : ByteArray := if (100 : Int) < s.size then s.extract 0 100 else s
theorem sh_size (s : ByteArray) : (sh s).size ≤ 100 := by
  unfold sh
  split
  · rw [ByteArray.size_extract]; omega
  · omega
theorem sh_cases (s : ByteArray) : ((100 : Int) < s.size ∧ sh s = s.extract 0 100) ∨ ((s.size : Int) ≤ 100 ∧ sh s = s) := by
  unfold sh
  split
  · exact .inl ⟨by assumption, rfl⟩
  · exact .inr ⟨by omega, rfl⟩
set_option maxHeartbeats 8000000 in
theorem walk (g m : Nat) (s : ByteArray) (w : World) (hg : g < 4294967296) (hm : m < 4294967296) (_w1 : s.size ≤ maxLen) :
    Calls Try.prog 4 #[.agg #[.int .u32 (g : Int), .int .u32 (m : Int)], .string s] w fun e w' => e = .returned (.bool true) ∧ Below w.heap.size w w' := by
  have HG := hide hg
  have HM := hide hm
  clear hg hm
  go_enter Try.func4, Try.ntmps4
  go_wp2_with fail
  refine Calls.mono (wakes_any _) ?_
  rintro e w1 ⟨rfl, hb1⟩
  have HX1 := hide (on_heap (heap_alloc_last w _) hb1)
  have HB1 := hide (below_then (below_alloc w _) hb1)
  clear hb1
  have hs := sh_cases s
  rcases hs with ⟨hs1, hs2⟩ | ⟨hs1, hs2⟩
  · have ha := sh_size s
    rw [hs2] at ha
    clear hs2 _w1
    obtain ⟨x0, x1⟩ := two_at HX1.out
    go_wp2_with fail
    clear hs1 x0 x1
    generalize s.extract 0 100 = s at *
    obtain ⟨x0, x1⟩ := two_at HX1.out
    refine Calls.mono (revtext_any g m _ HG.out HM.out) ?_
    rintro e w2 ⟨rfl, hb2⟩
    have HX2 := hide (on_heap HX1.out hb2)
    have HB2 := hide (below_then HB1.out hb2)
    clear hb2 x0 x1 HX1 HB1
    obtain ⟨x0, x1⟩ := two_at HX2.out
    cases hb : isRev g m with
    | false =>
      rw [show revErr g m = 291 by simp [revErr, hb]]
      have HB := hide hb
      have hz : g = 0 := by unfold isRev at hb; simp at hb; omega
      have hS : str (revText g m) = ByteArray.mk #[] := by rw [hz]; rfl
      rw [hS]
      clear hb hz hS
      go_wp2_with fail
      refine Calls.mono (refIs_any g m _ HG.out HM.out) ?_
      rintro e w3 ⟨rfl, hb3⟩
      rw [HB.out]
      have HB4 := hide (below_then HB2.out hb3)
      clear hb3 x0 x1 HX2 HB2
      go_wp2_with fail
      refine Calls.mono (parserev_any s _ (by omega)) ?_
      rintro e w5 ⟨hb5, rfl⟩
      rw [parsed_ref]
      have HB5 := hide (below_then HB4.out hb5)
      clear hb5 HB4
      cases hp : refParse s.data.toList with
      | none =>
        have HP := hide hp
        clear hp
        dsimp only
        go_wp2_with fail
        refine Calls.mono (refparse_any s _ (by omega)) ?_
        rintro e w6 ⟨hb6, rfl⟩
        rw [HP.out]
        obtain ⟨y0, y1⟩ := two_old (on_heap (heap_alloc_last w5 _) hb6)
        have HB6 := hide (below_then HB5.out (below_then (below_alloc w5 _) hb6))
        clear hb6 HB5
        unfold refV
        dsimp only
        go_wp2_with fail
        go_ret
        exact ⟨rfl, below_then HB6.out (below_alloc w6 _)⟩
      | some p =>
        obtain ⟨g5, m5⟩ := p
        have HP := hide hp
        clear hp
        dsimp only
        go_wp2_with fail
        refine Calls.mono (refparse_any s _ (by omega)) ?_
        rintro e w6 ⟨hb6, rfl⟩
        rw [HP.out]
        obtain ⟨y0, y1⟩ := two_old (on_heap (heap_alloc_last w5 _) hb6)
        have HB6 := hide (below_then HB5.out (below_then (below_alloc w5 _) hb6))
        clear hb6 HB5
        unfold refV
        dsimp only
        go_wp2_with fail
        go_ret
        exact ⟨rfl, below_then HB6.out (below_alloc w6 _)⟩
    | true =>
      rw [show revErr g m = 0 by simp [revErr, hb]]
      have HB := hide hb
      clear hb
      go_wp2_with fail
      refine Calls.mono (refIs_any g m _ HG.out HM.out) ?_
      rintro e w3 ⟨rfl, hb3⟩
      rw [HB.out]
      have HX3 := hide (on_heap HX2.out hb3)
      have HB3 := hide (below_then HB2.out hb3)
      clear hb3 x0 x1 HX2 HB2
      obtain ⟨x0, x1⟩ := two_at HX3.out
      go_wp2_with fail
      refine Calls.mono (text_any g m _ HG.out HM.out HB.out) ?_
      rintro e w4 ⟨rfl, hb4⟩
      have HB4 := hide (below_then HB3.out hb4)
      clear hb4 x0 x1 HX3 HB3
      have ht : ((str (revText g m)).toList == (str (revText g m)).toList) = true := by simp
      generalize str (revText g m) = T at *
      go_wp2_with fail
      refine Calls.mono (parserev_any s _ (by omega)) ?_
      rintro e w5 ⟨hb5, rfl⟩
      rw [parsed_ref]
      have HB5 := hide (below_then HB4.out hb5)
      clear hb5 HB4
      cases hp : refParse s.data.toList with
      | none =>
        have HP := hide hp
        clear hp
        dsimp only
        go_wp2_with fail
        refine Calls.mono (refparse_any s _ (by omega)) ?_
        rintro e w6 ⟨hb6, rfl⟩
        rw [HP.out]
        obtain ⟨y0, y1⟩ := two_old (on_heap (heap_alloc_last w5 _) hb6)
        have HB6 := hide (below_then HB5.out (below_then (below_alloc w5 _) hb6))
        clear hb6 HB5
        unfold refV
        dsimp only
        go_wp2_with fail
        go_ret
        exact ⟨rfl, below_then HB6.out (below_alloc w6 _)⟩
      | some p =>
        obtain ⟨g5, m5⟩ := p
        have HP := hide hp
        clear hp
        dsimp only
        go_wp2_with fail
        refine Calls.mono (refparse_any s _ (by omega)) ?_
        rintro e w6 ⟨hb6, rfl⟩
        rw [HP.out]
        obtain ⟨y0, y1⟩ := two_old (on_heap (heap_alloc_last w5 _) hb6)
        have HB6 := hide (below_then HB5.out (below_then (below_alloc w5 _) hb6))
        clear hb6 HB5
        unfold refV
        dsimp only
        go_wp2_with fail
        go_ret
        exact ⟨rfl, below_then HB6.out (below_alloc w6 _)⟩
  · have ha := sh_size s
    rw [hs2] at ha
    clear hs2 _w1
    obtain ⟨x0, x1⟩ := two_at HX1.out
    go_wp2_with fail
    clear hs1 x0 x1
    obtain ⟨x0, x1⟩ := two_at HX1.out
    refine Calls.mono (revtext_any g m _ HG.out HM.out) ?_
    rintro e w2 ⟨rfl, hb2⟩
    have HX2 := hide (on_heap HX1.out hb2)
    have HB2 := hide (below_then HB1.out hb2)
    clear hb2 x0 x1 HX1 HB1
    obtain ⟨x0, x1⟩ := two_at HX2.out
    cases hb : isRev g m with
    | false =>
      rw [show revErr g m = 291 by simp [revErr, hb]]
      have HB := hide hb
      have hz : g = 0 := by unfold isRev at hb; simp at hb; omega
      have hS : str (revText g m) = ByteArray.mk #[] := by rw [hz]; rfl
      rw [hS]
      clear hb hz hS
      go_wp2_with fail
      refine Calls.mono (refIs_any g m _ HG.out HM.out) ?_
      rintro e w3 ⟨rfl, hb3⟩
      rw [HB.out]
      have HB4 := hide (below_then HB2.out hb3)
      clear hb3 x0 x1 HX2 HB2
      go_wp2_with fail
      refine Calls.mono (parserev_any s _ (by omega)) ?_
      rintro e w5 ⟨hb5, rfl⟩
      rw [parsed_ref]
      have HB5 := hide (below_then HB4.out hb5)
      clear hb5 HB4
      cases hp : refParse s.data.toList with
      | none =>
        have HP := hide hp
        clear hp
        dsimp only
        go_wp2_with fail
        refine Calls.mono (refparse_any s _ (by omega)) ?_
        rintro e w6 ⟨hb6, rfl⟩
        rw [HP.out]
        obtain ⟨y0, y1⟩ := two_old (on_heap (heap_alloc_last w5 _) hb6)
        have HB6 := hide (below_then HB5.out (below_then (below_alloc w5 _) hb6))
        clear hb6 HB5
        unfold refV
        dsimp only
        go_wp2_with fail
        go_ret
        exact ⟨rfl, below_then HB6.out (below_alloc w6 _)⟩
      | some p =>
        obtain ⟨g5, m5⟩ := p
        have HP := hide hp
        clear hp
        dsimp only
        go_wp2_with fail
        refine Calls.mono (refparse_any s _ (by omega)) ?_
        rintro e w6 ⟨hb6, rfl⟩
        rw [HP.out]
        obtain ⟨y0, y1⟩ := two_old (on_heap (heap_alloc_last w5 _) hb6)
        have HB6 := hide (below_then HB5.out (below_then (below_alloc w5 _) hb6))
        clear hb6 HB5
        unfold refV
        dsimp only
        go_wp2_with fail
        go_ret
        exact ⟨rfl, below_then HB6.out (below_alloc w6 _)⟩
    | true =>
      rw [show revErr g m = 0 by simp [revErr, hb]]
      have HB := hide hb
      clear hb
      go_wp2_with fail
      refine Calls.mono (refIs_any g m _ HG.out HM.out) ?_
      rintro e w3 ⟨rfl, hb3⟩
      rw [HB.out]
      have HX3 := hide (on_heap HX2.out hb3)
      have HB3 := hide (below_then HB2.out hb3)
      clear hb3 x0 x1 HX2 HB2
      obtain ⟨x0, x1⟩ := two_at HX3.out
      go_wp2_with fail
      refine Calls.mono (text_any g m _ HG.out HM.out HB.out) ?_
      rintro e w4 ⟨rfl, hb4⟩
      have HB4 := hide (below_then HB3.out hb4)
      clear hb4 x0 x1 HX3 HB3
      have ht : ((str (revText g m)).toList == (str (revText g m)).toList) = true := by simp
      generalize str (revText g m) = T at *
      go_wp2_with fail
      refine Calls.mono (parserev_any s _ (by omega)) ?_
      rintro e w5 ⟨hb5, rfl⟩
      rw [parsed_ref]
      have HB5 := hide (below_then HB4.out hb5)
      clear hb5 HB4
      cases hp : refParse s.data.toList with
      | none =>
        have HP := hide hp
        clear hp
        dsimp only
        go_wp2_with fail
        refine Calls.mono (refparse_any s _ (by omega)) ?_
        rintro e w6 ⟨hb6, rfl⟩
        rw [HP.out]
        obtain ⟨y0, y1⟩ := two_old (on_heap (heap_alloc_last w5 _) hb6)
        have HB6 := hide (below_then HB5.out (below_then (below_alloc w5 _) hb6))
        clear hb6 HB5
        unfold refV
        dsimp only
        go_wp2_with fail
        go_ret
        exact ⟨rfl, below_then HB6.out (below_alloc w6 _)⟩
      | some p =>
        obtain ⟨g5, m5⟩ := p
        have HP := hide hp
        clear hp
        dsimp only
        go_wp2_with fail
        refine Calls.mono (refparse_any s _ (by omega)) ?_
        rintro e w6 ⟨hb6, rfl⟩
        rw [HP.out]
        obtain ⟨y0, y1⟩ := two_old (on_heap (heap_alloc_last w5 _) hb6)
        have HB6 := hide (below_then HB5.out (below_then (below_alloc w5 _) hb6))
        clear hb6 HB5
        unfold refV
        dsimp only
        go_wp2_with fail
        go_ret
        exact ⟨rfl, below_then HB6.out (below_alloc w6 _)⟩
/-! ### the row's step, written by program after the guide's skeleton -/
theorem own : ownKnob Try.prog.godebug = none := by kernel_rfl
theorem laidOut : laidOutB Try.prog = true := by kernel_rfl
set_option maxRecDepth 100000 in
theorem lifted (os : Os) (started : os.Started) (H : Type) (enc : TypeId × Value → H) :
    ReturnsInHanded {} Try.checked os 4 .any (Rows.docTextsSpec.pre6 enc Try.prog Try.f4 Rows.docTextsRow.domain false) (Rows.docTextsSpec.post enc Try.prog Try.f4 false true false false) := by
  refine returnsInHanded_of_change (C := Try.checked) own started (by kernel_rfl) Try.func4
    (ChangeSpec.witness6 (enc := enc) (C := Try.checked) false ⟨#[], #[.agg #[.int .u32 0, .int .u32 0], .string ByteArray.empty], []⟩ 8 (by kernel_rfl) (by kernel_rfl) (by kernel_rfl) (by kernel_rfl)) ?_
  intro W base args ds gs before hval0 hW hcnd _
  have hval : ∀ (j : Nat) t v, Try.f4.params[j]? = some t → args[j]? = some v → Value.okWide Try.prog W .any base t v := hval0
  have hW' := hW
  obtain ⟨p, q, hA0, hV, rfl, hfz, hnd⟩ := hW
  have hA : DataW.TrodAll enc Try.prog W 0 (fun _ => true) true Try.f4.params.toList args.toList ds p := hA0
  rw [Try.params4] at hA hval
  obtain ⟨v0, vs0, d0, ds0, p0, q0, hargs, rfl, rfl, h0, r0⟩ := trodAll_cons hA
  obtain ⟨v1, vs1, d1, ds1, p1, q1, rfl, rfl, rfl, h1, r1⟩ := trodAll_cons r0
  obtain ⟨rfl, rfl, rfl⟩ := trodAll_nil r1
  obtain rfl : args = #[v0, v1] := by cases args; simp_all
  obtain ⟨rfl, rfl⟩ := trodVars_none hV
  have k0 := h0
  have lt0 := trod_lt' k0
  obtain ⟨x0g, x0m, rfl, w0g, w0m⟩ := arg_rev (hval 0 28 v0 rfl rfl) h0
  obtain ⟨a1, rfl, rfl, rfl, w1⟩ := open_string Try.underlying9 (hval 1 9 v1 rfl rfl) h1
  clear hA0 hval0
  refine (walk x0g x0m a1 W w0g w0m w1).mono fun e W' ⟨he, bel⟩ => ?_
  subst he
  exact ⟨_, rfl, _, _, _, [], _, [], hW', trodAll_mk1 (shut_bool Try.underlying4 _), (trodAll_cons_mk (Below.trod laidOut (by kernel_rfl) (of_decide_eq_true (by kernel_rfl)) k0 bel lt0) (trodAll_cons_mk (shut_string Try.underlying9 w1) trodAll_mk0)), rfl, bel.frame _, fun h => by cases h⟩

theorem over : Rows.docTextsRow.holds Try.pinned (OpenSpec.ofChange Rows.docTextsSpec) :=
  OpenClaim.holds_of_wide 4 Try.f4 rfl rfl rfl rfl rfl rfl rfl ⟨rfl, rfl, rfl, rfl, rfl⟩ rfl rfl rfl rfl rfl (by kernel_rfl) Try.func4 (by kernel_rfl)
    (of_decide_eq_true (by kernel_rfl)) (by unfold Func.isWrapper; first | (rw [if_pos (by decide +kernel)]; kernel_rfl) | (rw [if_neg (by decide +kernel)]; exact ⟨rfl, rfl⟩))
    (fun os started H enc _ => lifted os started H enc)

theorem proved : Rows.DocTextsSaid := over
end Go.Proofs.Ytmkkbomkonociaa.LawDocTexts
