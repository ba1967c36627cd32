/- Proved: davenportlaw19.DocBack returns true for every input: ParseRev returns the revision from its text, and from no other string. The card ties the package variables that the row lists to the program's text. -/
import Derived.Test.YtmkkbomkonociaaDoorRows
import Derived.Test.YtmkkbomkonociaaDoorCards
import Derived.Test.YtmkkbomkonociaaDoorTie
import Derived.Test.YtmkkbomkonociaaDoorOpen
import Derived.Test.YtmkkbomkonociaaDoorDocOpen
import Derived.Test.YtmkkbomkonociaaDoorDocWakes
import Derived.Test.YtmkkbomkonociaaDoorDocTextMath
import Derived.Test.YtmkkbomkonociaaDoorDocLower
import Derived.ProofKit
import Derived.LaidMore
import Derived.OpenShut
import Derived.Stop.Joined
import Derived.SevenTiedAt
import Derived.Lay
namespace Go.Proofs.YtmkkbomkonociaaDoor.LawDocBack
open Go.ChangeShapes Go.WideShapes Go.ChangeAt Go.RowKit
open Go.ChangeMaps (open_string shut_string)

section
variable {w : World} {b : Nat} {x0 x1 : Value} {t : TypeId} {fr : Nat × Nat}
theorem two_at (h : w.heap[b]? = some (.cells #[x0, x1] t fr)) : w.cell? ⟨b, 0, none⟩ = some x0 ∧ w.cell? ⟨b, 1, none⟩ = some x1 := ⟨cell_of_row _ _ 0 _ _ _ h, cell_of_row _ _ 1 _ _ _ h⟩
theorem two_heap (h : w.heap[b]? = some (.cells #[x0, x1] t fr)) (o : Obj) : (w.alloc o).heap[b]? = some (.cells #[x0, x1] t fr) :=
  (heap_alloc_old w o (Array.getElem?_eq_some_iff.1 h).1).trans h
theorem two_old (h : w.heap[b]? = some (.cells #[x0, x1] t fr)) : (∀ o, (w.alloc o).cell? ⟨b, 0, none⟩ = some x0) ∧ (∀ o, (w.alloc o).cell? ⟨b, 1, none⟩ = some x1) :=
  ⟨fun o => (two_at (two_heap h o)).1, fun o => (two_at (two_heap h o)).2⟩
theorem on_heap {w' : World} {cs : Array Value} (h : w.heap[b]? = some (.cells cs t fr)) (hb : Below w.heap.size w w') : w'.heap[b]? = some (.cells cs t fr) :=
  (hb.block b (Array.getElem?_eq_some_iff.1 h).1).trans h
end
/-- the card's list; two of its tables are the form's own constants -/
def laidP : List (String × DataW Unit) := [("unicode/utf8.acceptRanges", Rows.laid_unicode_utf8_acceptRanges), ("unicode.CaseRanges", Rows.laid_unicode_CaseRanges), ("unicode/utf8.first", Rows.laid_unicode_utf8_first)]
/-- the walk reads none of them: the text of a revision has no capital -/
def Gl (_ : World) : Prop := True
theorem gl_of_pin {W : World} (_ : laidMetH Tryd.prog laidP W) : Gl W := trivial
/-! ### the text of a revision: no capital, nineteen bytes at most -/
theorem text_bytes {g m : Nat} : ∀ c ∈ revText g m, c = 45 ∨ D c < 16 := by
  intro c hc
  unfold revText at hc
  split at hc
  · cases hc
  · rcases List.mem_append.1 hc with h | h
    · have := List.all_eq_true.1 (dig_ten g) c h
      simp only [decide_eq_true_eq] at this
      right; omega
    · rcases List.mem_cons.1 h with h | h
      · exact .inl h
      · have := List.all_eq_true.1 (hexs_all m 8) c h
        simp only [decide_eq_true_eq] at this
        exact .inr this
theorem text_low {g m : Nat} : ∀ c ∈ revText g m, Lib.isUpperB c = false ∧ c.toNat < 128 := by
  intro c hc
  have h : c.toNat < 65 ∨ (97 ≤ c.toNat ∧ c.toNat < 128) := by
    rcases text_bytes c hc with rfl | h
    · left; decide
    · rcases D_of (c := c) with ⟨h1, h2⟩ | ⟨h1, h2, h3⟩ | h1 <;> omega
  refine ⟨?_, by omega⟩
  rw [Lib.isUpperB_int]
  rcases h with h | h
  · rw [decide_eq_false (show ¬ (65 : Int) ≤ (c.toNat : Int) by omega)]; rfl
  · rw [decide_eq_false (show ¬ (c.toNat : Int) ≤ 90 by omega), Bool.and_false]
theorem text_lower (g m : Nat) : ByteArray.mk (Lib.toLowerA (str (revText g m)).data.toList).toArray = str (revText g m) := by
  have h : Lib.toLowerA (revText g m) = revText g m := by
    unfold Lib.toLowerA
    conv => rhs; rw [← List.map_id (revText g m)]
    exact List.map_congr_left fun c hc => Lib.lowerB_of_not c (text_low c hc).1
  show ByteArray.mk (Lib.toLowerA (revText g m)).toArray = _
  rw [h]; rfl
theorem text_size {g m : Nat} (hg : g < 4294967296) : (str (revText g m)).size ≤ 19 := by
  rw [str_size]
  unfold revText
  split
  · simp
  · rw [List.length_append, List.length_cons, hexs_len]
    have := (Num.dig_len 9 g).2 (by omega)
    omega
theorem str_inj {a b : List UInt8} (h : str a = str b) : a = b := by
  have := congrArg (fun x : ByteArray => x.data.toList) h
  simpa [str] using this
theorem str_of (s : ByteArray) : str s.data.toList = s := by
  unfold str; simp
theorem bytes_ne {S T : ByteArray} (h : S ≠ T) : (S.toList == T.toList) = false := by
  rw [beq_eq_false_iff_ne]
  intro e
  rw [ByteArray.toList_eq, ByteArray.toList_eq] at e
  exact h (by rw [← str_of S, e, str_of])
set_option maxRecDepth 100000 in
set_option maxHeartbeats 8000000 in
theorem walk (g m : Nat) (s : ByteArray) (w : World) (hg : g < 4294967296) (hm : m < 4294967296) (_w1 : s.size ≤ maxLen) (_ : Gl w) :
    Calls Tryd.prog 3 #[.agg #[.int .u32 (g : Int), .int .u32 (m : Int)], .string s] w fun e w' => e = .returned (.bool true) ∧ Below w.heap.size w w' := by
  have HG := hide hg
  have HM := hide hm
  clear hg hm
  go_enter Tryd.func3, Tryd.ntmps3
  go_wp2_with fail
  refine Calls.mono (wakes_any _) ?_
  rintro e w1 ⟨rfl, hb1⟩
  have HX1 := hide (on_heap (heap_alloc_last w _) hb1)
  have HB1 := hide (below_then (below_alloc w _) hb1)
  clear hb1
  obtain ⟨x0, x1⟩ := two_at HX1.out
  go_wp2_with fail
  refine Calls.mono (revtext_any g m _ HG.out HM.out) ?_
  rintro e w2 ⟨rfl, hb2⟩
  have HX2 := hide (on_heap HX1.out hb2)
  have HB2 := hide (below_then HB1.out hb2)
  clear hb2 x0 x1 HX1 HB1
  obtain ⟨x0, x1⟩ := two_at HX2.out
  cases hb : isRev g m with
  | false =>
    rw [show revErr g m = 291 by simp [revErr, hb]]
    have hz : g = 0 ∧ 0 < m := by unfold isRev at hb; simp at hb; omega
    have hS : str (revText g m) = ByteArray.mk #[] := by rw [hz.1]; rfl
    have hg0 : ((g : Int) == 0) = true := by rw [hz.1]; rfl
    have hm0 : (0 : Int) < (m : Int) := by omega
    have hm1 := hz.2
    rw [hS]
    clear hb hz hS
    go_wp2_with fail
    go_ret
    exact ⟨by first | rfl | (simp; omega), HB2.out⟩
  | true =>
    rw [show revErr g m = 0 by simp [revErr, hb]]
    have HRB := hide hb
    have hT19 := text_size (m := m) HG.out
    have HTL := hide (text_lower g m)
    have HTP := hide (parsed_text HG.out HM.out hb)
    have HAS := hide (fun (j : Nat) (c : UInt8) (hc : (str (revText g m)).data.toList[j]? = some c) => (text_low (g := g) (m := m) c (List.mem_of_getElem? hc)).2)
    obtain ⟨T, hT⟩ : ∃ T, T = str (revText g m) := ⟨_, rfl⟩
    have HT := hide hT
    rw [← hT] at hT19 HTL HAS ⊢
    have HTD := hide (show T.data.toList = revText g m by rw [hT]; rfl)
    have hgg : ((g : Int) != (g : Int)) = false := by simp
    have hmm : ((m : Int) != (m : Int)) = false := by simp
    clear hb hT
    go_wp2_with fail
    refine Calls.mono (parserev_any T _ (by omega)) ?_
    rintro e w3 ⟨hb3, rfl⟩
    rw [HTD.out, HTP.out]
    dsimp only
    have HX3 := hide (on_heap HX2.out hb3)
    have HB3 := hide (below_then HB2.out hb3)
    clear hb3 x0 x1
    obtain ⟨x0, x1⟩ := two_old HX3.out
    have HXa := hide (two_heap HX3.out (.cells #[.int .u32 (g : Int), .int .u32 (m : Int)] 24))
    have HBa := hide (below_then HB3.out (below_alloc w3 (.cells #[.int .u32 (g : Int), .int .u32 (m : Int)] 24)))
    go_wp2_with fail
    refine Calls.mono (Shelf.strings_ToLower_ascii T _ (by omega) HAS.out) ?_
    rintro e w4 ⟨rfl, hb4⟩
    rw [HTL.out]
    have HX4 := hide (on_heap HXa.out hb4)
    have HB4 := hide (below_then HBa.out hb4)
    clear hb4 x0 x1 HXa HBa HX3 HB3
    obtain ⟨M, hM⟩ : ∃ M, M = min s.size 100 := ⟨_, rfl⟩
    have f1 : (if (100 : Int) < (s.size : Int) then (100 : Int) else (s.size : Int)) = (M : Int) := by split <;> omega
    have f2 : min (s.size : Int) 100 = (M : Int) := by omega
    have f3 : (0 : Int) ≤ (M : Int) := by omega
    have f4 : (M : Int) ≤ (s.size : Int) := by omega
    have hM100 : M ≤ 100 := by omega
    have ha : (s.extract 0 M).size = M := by rw [ByteArray.size_extract]; omega
    clear hM
    go_wp2_with fail
    generalize s.extract 0 M = S at *
    refine Calls.mono (parserev_any S _ (by omega)) ?_
    rintro e w5 ⟨hb5, rfl⟩
    have HX5 := hide (on_heap HX4.out hb5)
    have HB5 := hide (below_then HB4.out hb5)
    clear hb5 HX4 HB4 f1 f2 f3 f4 _w1
    cases hp : parsed S.data.toList with
    | none =>
      have hne : (S.toList == T.toList) = false := bytes_ne (by
        rintro rfl
        rw [HTD.out, HTP.out] at hp
        cases hp)
      clear hp
      dsimp only
      go_wp2_with fail
      go_ret
      exact ⟨by first | rfl | simp, below_then HB5.out (below_alloc w5 _)⟩
    | some p =>
      obtain ⟨g5, m5⟩ := p
      obtain ⟨t1, t2, t3, t4⟩ := text_parsed hp
      have HS := hide (show str (revText g5 m5) = S by rw [t1]; exact str_of S)
      have HR5 := hide (show revErr g5 m5 = 0 by simp [revErr, t2])
      have HL := hide (And.intro t3 t4)
      have HEQ : Hid (S = T ↔ (g5 = g ∧ m5 = m)) := hide (by
        constructor
        · rintro rfl
          rw [HTD.out, HTP.out] at hp
          cases hp
          exact ⟨rfl, rfl⟩
        · rintro ⟨rfl, rfl⟩
          rw [HT.out, t1, str_of])
      clear hp t1 t2 t3 t4
      dsimp only
      have HXb := hide (two_heap HX5.out (.cells #[.int .u32 (g5 : Int), .int .u32 (m5 : Int)] 24))
      have HYb := hide (heap_alloc_last w5 (.cells #[.int .u32 (g5 : Int), .int .u32 (m5 : Int)] 24))
      have HBb := hide (below_then HB5.out (below_alloc w5 (.cells #[.int .u32 (g5 : Int), .int .u32 (m5 : Int)] 24)))
      go_wp2_with fail
      refine Calls.mono (revtext_any g5 m5 _ HL.out.1 HL.out.2) ?_
      rintro e w6 ⟨rfl, hb6⟩
      rw [HS.out, HR5.out]
      have HX6 := hide (on_heap HXb.out hb6)
      have HY6 := hide (on_heap HYb.out hb6)
      have HB6 := hide (below_then HBb.out hb6)
      clear hb6 HXb HYb HBb
      obtain ⟨x0, x1⟩ := two_at HX6.out
      obtain ⟨y0, y1⟩ := two_at HY6.out
      by_cases hx : S = T
      · have hst : (S.toList == T.toList) = true := by rw [hx]; simp
        obtain ⟨rfl, rfl⟩ := HEQ.out.1 hx
        have hgg' : ((g5 : Int) == (g5 : Int)) = true := by simp
        have hmm' : ((m5 : Int) == (m5 : Int)) = true := by simp
        clear hx
        go_wp2_with fail
        go_ret
        exact ⟨by first | rfl | simp, HB6.out⟩
      · have hst : (S.toList == T.toList) = false := bytes_ne hx
        have hng : ¬ (g5 = g ∧ m5 = m) := fun h => hx (HEQ.out.2 h)
        clear hx
        by_cases hg5 : g5 = g
        · have e1 : ((g5 : Int) == (g : Int)) = true := by rw [hg5]; simp
          have e2 : ((m5 : Int) == (m : Int)) = false := by rw [beq_eq_false_iff_ne]; omega
          clear hng hg5
          go_wp2_with fail
          go_ret
          exact ⟨by first | rfl | simp, HB6.out⟩
        · have e1 : ((g5 : Int) == (g : Int)) = false := by rw [beq_eq_false_iff_ne]; omega
          clear hng hg5
          go_wp2_with fail
          go_ret
          exact ⟨by first | rfl | simp, HB6.out⟩
/-! ### the row's step, written by program after the guide's skeleton -/
theorem own : ownKnob Tryd.prog.godebug = none := by kernel_rfl
theorem laidOut : laidOutB Tryd.prog = true := by kernel_rfl
set_option maxRecDepth 100000 in
theorem lifted (os : Os) (started : os.Started) (H : Type) (enc : TypeId × Value → H) :
    ReturnsInHanded {} Tryd.checked os 3 .any (fun w args => (Rows.docBackSpec.pre enc Tryd.prog Tryd.f3 [] false w args ∧ laidMetH Tryd.prog laidP w) ∧ sizedMet enc Tryd.prog Tryd.f3 (OpenSpec.ofChange Rows.docBackSpec) false w args) (Rows.docBackSpec.post enc Tryd.prog Tryd.f3 false true false false) := by
  refine returnsInHanded_of_change_and (C := Tryd.checked) (X := fun w _ => laidMetH Tryd.prog laidP w) (fun _ _ _ hh h => h.of_heap hh) own started (by kernel_rfl) Tryd.func3
    (ChangeSpec.witness_shaped (enc := enc) (C := Tryd.checked) (os := os) (X := fun w _ => laidMetH Tryd.prog laidP w) false (World.laidAll Tryd.prog os laidP) #[.agg #[.int .u32 0, .int .u32 0], .string ByteArray.empty] 8 (World.laidAll_os _ _ _) (World.shaped_of_ZipB (by kernel_rfl) (by kernel_rfl)) (by kernel_rfl) (by kernel_rfl) (by kernel_rfl) (by rw [MakeChecks.laidMetH_plain _ _ _ (by kernel_rfl)]; exact laidMet_laidAll _ (by kernel_rfl) (by kernel_rfl))) ?_
  intro W base args ds gs before hval0 hW _ _ hL _
  have hGl := gl_of_pin hL
  have hval : ∀ (j : Nat) t v, Tryd.f3.params[j]? = some t → args[j]? = some v → Value.okWide Tryd.prog W .any base t v := hval0
  have hW' := hW
  obtain ⟨p, q, hA0, hV, rfl, hfz, hnd⟩ := hW
  have hA : DataW.TrodAll enc Tryd.prog W 0 (fun _ => true) true Tryd.f3.params.toList args.toList ds p := hA0
  rw [Tryd.params3] at hA hval
  obtain ⟨v0, vs0, d0, ds0, p0, q0, hargs, rfl, rfl, h0, r0⟩ := trodAll_cons hA
  obtain ⟨v1, vs1, d1, ds1, p1, q1, rfl, rfl, rfl, h1, r1⟩ := trodAll_cons r0
  obtain ⟨rfl, rfl, rfl⟩ := trodAll_nil r1
  obtain rfl : args = #[v0, v1] := by cases args; simp_all
  obtain ⟨rfl, rfl⟩ := trodVars_none hV
  have k0 := h0
  have lt0 := trod_lt' k0
  obtain ⟨x0g, x0m, rfl, w0g, w0m⟩ := arg_rev (hval 0 24 v0 rfl rfl) h0
  obtain ⟨a1, rfl, rfl, rfl, w1⟩ := open_string Tryd.underlying9 (hval 1 9 v1 rfl rfl) h1
  clear hA0 hval0
  refine (walk x0g x0m a1 W w0g w0m w1 hGl).mono fun e W' ⟨he, bel⟩ => ?_
  subst he
  exact ⟨_, rfl, _, _, _, [], _, [], hW', trodAll_mk1 (shut_bool Tryd.underlying4 _), (trodAll_cons_mk (Below.trod laidOut (by kernel_rfl) (of_decide_eq_true (by kernel_rfl)) k0 bel lt0) (trodAll_cons_mk (shut_string Tryd.underlying9 w1) trodAll_mk0)), rfl, bel.frame _, fun h => by cases h⟩

theorem over : Rows.docBackRow.holds Tryd.pinned (OpenSpec.ofChange Rows.docBackSpec) :=
  OpenClaim.holds_of_wide 3 Tryd.f3 rfl rfl rfl rfl rfl rfl rfl ⟨rfl, rfl, rfl, rfl, rfl⟩ rfl rfl rfl rfl rfl (by kernel_rfl) Tryd.func3 (by kernel_rfl)
    (of_decide_eq_true (by kernel_rfl)) (by unfold Func.isWrapper; first | (rw [if_pos (by decide +kernel)]; kernel_rfl) | (rw [if_neg (by decide +kernel)]; exact ⟨rfl, rfl⟩))
    (fun os started H enc _ => lifted os started H enc)

/-- the tied card, closed by the builder -/
theorem proved : Rows.DocBackCardSaid :=
  Claim7.holds_tied_plain_at .later [] [.data, .pinned, .pinned] true (true, "56d3d8c60b66b3b19d910cce3ff8b7c951c0514152a9cf0f9adc34933c953a76") false
    over (fun _ h => by cases h) (by kernel_rfl) (fun _ h => by cases h) docBack_row_tie rfl ⟨rfl, rfl⟩ (by kernel_rfl) rfl
    (fun f fn hf hfn => by
      obtain rfl : f = 3 := Option.some.inj ((show Tryd.prog.funcNamed "davenport/davenportlaw19.DocBack" = some 3 by kernel_rfl).symm.trans hf) |>.symm
      obtain rfl : fn = Tryd.f3 := (Option.some.inj (Tryd.func3.symm.trans hfn)).symm
      exact ⟨by kernel_rfl, fun j t ht => by
        rw [Tryd.params3] at ht
        rcases j with _ | j
        · obtain rfl : 24 = t := by simpa using ht
          exact (show Tryd.prog.wantsStandIn 24 = false by kernel_rfl)
        rcases j with _ | j
        · obtain rfl : 9 = t := by simpa using ht
          exact (show Tryd.prog.wantsStandIn 9 = false by kernel_rfl)
        · simp at ht⟩)
    (by kernel_rfl)
end Go.Proofs.YtmkkbomkonociaaDoor.LawDocBack
