/- Proved: davenportlaw01.UtfTexts returns true for every input: Check and Points report the first error of any bytes or their code points; Text encodes any list. The card ties the package variable that the walk reads to the program's text. -/
import Derived.Test.YtheoadempenpaaaDoorRows
import Derived.Test.YtheoadempenpaaaDoorCards
import Derived.Test.YtheoadempenpaaaDoorTie
import Derived.Test.YtheoadempenpaaaDoorOpen
import Derived.Test.YtheoadempenpaaaDoorFew
import Derived.Test.YtheoadempenpaaaDoorUtfLaid
import Derived.Test.YtheoadempenpaaaDoorUtfWakes
import Derived.Test.YtheoadempenpaaaDoorUtfRefPts
import Derived.Test.YtheoadempenpaaaDoorIntsClone
import Derived.SevenTiedAt
namespace Go.Proofs.YtheoadempenpaaaDoor.LawUtfTexts
open Go.ChangeShapes Go.WideShapes Go.ChangeAt Go.RowKit
open Go.ChangeMaps (open_string shut_string)

attribute [local go_sem] Dag.gives
theorem str_take (s : ByteArray) (k : Nat) : s.extract 0 k = str (s.data.toList.take k) := by
  unfold str
  apply ByteArray.ext
  rw [ByteArray.data_extract, ← Array.toList_inj]
  simp
theorem encs_ge (ps : List Nat) : ps.length ≤ (Utf.encs ps).length := by
  induction ps with
  | nil => simp
  | cons p ps ih => have := Utf.enc_pos p; rw [Utf.encs_cons, List.length_append, List.length_cons]; omega
theorem scan_len (l : List UInt8) : (Utf.scan l).1.length ≤ l.length := by
  obtain ⟨_, _, h3, h4, _⟩ := Utf.scan_all l
  have := encs_ge (Utf.scan l).1
  omega
set_option maxHeartbeats 8000000 in
theorem walk (s : ByteArray) (A : Option Addr) (n c : Nat) (x : List Int) (w : World) (hs : s.size ≤ maxLen) (hA : ArgInts .i64 w A n c x) (hg : Gl w) :
    Calls Tryd.prog 6 #[.string s, .slice A n c] w fun e w' => e = .returned (.bool true) ∧ Below w.heap.size w w' := by
  obtain ⟨hr, hnc, hc, hwf⟩ := hA
  have HR : Hid (RI w A n x) := hide hr
  have HG := hide hg
  have HC := hide (And.intro hnc hc)
  clear hr hwf hg
  unfold maxLen at hc hs
  go_enter Tryd.func6, Tryd.ntmps6
  go_wp2_with fail
  refine Calls.mono (wakes_any _ HG.out) ?_
  rintro e w1 ⟨rfl, hb1⟩
  have HB1 := hide hb1
  clear hb1
  go_wp2_with fail
  obtain ⟨M, hM⟩ : ∃ M, M = min s.size 300 := ⟨_, rfl⟩
  obtain ⟨N, hN⟩ : ∃ N, N = min n 100 := ⟨_, rfl⟩
  have f1 : (if (300 : Int) < (s.size : Int) then (300 : Int) else (s.size : Int)) = (M : Int) := by split <;> omega
  have f2 : (if (100 : Int) < (n : Int) then (100 : Int) else (n : Int)) = (N : Int) := by split <;> omega
  have f3 : (0 : Int) ≤ (M : Int) := by omega
  have f4 : (M : Int) ≤ (s.size : Int) := by omega
  have f5 : (0 : Int) ≤ (N : Int) := by omega
  have f6 : (N : Int) ≤ (c : Int) := by omega
  have f7 : N ≤ n := by omega
  have f8 : N ≤ 100 := by omega
  have HM := hide hM
  have HN := hide hN
  clear hM hN
  refine Dag.wp_region_facts 11 (Dag.list [Dag.Is (.string s), Dag.Is (.string s), Dag.Is (.int .i64 (s.size : Int)), Dag.Is (.int .i64 (M : Int)), Dag.Is (.string (s.extract 0 M)), Dag.Is (.slice A n c), Dag.Is (.slice A n c), Dag.Is (.int .i64 (n : Int)), Dag.Is (.int .i64 (N : Int)), Dag.Is (.slice A N c), Dag.RowI (x.take N)]) (by kernel_rfl) (by kernel_rfl) (Dag.stable_list (by simp [Dag.Stable.is, Dag.Stable.rowI])) ?_ ?_
  · intro vs W hbW
    simp only [Dag.allOps, List.take_succ_cons, List.take_zero, Dag.fill, Act.put, List.setIfInBounds_toArray, List.set_cons_succ, List.set_cons_zero, Dag.deps, Region.binds, Dag.list, Dag.Is, List.getD_cons_zero, List.getD_cons_succ, and_true, forall_const, Nat.reduceAdd, Region.wanted, reduceIte]
    refine ⟨?_, ?_, ?_, ?_, ?_, ?_, ?_, ?_, ?_, ?_, ?_⟩
    · (try intro hd); go_simp; (first | done | exact ⟨Below.refl _ _, rfl⟩ | exact Below.refl _ _)
    · (try intro hd); go_simp; (first | done | exact ⟨Below.refl _ _, rfl⟩ | exact Below.refl _ _)
    · (try intro hd); go_simp; (first | done | exact ⟨Below.refl _ _, rfl⟩ | exact Below.refl _ _)
    · (try intro hd); go_simp; (first | done | exact ⟨Below.refl _ _, rfl⟩ | exact Below.refl _ _)
    · (try intro hd); go_simp; (first | done | exact ⟨Below.refl _ _, rfl⟩ | exact Below.refl _ _)
    · (try intro hd); go_simp; (first | done | exact ⟨Below.refl _ _, rfl⟩ | exact Below.refl _ _)
    · (try intro hd); go_simp; (first | done | exact ⟨Below.refl _ _, rfl⟩ | exact Below.refl _ _)
    · (try intro hd); go_simp; (first | done | exact ⟨Below.refl _ _, rfl⟩ | exact Below.refl _ _)
    · (try intro hd); go_simp; (first | done | exact ⟨Below.refl _ _, rfl⟩ | exact Below.refl _ _)
    · (try intro hd); go_simp; (first | done | exact ⟨Below.refl _ _, rfl⟩ | exact Below.refl _ _)
    · (try intro hd); go_simp; refine (clone_ints A N c (x.take N) _ ((HR.out.on (below_then HB1.out hbW)).take N f7) (by omega)).mono ?_; rintro e w' ⟨v, rfl, ho, hb⟩; obtain ⟨A', c', rfl, hc', hm', hr⟩ := own_slice ho; exact ⟨_, rfl, hb, A', _, c', rfl, hc', hm', hr⟩
  · intro vs W hbW hk
    simp only [Dag.known, Dag.list, Dag.Is, List.getD_cons_zero, List.getD_cons_succ, and_true] at hk
    obtain ⟨k0, k1, k2, k3, k4, k5, k6, k7, k8, k9, k10⟩ := hk
    simp only [List.take_succ_cons, List.take_zero, List.drop_succ_cons, List.drop_zero, Dag.fill, Act.put, List.setIfInBounds_toArray, List.set_cons_succ, List.set_cons_zero, Nat.reduceAdd, k0, k1, k2, k3, k4, k5, k6, k7, k8, k9]
    clear k0 k1 k2 k3 k4 k5 k6 k7 k8 k9
    obtain ⟨A2, n2, c2, hv, hc2, hm2, hr2⟩ := k10
    simp only [Nat.zero_add, Nat.reduceAdd] at hv
    rw [hv]
    obtain rfl : N = n2 := by
      rw [← hr2.len, List.length_take, HR.out.len]; omega
    have hS := str_take s M
    have hLl : (s.data.toList.take M).length = M := by
      rw [List.length_take, HM.out, Array.length_toList]; show min _ s.size = _; omega
    have hM300 : M ≤ 300 := by rw [HM.out]; omega
    generalize s.extract 0 M = S at *
    generalize s.data.toList.take M = L at *
    have HBW := hide (below_then HB1.out hbW)
    have HYW : Hid (RI W A2 N (x.take N)) := hide hr2
    obtain ⟨cB, w3, hconv, hrb, hb3, hcB, hmB⟩ := conv_bytes (P := Tryd.prog) W 9 24 5 S L hS M hLl (by omega) (by kernel_rfl) (by kernel_rfl) (by kernel_rfl)
    have HB3 := hide (below_then HBW.out hb3)
    have HY3 := hide (HYW.out.on hb3)
    have HLB := hide hrb
    have HSS := hide hS
    have HLL := hide hLl
    clear hv hr2 hm2 hb3 hrb hmB hS hLl HBW HYW hbW HN HM f1 f2 f3 f4
    go_wp2_with fail
    refine Calls.mono (rPoints_any _ M cB L _ HLB.out hcB (by omega)) ?_
    rintro e w4 ⟨hb4, he⟩
    have HB4 := hide (below_then HB3.out hb4)
    have HY4 := hide (HY3.out.on hb4)
    have HSC := hide (show (Utf.scan L).1.length ≤ 300 by have := scan_len L; rw [HLL.out] at this; omega)
    clear hb4 HB3 HY3 HLB hconv
    by_cases hyes : (Utf.scan L).2 = L.length
    · rw [if_pos hyes] at he
      obtain ⟨A4, c4, rfl, hr4, _, _⟩ := he
      have HR4 := hide hr4
      have HCK := hide (show chkV L = .tuple #[.int .i64 0, .int .i64 0] by unfold chkV; rw [if_pos hyes])
      have HYES := hide hyes
      clear hr4 hyes
      go_wp2_with fail
      rw [HSS.out]
      refine Calls.mono (Check_any L _ (by rw [HLL.out]; omega) (HG.out.on HB4.out)) ?_
      rintro e w5 ⟨rfl, hb5⟩
      rw [HCK.out]
      have HB5 := hide (below_then HB4.out hb5)
      have HY5 := hide (HY4.out.on hb5)
      have HR5 := hide (HR4.out.on hb5)
      clear hb5 HB4 HY4 HR4
      go_wp2_with fail
      refine Calls.mono (Points_any L _ (by rw [HLL.out]; omega) (HG.out.on HB5.out)) ?_
      rintro e w6 ⟨hb6, he⟩
      rw [if_pos HYES.out] at he
      obtain ⟨A6, c6, rfl, hr6, _, _⟩ := he
      have HB6 := hide (below_then HB5.out hb6)
      have HY6 := hide (HY5.out.on hb6)
      have HR6 := hide (HR5.out.on hb6)
      have HP6 := hide hr6
      clear hb6 HB5 HY5 HR5 hr6
      go_wp2_with fail
      refine Calls.mono (equal_ints A6 A4 _ _ c6 c4 (zs (Utf.scan L).1) (zs (Utf.scan L).1) _ HP6.out HR6.out (by have := HSC.out; omega) (by have := HSC.out; omega)) ?_
      rintro e w7 ⟨rfl, hb7⟩
      rw [decide_eq_true rfl]
      have HB7 := hide (below_then HB6.out hb7)
      have HY7 := hide (HY6.out.on hb7)
      clear hb7 HB6 HY6 HR6 HP6
      go_wp2_with fail
      refine Calls.mono (Text_any A2 N c2 (x.take N) _ (HY7.out) (by omega)) ?_
      rintro e w8 ⟨rfl, hb8⟩
      have HB8 := hide (below_then HB7.out hb8)
      have HY8 := hide (HY7.out.on hb8)
      clear hb8
      cases hall : (x.take N).all Utf.isCp with
      | true =>
        have HT := hide (show rTextV (x.take N) = .tuple #[.string (str (Utf.encs ((x.take N).map Int.toNat))), .bool true] by unfold rTextV; rw [if_pos hall])
        rw [show textV (x.take N) = .tuple #[.string (str (Utf.encs ((x.take N).map Int.toNat))), .int .i64 0] by unfold textV; rw [if_pos hall]]
        generalize str (Utf.encs ((x.take N).map Int.toNat)) = T at *
        have hTT : (T.toList == T.toList) = true := by simp
        clear hall
        go_wp2_with fail
        refine Calls.mono (rText_any A2 N c2 (x.take N) _ HY8.out (by omega)) ?_
        rintro e w9 ⟨rfl, hb9⟩
        rw [HT.out]
        have HB9 := hide (below_then HB8.out hb9)
        have HY9 := hide (HY8.out.on hb9)
        clear hb9
        go_wp2_with fail
        refine Calls.mono (equal_ints A2 A N N c2 c (x.take N) (x.take N) _ HY9.out ((HR.out.on HB9.out).take N f7) (by omega) (by omega)) ?_
        rintro e w10 ⟨rfl, hb10⟩
        rw [decide_eq_true rfl]
        go_wp2_with fail
        go_ret
        exact ⟨rfl, below_then HB9.out hb10⟩
      | false =>
        have HT := hide (show rTextV (x.take N) = .tuple #[.string (ByteArray.mk #[]), .bool false] by unfold rTextV; rw [if_neg (by rw [hall]; simp)])
        rw [show textV (x.take N) = .tuple #[.string (ByteArray.mk #[]), .int .i64 110] by unfold textV; rw [if_neg (by rw [hall]; simp)]]
        clear hall
        go_wp2_with fail
        refine Calls.mono (rText_any A2 N c2 (x.take N) _ HY8.out (by omega)) ?_
        rintro e w9 ⟨rfl, hb9⟩
        rw [HT.out]
        have HB9 := hide (below_then HB8.out hb9)
        have HY9 := hide (HY8.out.on hb9)
        clear hb9
        go_wp2_with fail
        refine Calls.mono (equal_ints A2 A N N c2 c (x.take N) (x.take N) _ HY9.out ((HR.out.on HB9.out).take N f7) (by omega) (by omega)) ?_
        rintro e w10 ⟨rfl, hb10⟩
        rw [decide_eq_true rfl]
        go_wp2_with fail
        go_ret
        exact ⟨rfl, below_then HB9.out hb10⟩
    · rw [if_neg hyes] at he
      subst he
      have HCK := hide (show chkV L = .tuple #[.int .i64 ((Utf.scan L).2 : Int), .int .i64 110] by unfold chkV; rw [if_neg hyes])
      have HNO := hide hyes
      have hzz : (((Utf.scan L).2 : Int) == ((Utf.scan L).2 : Int)) = true := by simp
      have hz2 : (((Utf.scan L).2 : Int) != ((Utf.scan L).2 : Int)) = false := by simp
      clear hyes
      go_wp2_with fail
      rw [HSS.out]
      refine Calls.mono (Check_any L _ (by rw [HLL.out]; omega) (HG.out.on HB4.out)) ?_
      rintro e w5 ⟨rfl, hb5⟩
      rw [HCK.out]
      have HB5 := hide (below_then HB4.out hb5)
      have HY5 := hide (HY4.out.on hb5)
      clear hb5 HB4 HY4
      go_wp2_with fail
      refine Calls.mono (Points_any L _ (by rw [HLL.out]; omega) (HG.out.on HB5.out)) ?_
      rintro e w6 ⟨hb6, he⟩
      rw [if_neg HNO.out] at he
      subst he
      have HB6 := hide (below_then HB5.out hb6)
      have HY6 := hide (HY5.out.on hb6)
      clear hb6 HB5 HY5
      go_wp2_with fail
      refine Calls.mono (equal_ints none none 0 0 0 0 [] [] _ (RI.empty _ _) (RI.empty _ _) (by omega) (by omega)) ?_
      rintro e w7 ⟨rfl, hb7⟩
      rw [decide_eq_true rfl]
      have HB7 := hide (below_then HB6.out hb7)
      have HY7 := hide (HY6.out.on hb7)
      clear hb7 HB6 HY6
      go_wp2_with fail
      refine Calls.mono (Text_any A2 N c2 (x.take N) _ (HY7.out) (by omega)) ?_
      rintro e w8 ⟨rfl, hb8⟩
      have HB8 := hide (below_then HB7.out hb8)
      have HY8 := hide (HY7.out.on hb8)
      clear hb8
      cases hall : (x.take N).all Utf.isCp with
      | true =>
        have HT := hide (show rTextV (x.take N) = .tuple #[.string (str (Utf.encs ((x.take N).map Int.toNat))), .bool true] by unfold rTextV; rw [if_pos hall])
        rw [show textV (x.take N) = .tuple #[.string (str (Utf.encs ((x.take N).map Int.toNat))), .int .i64 0] by unfold textV; rw [if_pos hall]]
        generalize str (Utf.encs ((x.take N).map Int.toNat)) = T at *
        have hTT : (T.toList == T.toList) = true := by simp
        clear hall
        go_wp2_with fail
        refine Calls.mono (rText_any A2 N c2 (x.take N) _ HY8.out (by omega)) ?_
        rintro e w9 ⟨rfl, hb9⟩
        rw [HT.out]
        have HB9 := hide (below_then HB8.out hb9)
        have HY9 := hide (HY8.out.on hb9)
        clear hb9
        go_wp2_with fail
        refine Calls.mono (equal_ints A2 A N N c2 c (x.take N) (x.take N) _ HY9.out ((HR.out.on HB9.out).take N f7) (by omega) (by omega)) ?_
        rintro e w10 ⟨rfl, hb10⟩
        rw [decide_eq_true rfl]
        go_wp2_with fail
        go_ret
        exact ⟨rfl, below_then HB9.out hb10⟩
      | false =>
        have HT := hide (show rTextV (x.take N) = .tuple #[.string (ByteArray.mk #[]), .bool false] by unfold rTextV; rw [if_neg (by rw [hall]; simp)])
        rw [show textV (x.take N) = .tuple #[.string (ByteArray.mk #[]), .int .i64 110] by unfold textV; rw [if_neg (by rw [hall]; simp)]]
        clear hall
        go_wp2_with fail
        refine Calls.mono (rText_any A2 N c2 (x.take N) _ HY8.out (by omega)) ?_
        rintro e w9 ⟨rfl, hb9⟩
        rw [HT.out]
        have HB9 := hide (below_then HB8.out hb9)
        have HY9 := hide (HY8.out.on hb9)
        clear hb9
        go_wp2_with fail
        refine Calls.mono (equal_ints A2 A N N c2 c (x.take N) (x.take N) _ HY9.out ((HR.out.on HB9.out).take N f7) (by omega) (by omega)) ?_
        rintro e w10 ⟨rfl, hb10⟩
        rw [decide_eq_true rfl]
        go_wp2_with fail
        go_ret
        exact ⟨rfl, below_then HB9.out hb10⟩
/-! ### the row's step, written by program after the guide's skeleton -/
theorem own : ownKnob Tryd.prog.godebug = none := by kernel_rfl
theorem laidOut : laidOutB Tryd.prog = true := by kernel_rfl
set_option maxRecDepth 100000 in
theorem lifted (os : Os) (started : os.Started) (H : Type) (enc : TypeId × Value → H) :
    ReturnsInHanded {} Tryd.checked os 6 .any (fun w args => (Rows.utfTextsSpec.pre enc Tryd.prog Tryd.f6 [] false w args ∧ laidMetH Tryd.prog laidL w) ∧ sizedMet enc Tryd.prog Tryd.f6 (OpenSpec.ofChange Rows.utfTextsSpec) false w args) (Rows.utfTextsSpec.post enc Tryd.prog Tryd.f6 false true false false) := by
  refine returnsInHanded_of_change_and (C := Tryd.checked) (X := fun w _ => laidMetH Tryd.prog laidL w) (fun _ _ _ hh h => h.of_heap hh) own started (by kernel_rfl) Tryd.func6
    (ChangeSpec.witness_shaped (enc := enc) (C := Tryd.checked) (os := os) (X := fun w _ => laidMetH Tryd.prog laidL w) false (World.doorLaid Tryd.prog 400 os) #[.string ByteArray.empty, .slice none 0 0] 8 rfl (World.shaped_of_RefB (by kernel_rfl) (by kernel_rfl)) (by kernel_rfl) (by kernel_rfl) (by kernel_rfl) (door_met os _)) ?_
  intro W base args ds gs before hval0 hW _ _ hL _
  have hGl := gl_of_laid hL
  have hval : ∀ (j : Nat) t v, Tryd.f6.params[j]? = some t → args[j]? = some v → Value.okWide Tryd.prog W .any base t v := hval0
  have hW' := hW
  obtain ⟨p, q, hA0, hV, rfl, hfz, hnd⟩ := hW
  have hA : DataW.TrodAll enc Tryd.prog W 0 (fun _ => true) true Tryd.f6.params.toList args.toList ds p := hA0
  rw [Tryd.params6] at hA hval
  obtain ⟨v0, vs0, d0, ds0, p0, q0, hargs, rfl, rfl, h0, r0⟩ := trodAll_cons hA
  obtain ⟨v1, vs1, d1, ds1, p1, q1, rfl, rfl, rfl, h1, r1⟩ := trodAll_cons r0
  obtain ⟨rfl, rfl, rfl⟩ := trodAll_nil r1
  obtain rfl : args = #[v0, v1] := by cases args; simp_all
  obtain ⟨rfl, rfl⟩ := trodVars_none hV
  obtain ⟨a0, rfl, rfl, rfl, w0⟩ := open_string Tryd.underlying9 (hval 0 9 v0 rfl rfl) h0
  have k1 := h1
  have lt1 := trod_lt' k1
  obtain ⟨a1, n1, c1, l1, rfl, w1⟩ := arg_ints Tryd.underlying22 Tryd.underlying3 (by kernel_rfl) (hval 1 22 v1 rfl rfl) h1
  clear hA0 hval0
  refine (walk a0 a1 n1 c1 l1 W w0 w1 hGl).mono fun e W' ⟨he, bel⟩ => ?_
  subst he
  exact ⟨_, rfl, _, _, _, [], _, [], hW', trodAll_mk1 (shut_bool Tryd.underlying4 _), (trodAll_cons_mk (shut_string Tryd.underlying9 w0) (trodAll_cons_mk (Below.trod laidOut (by kernel_rfl) (of_decide_eq_true (by kernel_rfl)) k1 bel lt1) trodAll_mk0)), rfl, bel.frame _, fun h => by cases h⟩

theorem over : Rows.utfTextsRow.holds Tryd.pinned (OpenSpec.ofChange Rows.utfTextsSpec) :=
  OpenClaim.holds_of_wide 6 Tryd.f6 rfl rfl rfl rfl rfl rfl rfl ⟨rfl, rfl, rfl, rfl, rfl⟩ rfl rfl rfl rfl rfl (by kernel_rfl) Tryd.func6 (by kernel_rfl)
    (of_decide_eq_true (by kernel_rfl)) (by unfold Func.isWrapper; first | (rw [if_pos (by decide +kernel)]; kernel_rfl) | (rw [if_neg (by decide +kernel)]; exact ⟨rfl, rfl⟩))
    (fun os started H enc _ => lifted os started H enc)

/-- the tied card, closed by the builder -/
theorem proved : Rows.UtfTextsCardSaid :=
  Claim7.holds_tied_plain_at .later [] [.data] true (true, "5db38756cb098dae97c1566c1026846fa7771e753dcd2c8b6f1b86bf2868e610") false
    over (fun _ h => by cases h) (by kernel_rfl) (fun _ h => by cases h) utfTexts_row_tie rfl ⟨rfl, rfl⟩ (by kernel_rfl) rfl
    (fun f fn hf hfn => by
      obtain rfl : f = 6 := Option.some.inj ((show Tryd.prog.funcNamed "davenport/davenportlaw01.UtfTexts" = some 6 by kernel_rfl).symm.trans hf) |>.symm
      obtain rfl : fn = Tryd.f6 := (Option.some.inj (Tryd.func6.symm.trans hfn)).symm
      exact ⟨by kernel_rfl, fun j t ht => by
        rw [Tryd.params6] at ht
        rcases j with _ | j
        · obtain rfl : 9 = t := by simpa using ht
          exact (show Tryd.prog.wantsStandIn 9 = false by kernel_rfl)
        rcases j with _ | j
        · obtain rfl : 22 = t := by simpa using ht
          exact (show Tryd.prog.wantsStandIn 22 = false by kernel_rfl)
        · simp at ht⟩)
    (by kernel_rfl)
end Go.Proofs.YtheoadempenpaaaDoor.LawUtfTexts
