/- Proved: davenportlaw02.QuoteBack returns true for every input: reading a printed literal returns the string, whatever precedes and follows it. The card ties the package variable that the walk reads to the program's text. -/
import Derived.Test.YtbnibiealnogdaaDoorRows
import Derived.Test.YtbnibiealnogdaaDoorCards
import Derived.Test.YtbnibiealnogdaaDoorTie
import Derived.Test.YtbnibiealnogdaaDoorOpen
import Derived.Test.YtbnibiealnogdaaDoorFew
import Derived.Test.YtbnibiealnogdaaDoorUtfLaid
import Derived.Test.YtbnibiealnogdaaDoorQuoWakes
import Derived.Test.YtbnibiealnogdaaDoorQuoReadMath
import Derived.Test.YtbnibiealnogdaaDoorConcat
import Derived.SevenTiedAt
namespace Go.Proofs.YtbnibiealnogdaaDoor.LawQuoteBack
open Go.ChangeShapes Go.WideShapes Go.ChangeAt Go.RowKit
open Go.ChangeMaps (open_string shut_string)

attribute [local go_sem] Dag.gives
theorem print_len {ps : List Nat} (h : Utf.allCp ps) : (quoted ps).length ≤ 6 * (Utf.encs ps).length + 2 := by
  have := items_len h
  unfold quoted
  rw [List.length_cons, List.length_append]
  show _ + 1 + 1 ≤ _
  omega
set_option maxRecDepth 100000 in
set_option maxHeartbeats 8000000 in
theorem walk (s : ByteArray) (A : Option Addr) (n c : Nat) (la : List UInt8) (B : Option Addr) (m d : Nat) (lb : List UInt8) (w : World) (hs : s.size ≤ maxLen) (hA : Arg w A n c la) (hB : Arg w B m d lb) (hg : Gl w) :
    Calls Tryd.prog 8 #[.string s, .slice A n c, .slice B m d] w fun e w' => e = .returned (.bool true) ∧ Below w.heap.size w w' := by
  obtain ⟨hr, hnc, hc⟩ := hA
  obtain ⟨hr', hmd, hd'⟩ := hB
  have HA := hide hr
  have HBB := hide hr'
  have HC := hide (And.intro (And.intro hnc hc) (And.intro hmd hd'))
  have HG := hide hg
  clear hr hr' hg hnc hc hmd hd'
  unfold maxLen at hs
  go_enter Tryd.func8, Tryd.ntmps8
  go_wp2_with fail
  refine Calls.mono (wakes_any _ HG.out) ?_
  rintro e w1 ⟨rfl, hb1⟩
  have HB1 := hide hb1
  clear hb1
  go_wp2_with fail
  obtain ⟨M, hM⟩ : ∃ M, M = min s.size 300 := ⟨_, rfl⟩
  have f1 : (if (300 : Int) < (s.size : Int) then (300 : Int) else (s.size : Int)) = (M : Int) := by split <;> omega
  have f3 : (0 : Int) ≤ (M : Int) := by omega
  have f4 : (M : Int) ≤ (s.size : Int) := by omega
  have HM := hide hM
  clear hM
  refine Dag.wp_region_facts 9 (Dag.list [Dag.Is (.string s), Dag.Is (.string s), Dag.Is (.int .i64 (s.size : Int)), Dag.Is (.int .i64 (M : Int)), Dag.Is (.string (s.extract 0 M)), Dag.Is (.slice A n c), Dag.Sl (la.take FEW), Dag.Is (.slice B m d), Dag.Sl (lb.take FEW)]) (by kernel_rfl) (by kernel_rfl) (Dag.stable_list (by simp [Dag.Stable.is, Dag.Stable.sl])) ?_ ?_
  · intro vs W hbW
    simp only [Dag.allOps, List.take_succ_cons, List.take_zero, Dag.fill, Act.put, List.setIfInBounds_toArray, List.set_cons_succ, List.set_cons_zero, Dag.deps, Region.binds, Dag.list, Dag.Is, List.getD_cons_zero, List.getD_cons_succ, and_true, forall_const, Nat.reduceAdd, Region.wanted, reduceIte]
    refine ⟨?_, ?_, ?_, ?_, ?_, ?_, ?_, ?_, ?_⟩
    · (try intro hd); go_simp; (first | done | exact ⟨Below.refl _ _, rfl⟩ | exact Below.refl _ _)
    · (try intro hd); go_simp; (first | done | exact ⟨Below.refl _ _, rfl⟩ | exact Below.refl _ _)
    · (try intro hd); go_simp; (first | done | exact ⟨Below.refl _ _, rfl⟩ | exact Below.refl _ _)
    · (try intro hd); go_simp; (first | done | exact ⟨Below.refl _ _, rfl⟩ | exact Below.refl _ _)
    · (try intro hd); go_simp; (first | done | exact ⟨Below.refl _ _, rfl⟩ | exact Below.refl _ _)
    · (try intro hd); go_simp; (first | done | exact ⟨Below.refl _ _, rfl⟩ | exact Below.refl _ _)
    · (try intro hd); go_simp; refine (few_rb A n c la _ (HA.out.on (below_then HB1.out hbW)) HC.out.1.1 HC.out.1.2).mono ?_; rintro e w' ⟨A', n', c', rfl, hr, hn', hc', hm', hb⟩; exact ⟨_, rfl, hb, A', n', c', rfl, hc', hr⟩
    · (try intro hd); go_simp; (first | done | exact ⟨Below.refl _ _, rfl⟩ | exact Below.refl _ _)
    · (try intro hd); go_simp; refine (few_rb B m d lb _ (HBB.out.on (below_then HB1.out hbW)) HC.out.2.1 HC.out.2.2).mono ?_; rintro e w' ⟨A', n', c', rfl, hr, hn', hc', hm', hb⟩; exact ⟨_, rfl, hb, A', n', c', rfl, hc', hr⟩
  · intro vs W hbW hk
    simp only [Dag.known, Dag.list, Dag.Is, List.getD_cons_zero, List.getD_cons_succ, and_true] at hk
    obtain ⟨k0, k1, k2, k3, k4, k5, k6, k7, k8⟩ := hk
    simp only [List.take_succ_cons, List.take_zero, List.drop_succ_cons, List.drop_zero, Dag.fill, Act.put, List.setIfInBounds_toArray, List.set_cons_succ, List.set_cons_zero, Nat.reduceAdd, k0, k1, k2, k3, k4, k5, k7]
    clear k0 k1 k2 k3 k4 k5 k7
    obtain ⟨A2, n2, c2, hv, hc2, hr2⟩ := k6
    obtain ⟨A3, n3, c3, hv3, hc3, hr3⟩ := k8
    simp only [Nat.zero_add, Nat.reduceAdd] at hv hv3
    rw [hv, hv3]
    have hS := str_take s M
    have hLl : (s.data.toList.take M).length = M := by
      rw [List.length_take, HM.out, Array.length_toList]; show min _ s.size = _; omega
    have hM300 : M ≤ 300 := by rw [HM.out]; omega
    have hn2 : n2 ≤ 400 := by rw [← hr2.len, List.length_take]; exact Nat.min_le_left _ _
    have hn3 : n3 ≤ 400 := by rw [← hr3.len, List.length_take]; exact Nat.min_le_left _ _
    generalize s.extract 0 M = S at *
    generalize s.data.toList.take M = L at *
    generalize la.take FEW = LA at *
    generalize lb.take FEW = LB at *
    have HBW := hide (below_then HB1.out hbW)
    have HA2 := hide hr2
    have HA3 := hide hr3
    have HS := hide hS
    have HL := hide hLl
    clear hv hv3 hr2 hr3 hS hLl f1 f3 f4 HM hbW HA HBB hs
    go_wp2_with fail
    rw [HS.out]
    refine Calls.mono (Print_any L _ (by rw [HL.out]; omega) (HG.out.on HBW.out)) ?_
    rintro e w4 ⟨rfl, hb4⟩
    have HB4 := hide (below_then HBW.out hb4)
    have HA4 := hide (HA2.out.on hb4)
    have HC4 := hide (HA3.out.on hb4)
    clear hb4 HA2 HA3 HBW
    by_cases hyes : (Utf.scan L).2 = L.length
    · have hcp := (Utf.scan_all L).1
      have hLe : L = Utf.encs (Utf.scan L).1 := by
        obtain ⟨_, h2, h3, _, _⟩ := Utf.scan_all L
        rwa [List.drop_eq_nil_of_le (by omega), List.append_nil] at h2
      rw [show printV L = .tuple #[.string (str (quoted (Utf.scan L).1)), .int .i64 0] by unfold printV; rw [if_pos hyes]]
      obtain ⟨ps, hps⟩ : ∃ ps, ps = (Utf.scan L).1 := ⟨_, rfl⟩
      rw [← hps] at hcp hLe ⊢
      have hPl := print_len hcp
      rw [← hLe, HL.out] at hPl
      have hRB := read_back LA LB hcp
      rw [HA4.out.len] at hRB
      obtain ⟨P, hP⟩ : ∃ P, P = quoted ps := ⟨_, rfl⟩
      rw [← hP] at hPl hRB ⊢
      obtain ⟨k, hk⟩ : ∃ k, k = P.length := ⟨_, rfl⟩
      rw [← hk] at hPl hRB
      have HRB := hide hRB
      have HLE := hide hLe
      obtain ⟨cB, w5, hconv, hrb5, hb5, hcB, hmB⟩ := conv_bytes (P := Tryd.prog) w4 9 29 5 (str P) P rfl k hk.symm (by omega) (by kernel_rfl) (by kernel_rfl) (by kernel_rfl)
      have HR5 := hide hrb5
      have HB5 := hide (below_then HB4.out hb5)
      have HA5 := hide (HA4.out.on hb5)
      have HC5 := hide (HC4.out.on hb5)
      have hsz : (str P).size = k := by rw [str_size, hk]
      obtain ⟨Z, hZ⟩ : ∃ Z, Z = str P := ⟨_, rfl⟩
      rw [← hZ] at hconv hsz ⊢
      clear hyes hcp hps hRB hP hk hrb5 hb5 HA4 HC4 hZ hLe
      go_wp2_with fail
      refine Calls.mono (concat_any _ 3 _ [⟨A2, n2, c2, LA⟩, ⟨some ⟨w4.heap.size, 0, none⟩, k, cB, P⟩, ⟨A3, n3, c3, LB⟩] _ rfl ?_ (by omega) (by simp [lens]; omega)) ?_
      · intro i hi
        match i, hi with
        | 0, _ => exact ⟨by simp, HA5.out.on (below_alloc _ _)⟩
        | 1, _ => exact ⟨by simp, HR5.out.on (below_alloc _ _)⟩
        | 2, _ => exact ⟨by simp, HC5.out.on (below_alloc _ _)⟩
      rintro e w8 ⟨v, rfl, ho8, hb8⟩
      have hb8' := below_then (below_alloc w5 _) hb8
      obtain ⟨C, c8, rfl, hc8, hm8, hr8⟩ := own_slice ho8
      have hsum : lens [⟨A2, n2, c2, LA⟩, ⟨some ⟨w4.heap.size, 0, none⟩, k, cB, P⟩, ⟨A3, n3, c3, LB⟩] 3 = n2 + (k + n3) := by simp [lens]
      have hcat : cat [⟨A2, n2, c2, LA⟩, ⟨some ⟨w4.heap.size, 0, none⟩, k, cB, P⟩, ⟨A3, n3, c3, LB⟩] 3 = LA ++ (P ++ LB) := by simp [cat]
      rw [hsum, hcat] at hr8
      rw [hsum] at hc8 ⊢
      have HR8 : Hid (RB w8 C (n2 + (k + n3)) (LA ++ (P ++ LB))) := hide hr8
      have HB8 := hide (below_then HB5.out hb8')
      have HC8 := hide hc8
      clear hsum hcat ho8 hr8 hb8 hb8' hc8 hm8 HA5 HC5 HR5 HB5 hconv hcB hmB
      go_wp2_with fail
      refine Calls.mono (Read_any C (n2 + (k + n3)) c8 (LA ++ (P ++ LB)) (n2 : Int) _ HR8.out HC8.out (by omega) (HG.out.on HB8.out)) ?_
      rintro e w9 ⟨rfl, hb9⟩
      rw [HRB.out]
      have HB9 := hide (below_then HB8.out hb9)
      unfold readV
      dsimp only
      rw [← HLE.out]
      obtain ⟨T, hT⟩ : ∃ T, T = str L := ⟨_, rfl⟩
      rw [← hT]
      have hTT : (T.toList == T.toList) = true := by simp
      obtain ⟨q, hq⟩ : ∃ q : Nat, q = n2 + k := ⟨_, rfl⟩
      rw [← hq]
      have hqq : ((q : Int) == (n2 : Int) + (k : Int)) = true := by rw [beq_iff_eq, hq]; rfl
      clear hb9 hT hq
      go_wp2_with fail
      go_ret
      exact ⟨by first | rfl | simp, HB9.out⟩
    · rw [show printV L = .tuple #[.string (ByteArray.mk #[]), .int .i64 110] by unfold printV; rw [if_neg hyes]]
      have HK := hide (show chkV L = .tuple #[.int .i64 ((Utf.scan L).2 : Int), .int .i64 110] by unfold chkV; rw [if_neg hyes])
      clear hyes
      rw [← HS.out]
      go_wp2_with fail
      rw [HS.out]
      refine Calls.mono (Check_any L _ (by rw [HL.out]; omega) (HG.out.on HB4.out)) ?_
      rintro e w5 ⟨rfl, hb5⟩
      rw [HK.out]
      go_wp2_with fail
      go_ret
      exact ⟨by first | rfl | simp, below_then HB4.out hb5⟩
/-! ### the row's step, written by program after the guide's skeleton -/
theorem own : ownKnob Tryd.prog.godebug = none := by kernel_rfl
theorem laidOut : laidOutB Tryd.prog = true := by kernel_rfl
set_option maxRecDepth 100000 in
theorem lifted (os : Os) (started : os.Started) (H : Type) (enc : TypeId × Value → H) :
    ReturnsInHanded {} Tryd.checked os 8 .any (fun w args => (Rows.quoteBackSpec.pre enc Tryd.prog Tryd.f8 [] false w args ∧ laidMetH Tryd.prog laidL w) ∧ sizedMet enc Tryd.prog Tryd.f8 (OpenSpec.ofChange Rows.quoteBackSpec) false w args) (Rows.quoteBackSpec.post enc Tryd.prog Tryd.f8 false true false false) := by
  refine returnsInHanded_of_change_and (C := Tryd.checked) (X := fun w _ => laidMetH Tryd.prog laidL w) (fun _ _ _ hh h => h.of_heap hh) own started (by kernel_rfl) Tryd.func8
    (ChangeSpec.witness_shaped (enc := enc) (C := Tryd.checked) (os := os) (X := fun w _ => laidMetH Tryd.prog laidL w) false (World.doorLaid Tryd.prog 400 os) #[.string ByteArray.empty, .slice none 0 0, .slice none 0 0] 8 rfl (World.shaped_of_RefB (by kernel_rfl) (by kernel_rfl)) (by kernel_rfl) (by kernel_rfl) (by kernel_rfl) (door_met os _)) ?_
  intro W base args ds gs before hval0 hW _ _ hL _
  have hGl := gl_of_laid hL
  have hval : ∀ (j : Nat) t v, Tryd.f8.params[j]? = some t → args[j]? = some v → Value.okWide Tryd.prog W .any base t v := hval0
  have hW' := hW
  obtain ⟨p, q, hA0, hV, rfl, hfz, hnd⟩ := hW
  have hA : DataW.TrodAll enc Tryd.prog W 0 (fun _ => true) true Tryd.f8.params.toList args.toList ds p := hA0
  rw [Tryd.params8] at hA hval
  obtain ⟨v0, vs0, d0, ds0, p0, q0, hargs, rfl, rfl, h0, r0⟩ := trodAll_cons hA
  obtain ⟨v1, vs1, d1, ds1, p1, q1, rfl, rfl, rfl, h1, r1⟩ := trodAll_cons r0
  obtain ⟨v2, vs2, d2, ds2, p2, q2, rfl, rfl, rfl, h2, r2⟩ := trodAll_cons r1
  obtain ⟨rfl, rfl, rfl⟩ := trodAll_nil r2
  obtain rfl : args = #[v0, v1, v2] := by cases args; simp_all
  obtain ⟨rfl, rfl⟩ := trodVars_none hV
  obtain ⟨a0, rfl, rfl, rfl, w0⟩ := open_string Tryd.underlying9 (hval 0 9 v0 rfl rfl) h0
  have k1 := h1
  have lt1 := trod_lt' k1
  obtain ⟨a1, n1, c1, l1, rfl, w1⟩ := arg_bytes Tryd.underlying29 Tryd.underlying5 (by kernel_rfl) (hval 1 29 v1 rfl rfl) h1
  have k2 := h2
  have lt2 := trod_lt' k2
  obtain ⟨a2, n2, c2, l2, rfl, w2⟩ := arg_bytes Tryd.underlying29 Tryd.underlying5 (by kernel_rfl) (hval 2 29 v2 rfl rfl) h2
  clear hA0 hval0
  refine (walk a0 a1 n1 c1 l1 a2 n2 c2 l2 W w0 w1 w2 hGl).mono fun e W' ⟨he, bel⟩ => ?_
  subst he
  exact ⟨_, rfl, _, _, _, [], _, [], hW', trodAll_mk1 (shut_bool Tryd.underlying4 _), (trodAll_cons_mk (shut_string Tryd.underlying9 w0) (trodAll_cons_mk (Below.trod laidOut (by kernel_rfl) (of_decide_eq_true (by kernel_rfl)) k1 bel lt1) (trodAll_cons_mk (Below.trod laidOut (by kernel_rfl) (of_decide_eq_true (by kernel_rfl)) k2 bel lt2) trodAll_mk0))), rfl, bel.frame _, fun h => by cases h⟩

theorem over : Rows.quoteBackRow.holds Tryd.pinned (OpenSpec.ofChange Rows.quoteBackSpec) :=
  OpenClaim.holds_of_wide 8 Tryd.f8 rfl rfl rfl rfl rfl rfl rfl ⟨rfl, rfl, rfl, rfl, rfl⟩ rfl rfl rfl rfl rfl (by kernel_rfl) Tryd.func8 (by kernel_rfl)
    (of_decide_eq_true (by kernel_rfl)) (by unfold Func.isWrapper; first | (rw [if_pos (by decide +kernel)]; kernel_rfl) | (rw [if_neg (by decide +kernel)]; exact ⟨rfl, rfl⟩))
    (fun os started H enc _ => lifted os started H enc)

/-- the tied card, closed by the builder -/
theorem proved : Rows.QuoteBackCardSaid :=
  Claim7.holds_tied_plain_at .later [] [.data] true (true, "29c9f16f4bc01fd59de145b946254e99b4688103a1f01d14b61d294ae7025dbc") false
    over (fun _ h => by cases h) (by kernel_rfl) (fun _ h => by cases h) quoteBack_row_tie rfl ⟨rfl, rfl⟩ (by kernel_rfl) rfl
    (fun f fn hf hfn => by
      obtain rfl : f = 8 := Option.some.inj ((show Tryd.prog.funcNamed "davenport/davenportlaw02.QuoteBack" = some 8 by kernel_rfl).symm.trans hf) |>.symm
      obtain rfl : fn = Tryd.f8 := (Option.some.inj (Tryd.func8.symm.trans hfn)).symm
      exact ⟨by kernel_rfl, fun j t ht => by
        rw [Tryd.params8] at ht
        rcases j with _ | j
        · obtain rfl : 9 = t := by simpa using ht
          exact (show Tryd.prog.wantsStandIn 9 = false by kernel_rfl)
        rcases j with _ | j
        · obtain rfl : 29 = t := by simpa using ht
          exact (show Tryd.prog.wantsStandIn 29 = false by kernel_rfl)
        rcases j with _ | j
        · obtain rfl : 29 = t := by simpa using ht
          exact (show Tryd.prog.wantsStandIn 29 = false by kernel_rfl)
        · simp at ht⟩)
    (by kernel_rfl)
end Go.Proofs.YtbnibiealnogdaaDoor.LawQuoteBack
