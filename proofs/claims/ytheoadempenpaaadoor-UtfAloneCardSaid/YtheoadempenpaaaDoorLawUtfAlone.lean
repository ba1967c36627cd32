/- Proved: davenportlaw01.UtfAlone returns true for every input: the bytes that Next decodes are exactly the encoding of the result, and no proper prefix of them decodes. The card ties the package variable that the walk reads to the program's text. -/
import Derived.Test.YtheoadempenpaaaDoorRows
import Derived.Test.YtheoadempenpaaaDoorCards
import Derived.Test.YtheoadempenpaaaDoorTie
import Derived.Test.YtheoadempenpaaaDoorOpen
import Derived.Test.YtheoadempenpaaaDoorFew
import Derived.Test.YtheoadempenpaaaDoorUtfLaid
import Derived.Test.YtheoadempenpaaaDoorUtfWakes
import Derived.SevenTiedAt
namespace Go.Proofs.YtheoadempenpaaaDoor.LawUtfAlone
open Go.ChangeShapes Go.WideShapes Go.ChangeAt Go.RowKit
open Go.ChangeMaps (open_string shut_string)

theorem beq_any (A B : Option Addr) (n m c d : Nat) (l k : List UInt8) (w : World) (hA : RB w A n l) (hB : RB w B m k) :
    Calls Tryd.prog 26 #[.slice A n c, .slice B m d] w fun e w' => e = .returned (.bool (decide (l = k))) ∧ w' = w := by
  have h1 := run_str (P := Tryd.prog) w 24 9 5 A n c l hA (by kernel_rfl) (by kernel_rfl) (by kernel_rfl)
  have h2 := run_str (P := Tryd.prog) w 24 9 5 B m d k hB (by kernel_rfl) (by kernel_rfl) (by kernel_rfl)
  have ht := str_beq l k
  generalize str l = S at *
  generalize str k = T at *
  go_enter Tryd.func26, Tryd.ntmps26
  go_wp2
  go_ret
  exact ⟨by first | rfl | exact ret_bool ht, rfl⟩
theorem next_cases (l : List UInt8) (at_ : Int) : (∃ e : Int, e ≠ 0 ∧ nextAt l at_ = (0, 0, e)) ∨
    (∃ k p m : Nat, at_ = (k : Int) ∧ k < l.length ∧ Utf.dec (l.drop k) = (p, m) ∧ m ≠ 0 ∧ nextAt l at_ = ((p : Int), (k : Int) + (m : Int), 0)) := by
  unfold nextAt
  by_cases h1 : at_ < 0 ∨ (l.length : Int) < at_
  · rw [if_pos h1]; exact .inl ⟨2, by decide, rfl⟩
  · rw [if_neg h1]
    by_cases h2 : at_ = (l.length : Int)
    · rw [if_pos h2]; exact .inl ⟨6, by decide, rfl⟩
    · rw [if_neg h2]
      by_cases h3 : (Utf.dec (l.drop at_.toNat)).2 = 0
      · rw [if_pos h3]; exact .inl ⟨110, by decide, rfl⟩
      · rw [if_neg h3]
        exact .inr ⟨at_.toNat, (Utf.dec (l.drop at_.toNat)).1, (Utf.dec (l.drop at_.toNat)).2, by omega, by omega, rfl, h3, by rw [Int.toNat_of_nonneg (by omega)]⟩
/-- no proper prefix decodes -/
theorem cut_no {l : List UInt8} {p m : Nat} (h : Utf.dec l = (p, m)) (hm : m ≠ 0) : (Utf.dec (l.take (m - 1))).2 = 0 := by
  rcases Nat.eq_zero_or_pos (Utf.dec (l.take (m - 1))).2 with h0 | h0
  · exact h0
  · exfalso
    obtain ⟨h1, h2, h3⟩ := Utf.enc_dec (l := l.take (m - 1)) (p := (Utf.dec (l.take (m - 1))).1) (n := (Utf.dec (l.take (m - 1))).2) rfl (by omega)
    rw [List.length_take] at h2
    have h4 := Utf.enc_dec h hm
    have hl : l = Utf.enc (Utf.dec (l.take (m - 1))).1 ++ l.drop (Utf.dec (l.take (m - 1))).2 := by
      rw [h3, List.take_take, Nat.min_eq_left (by omega), List.take_append_drop]
    have h5 := Utf.dec_enc h1 (l.drop (Utf.dec (l.take (m - 1))).2)
    rw [← hl, h] at h5
    have h6 : m = (Utf.enc (Utf.dec (l.take (m - 1))).1).length := congrArg Prod.snd h5
    rw [h3, List.length_take, List.length_take] at h6
    omega
theorem next_cut {l : List UInt8} {k p m : Nat} (hk : k < l.length) (h : Utf.dec (l.drop k) = (p, m)) (hm : m ≠ 0) (hl : k + m ≤ l.length) :
    nextAt (l.take (k + m - 1)) (k : Int) = if m = 1 then (0, 0, 6) else (0, 0, 110) := by
  have hlen : (l.take (k + m - 1)).length = k + m - 1 := by rw [List.length_take]; omega
  unfold nextAt
  rw [hlen, if_neg (by omega)]
  by_cases h1 : m = 1
  · rw [if_pos (by omega), if_pos h1]
  · rw [if_neg (by omega), if_neg h1, Int.toNat_natCast, if_pos]
    rw [List.drop_take, show k + m - 1 - k = m - 1 by omega]
    exact cut_no h hm
set_option maxHeartbeats 8000000 in
theorem walk (A : Option Addr) (n c : Nat) (l : List UInt8) (at_ : Int) (w : World) (hA : Arg w A n c l) (w1 : (Lit.int .i64 at_).wf = true) (hg : Gl w) :
    Calls Tryd.prog 7 #[.slice A n c, .int .i64 at_] w fun e w' => e = .returned (.bool true) ∧ Below w.heap.size w w' := by
  obtain ⟨hr, hnc, hc⟩ := hA
  have HR := hide hr
  have HG := hide hg
  have HC := hide (And.intro hnc hc)
  have HW := hide (wf_i64 w1)
  clear hr hnc hc hg w1
  go_enter Tryd.func7, Tryd.ntmps7
  go_wp2_with fail
  refine Calls.mono (wakes_any _ HG.out) ?_
  rintro e w1 ⟨rfl, hb1⟩
  have HB1 := hide hb1
  clear hb1
  go_wp2_with fail
  refine Calls.mono (few_rb A n c l _ (HR.out.on HB1.out) HC.out.1 HC.out.2) ?_
  rintro e w2 ⟨A2, n2, c2, rfl, hr2, hn2, hc2, hm2, hb2⟩
  generalize l.take FEW = L at *
  have HB2 := hide (below_then HB1.out hb2)
  have HR2 := hide hr2
  have HN2 := hide (And.intro hn2 (And.intro hc2 hm2))
  have HLN := hide hr2.len
  clear hb2 hr2 hn2 hc2 hm2 HB1
  go_wp2_with fail
  refine Calls.mono (Next_any A2 n2 c2 L at_ _ HR2.out HN2.out.2.1 (by have := HN2.out.1; omega) (HG.out.on HB2.out)) ?_
  rintro e w3 ⟨rfl, hb3⟩
  have HB3 := hide (below_then HB2.out hb3)
  have HR3 := hide (HR2.out.on hb3)
  clear hb3 HB2 HR2
  rcases next_cases L at_ with ⟨e, he, hx⟩ | ⟨k, p, m, rfl, hk, hd, hm, hx⟩
  · rw [hx]
    have hne : (e != 0) = true := by rw [bne_iff_ne]; exact he
    clear he hx
    unfold nextAtV
    dsimp only
    go_wp2_with fail
    go_ret
    exact ⟨rfl, HB3.out⟩
  · rw [hx]
    obtain ⟨h1, h2, h3⟩ := Utf.enc_dec hd hm
    have hml := (Utf.enc_len h1).trans rfl
    have hm4 := Utf.sz_le (p : Int)
    have hmm : (Utf.enc p).length = m := by rw [h3, List.length_take]; omega
    rw [List.length_drop, HLN.out] at h2
    have hkn : k < n2 := by rw [← HLN.out]; exact hk
    have HCUT := hide (next_cut hk hd hm (by rw [HLN.out]; omega))
    have HE := hide h3
    have HP := hide h1
    have hm5 : m ≤ 4 := by omega
    have hm1 : 1 ≤ m := by omega
    have hkm : k + m ≤ n2 := by omega
    have hn3 := HN2.out.1
    have hnc2 := HN2.out.2.1
    clear hk hd hm hx h1 h2 h3 hml hm4
    unfold nextAtV
    dsimp only
    go_wp2_with fail
    refine Calls.mono (Put_any none 0 0 (p : Int) [] _ (RB.empty _ _) (by omega)) ?_
    rintro e w4 ⟨hb4, he⟩
    rw [if_pos HP.out, Int.toNat_natCast, List.nil_append, Nat.zero_add, hmm] at he
    obtain ⟨v4, rfl, ho4⟩ := he
    obtain ⟨A4, c4, rfl, hc4, hm44, hr4⟩ := own_slice ho4
    have HB4 := hide (below_then HB3.out hb4)
    have HR4 := hide (HR3.out.on hb4)
    have HO4 : Hid (RB w4 A4 m (Utf.enc p)) := hide hr4
    clear hb4 ho4 hc4 hm44 hr4 HB3 HR3
    have f1 : ¬ (k : Int) + (m : Int) ≤ (k : Int) := by omega
    have f2 : ¬ (n2 : Int) < (k : Int) + (m : Int) := by omega
    have f3 : (0 : Int) ≤ (k : Int) := by omega
    have f4 : (k : Int) ≤ (k : Int) + (m : Int) := by omega
    have f5 : ¬ (4 : Int) < (m : Int) := by omega
    obtain ⟨A5, hcut, hr5⟩ := cut_any (lo := k) (hi := k + m) HR4.out (by omega) hkm hnc2
    have hcut' : ∀ W : World, (Instr.sliceAt 24 (.slice A2 n2 c2) (some (.int .i64 (k : Int))) (some (.int .i64 ((k : Int) + (m : Int)))) none).run Tryd.prog W = .ok (.slice A5 m (c2 - k)) W := fun W => by have := hcut W; rw [show k + m - k = m by omega] at this; exact this
    rw [show k + m - k = m by omega, ← HE.out] at hr5
    have HR5 := hide hr5
    clear hcut hr5
    go_wp2_with fail
    refine Calls.mono (beq_any A4 A5 m m c4 (c2 - k) (Utf.enc p) (Utf.enc p) _ HO4.out HR5.out) ?_
    rintro e w5 ⟨rfl, rfl⟩
    rw [decide_eq_true rfl]
    have g1 : wrap64 ((k : Int) + (m : Int) - 1) = (k : Int) + (m : Int) - 1 := by unfold wrap64; omega
    have g2 : (k : Int) + (m : Int) - 1 ≤ (c2 : Int) := by omega
    have g3 : (0 : Int) ≤ (k : Int) + (m : Int) - 1 := by omega
    go_wp2_with fail
    refine Calls.mono (Next_any A2 (k + m - 1) c2 (L.take (k + m - 1)) (k : Int) _ (HR4.out.take (k + m - 1) (by omega)) (by omega) (by omega) (HG.out.on HB4.out)) ?_
    rintro e w6 ⟨rfl, hb6⟩
    rw [HCUT.out]
    have HB6 := hide (below_then HB4.out hb6)
    have g5 : wrap64 ((k : Int) + 1) = (k : Int) + 1 := by unfold wrap64; omega
    clear hb6
    by_cases h1 : m = 1
    · subst h1
      rw [if_pos rfl]
      unfold nextAtV
      dsimp only
      go_wp2_with fail
      go_ret
      exact ⟨by first | rfl | simp, HB6.out⟩
    · rw [if_neg h1]
      unfold nextAtV
      dsimp only
      go_wp2_with fail
      go_ret
      exact ⟨by first | rfl | simp, HB6.out⟩
/-! ### the row's step, written by program after the guide's skeleton -/
theorem own : ownKnob Tryd.prog.godebug = none := by kernel_rfl
theorem laidOut : laidOutB Tryd.prog = true := by kernel_rfl
set_option maxRecDepth 100000 in
theorem lifted (os : Os) (started : os.Started) (H : Type) (enc : TypeId × Value → H) :
    ReturnsInHanded {} Tryd.checked os 7 .any (fun w args => (Rows.utfAloneSpec.pre enc Tryd.prog Tryd.f7 [] false w args ∧ laidMetH Tryd.prog laidL w) ∧ sizedMet enc Tryd.prog Tryd.f7 (OpenSpec.ofChange Rows.utfAloneSpec) false w args) (Rows.utfAloneSpec.post enc Tryd.prog Tryd.f7 false true false false) := by
  refine returnsInHanded_of_change_and (C := Tryd.checked) (X := fun w _ => laidMetH Tryd.prog laidL w) (fun _ _ _ hh h => h.of_heap hh) own started (by kernel_rfl) Tryd.func7
    (ChangeSpec.witness_shaped (enc := enc) (C := Tryd.checked) (os := os) (X := fun w _ => laidMetH Tryd.prog laidL w) false (World.doorLaid Tryd.prog 400 os) #[.slice none 0 0, .int .i64 0] 8 rfl (World.shaped_of_RefB (by kernel_rfl) (by kernel_rfl)) (by kernel_rfl) (by kernel_rfl) (by kernel_rfl) (door_met os _)) ?_
  intro W base args ds gs before hval0 hW _ _ hL _
  have hGl := gl_of_laid hL
  have hval : ∀ (j : Nat) t v, Tryd.f7.params[j]? = some t → args[j]? = some v → Value.okWide Tryd.prog W .any base t v := hval0
  have hW' := hW
  obtain ⟨p, q, hA0, hV, rfl, hfz, hnd⟩ := hW
  have hA : DataW.TrodAll enc Tryd.prog W 0 (fun _ => true) true Tryd.f7.params.toList args.toList ds p := hA0
  rw [Tryd.params7] at hA hval
  obtain ⟨v0, vs0, d0, ds0, p0, q0, hargs, rfl, rfl, h0, r0⟩ := trodAll_cons hA
  obtain ⟨v1, vs1, d1, ds1, p1, q1, rfl, rfl, rfl, h1, r1⟩ := trodAll_cons r0
  obtain ⟨rfl, rfl, rfl⟩ := trodAll_nil r1
  obtain rfl : args = #[v0, v1] := by cases args; simp_all
  obtain ⟨rfl, rfl⟩ := trodVars_none hV
  have k0 := h0
  have lt0 := trod_lt' k0
  obtain ⟨a0, n0, c0, l0, rfl, w0⟩ := arg_bytes Tryd.underlying24 Tryd.underlying5 (by kernel_rfl) (hval 0 24 v0 rfl rfl) h0
  obtain ⟨a1, rfl, rfl, rfl, w1⟩ := open_int Tryd.underlying3 (hval 1 3 v1 rfl rfl) h1
  clear hA0 hval0
  refine (walk a0 n0 c0 l0 a1 W w0 w1 hGl).mono fun e W' ⟨he, bel⟩ => ?_
  subst he
  exact ⟨_, rfl, _, _, _, [], _, [], hW', trodAll_mk1 (shut_bool Tryd.underlying4 _), (trodAll_cons_mk (Below.trod laidOut (by kernel_rfl) (of_decide_eq_true (by kernel_rfl)) k0 bel lt0) (trodAll_cons_mk (shut_int Tryd.underlying3 w1) trodAll_mk0)), rfl, bel.frame _, fun h => by cases h⟩

theorem over : Rows.utfAloneRow.holds Tryd.pinned (OpenSpec.ofChange Rows.utfAloneSpec) :=
  OpenClaim.holds_of_wide 7 Tryd.f7 rfl rfl rfl rfl rfl rfl rfl ⟨rfl, rfl, rfl, rfl, rfl⟩ rfl rfl rfl rfl rfl (by kernel_rfl) Tryd.func7 (by kernel_rfl)
    (of_decide_eq_true (by kernel_rfl)) (by unfold Func.isWrapper; first | (rw [if_pos (by decide +kernel)]; kernel_rfl) | (rw [if_neg (by decide +kernel)]; exact ⟨rfl, rfl⟩))
    (fun os started H enc _ => lifted os started H enc)

/-- the tied card, closed by the builder -/
theorem proved : Rows.UtfAloneCardSaid :=
  Claim7.holds_tied_plain_at .later [] [.data] true (true, "5db38756cb098dae97c1566c1026846fa7771e753dcd2c8b6f1b86bf2868e610") false
    over (fun _ h => by cases h) (by kernel_rfl) (fun _ h => by cases h) utfAlone_row_tie rfl ⟨rfl, rfl⟩ (by kernel_rfl) rfl
    (fun f fn hf hfn => by
      obtain rfl : f = 7 := Option.some.inj ((show Tryd.prog.funcNamed "davenport/davenportlaw01.UtfAlone" = some 7 by kernel_rfl).symm.trans hf) |>.symm
      obtain rfl : fn = Tryd.f7 := (Option.some.inj (Tryd.func7.symm.trans hfn)).symm
      exact ⟨by kernel_rfl, fun j t ht => by
        rw [Tryd.params7] at ht
        rcases j with _ | j
        · obtain rfl : 24 = t := by simpa using ht
          exact (show Tryd.prog.wantsStandIn 24 = false by kernel_rfl)
        rcases j with _ | j
        · obtain rfl : 3 = t := by simpa using ht
          exact (show Tryd.prog.wantsStandIn 3 = false by kernel_rfl)
        · simp at ht⟩)
    (by kernel_rfl)
end Go.Proofs.YtheoadempenpaaaDoor.LawUtfAlone
