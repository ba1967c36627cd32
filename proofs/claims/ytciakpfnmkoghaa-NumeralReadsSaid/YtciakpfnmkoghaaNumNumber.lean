/- Walk of the reference's Number. -/
import Derived.Test.YtciakpfnmkoghaaNumAloneMath
import Derived.Test.YtciakpfnmkoghaaNumPrint
namespace Go.Proofs.Ytciakpfnmkoghaa
open Go.RowKit
open Num (isAt val)

theorem val_ge (s : Nat) (l : List UInt8) : s ≤ val s l := by
  induction l generalizing s with
  | nil => exact Nat.le_refl _
  | cons c l ih =>
    rw [Num.val_cons]
    exact Nat.le_trans (by omega) (ih _)
/-- the digits ahead of a place -/
def upTo (l : List UInt8) (m : Bool) (j : Nat) : Nat := val 0 ((l.take j).drop (if m then 1 else 0))
theorem upTo_succ (l : List UInt8) (m : Bool) (j : Nat) (h : j < l.length) (hm : ¬ (j = 0 ∧ m = true)) : upTo l m (j + 1) = 10 * upTo l m j + (l[j].toNat - 48) := by
  unfold upTo
  rw [List.take_succ_eq_append_getElem h, List.drop_append_of_le_length, Num.val_append, Num.val_cons, Num.val_nil]
  rw [List.length_take]
  split
  · rename_i hm'
    have : j ≠ 0 := fun e => hm ⟨e, hm'⟩
    omega
  · omega
theorem upTo_zero (l : List UInt8) (m : Bool) : upTo l m 0 = 0 := by unfold upTo; rw [List.take_zero, List.drop_nil]; rfl
theorem upTo_one (l : List UInt8) (h : 0 < l.length) : upTo l true 1 = 0 := by
  unfold upTo
  rw [if_pos rfl, List.drop_eq_nil_of_le (by rw [List.length_take]; omega)]; rfl
theorem upTo_le (l : List UInt8) (m : Bool) (j : Nat) : upTo l m j ≤ upTo l m l.length := by
  unfold upTo
  rw [List.take_length]
  have : l.drop (if m then 1 else 0) = (l.take j).drop (if m then 1 else 0) ++ (l.drop (max j (if m then 1 else 0))) := by
    generalize (if m then 1 else 0) = k
    by_cases hj : j ≤ k
    · rw [Nat.max_eq_right hj, show (l.take j).drop k = [] from List.drop_eq_nil_of_le (by rw [List.length_take]; omega)]; rfl
    · rw [Nat.max_eq_left (by omega)]
      conv => lhs; rw [← List.take_append_drop j l]
      by_cases hl : k ≤ (l.take j).length
      · rw [List.drop_append_of_le_length hl]
      · rw [List.length_take] at hl
        rw [List.drop_eq_nil_of_le (by rw [List.length_append, List.length_take, List.length_drop]; omega), List.drop_eq_nil_of_le (by rw [List.length_take]; omega), List.drop_eq_nil_of_le (by omega)]; rfl
  rw [this, Num.val_append]
  exact val_ge _ _
def refNumber (l : List UInt8) : Int × Bool :=
  let m := isAt l 0 [45]
  let V := upTo l m l.length
  if V ≤ Num.most m then ((if m then -(V : Int) else V), true) else (0, false)

theorem tdiv_lim (d : Nat) (hd : d < 10) : ((-9223372036854775808 : Int) + (d : Int)).tdiv 10 = -(((9223372036854775808 - d) / 10 : Nat) : Int) := by
  rw [show (-9223372036854775808 : Int) + (d : Int) = -(((9223372036854775808 - d : Nat)) : Int) by omega, Int.neg_tdiv, Int.tdiv_eq_ediv_of_nonneg (by omega)]
  omega

def RetNum (t : Int × Bool) (w : World) (e : Ending) (w' : World) : Prop := e = .returned (.tuple #[.int .i64 t.1, .bool t.2]) ∧ w' = w

theorem number_any (A : Option Addr) (n c : Nat) (l : List UInt8) (w : World) (h : RB w A n l) (hn : n ≤ 1048576) (h0 : 0 < n) (hd : ∀ j (hj : j < l.length), ¬ (j = 0 ∧ isAt l 0 [45] = true) → 48 ≤ l[j].toNat ∧ l[j].toNat ≤ 57) :
    Calls Try.prog 16 #[.slice A n c] w (RetNum (refNumber l) w) := by
  have HN := hide h.len
  have HD := hide hd
  have h0l : 0 < l.length := by rw [HN.out]; exact h0
  obtain ⟨b0, o0, rfl, _, hc0⟩ := h.cell h0l
  have HH := hide h
  have hm0 : isAt l 0 [45] = (l[0] == 45) := by rw [Num.isAt_get h0l]; simp only [List.contains_cons, List.contains_nil, Bool.or_false]
  have hm1 : ((l[0].toNat : Int) == 45) = isAt l 0 [45] := by
    rw [hm0, Bool.eq_iff_iff, beq_iff_eq, beq_iff_eq]
    exact ⟨fun e => UInt8.toNat_inj.1 (by have : (45 : UInt8).toNat = 45 := rfl; omega), fun e => by rw [e]; rfl⟩
  have HR : Hid (∀ m, m = isAt l 0 [45] → refNumber l = if upTo l m l.length ≤ Num.most m then ((if m then -(upTo l m l.length : Int) else upTo l m l.length), true) else (0, false)) := hide fun m hm => by rw [hm]; rfl
  have h0i : (0 : Int) < (n : Int) := by omega
  clear h hd hm0
  rw [Nat.add_zero] at hc0
  generalize l[0].toNat = x0 at *
  generalize hmm : isAt l 0 [45] = m at *
  have HM := hide hmm
  clear hmm
  go_enter Try.func16, Try.ntmps16
  go_wp2_with fail
  go_loop [5, 6] (fun s i => ∃ j : Nat, j ≤ n ∧ i = .int .i64 j ∧ s = .int .i64 (-(upTo l m j : Int)) ∧ upTo l m j ≤ 9223372036854775808) (fun _ i => n - (intOf i).toNat)
  case atStart => exact ⟨0, Nat.zero_le _, rfl, by rw [upTo_zero]; rfl, by rw [upTo_zero]; omega⟩
  case round =>
    obtain ⟨j, hj, rfl, rfl, hv⟩ := hrel
    by_cases hlt : j < n
    · have hjl : j < l.length := by rw [HN.out]; exact hlt
      by_cases hz : j = 0 ∧ m = true
      · obtain ⟨rfl, rfl⟩ := hz
        have HU := hide (upTo_one l h0l)
        go_wp2_with fail
        refine ⟨⟨1, by omega, rfl, by rw [HU.out, upTo_zero], by rw [HU.out]; omega⟩, ?_⟩
        simp only [intOf]; omega
      · have hdj := HD.out j hjl hz
        rcases Nat.eq_zero_or_pos j with h | hpos
        · subst h
          obtain rfl : m = false := by
            cases m with
            | false => rfl
            | true => exact absurd ⟨rfl, rfl⟩ hz
          have HS := hide (upTo_succ l false 0 hjl (by simp))
          obtain ⟨b1, o1, e1, _, hc⟩ := HH.out.cell hjl
          injection e1 with e1
          injection e1 with e1 e2 _
          subst e1
          subst e2
          rw [Nat.add_zero] at hc
          have hj0 : (0 : Int) ≤ (0 : Int) := by omega
          have hj1 : (0 : Int) < (n : Int) := by omega
          generalize l[0].toNat = x at *
          have hu8 : IntKind.u8.wrap ((x : Int) - 48) = ((x - 48 : Nat) : Int) := by unfold IntKind.wrap; simp [IntKind.signed, IntKind.bits]; omega
          have hdl : x - 48 < 10 := by omega
          generalize x - 48 = d at *
          have hi64 : IntKind.i64.wrap (d : Int) = (d : Int) := by rw [IntKind.wrap_i64]; omega
          have hlim := tdiv_lim d hdl
          have hadd : IntKind.i64.wrap (-9223372036854775808 + (d : Int)) = -9223372036854775808 + (d : Int) := by rw [IntKind.wrap_i64]; omega
          obtain ⟨K, hK⟩ : ∃ K, K = (9223372036854775808 - d) / 10 := ⟨_, rfl⟩
          have hKw : wrap64 (-(K : Int)) = -(K : Int) := by unfold wrap64; omega
          rw [← hK] at hlim
          have HLE := hide (upTo_le l false (0 + 1))
          clear hdj hc0
          by_cases hov : K < upTo l false 0
          · have HO : Hid (refNumber l = (0, false)) := hide (by
              have := HS.out
              have h2 := HLE.out
              rw [HR.out false rfl, if_neg]
              have : Num.most false ≤ 9223372036854775808 := by unfold Num.most; split <;> omega
              omega)
            clear hK HS HLE
            generalize upTo l false 0 = v at *
            have hcmp : -(v : Int) < -(K : Int) := by omega
            have hcmp2 : (K : Int) < (v : Int) := by omega
            clear hv
            go_wp2_with fail
            go_ret2
            exact ⟨by rw [HO.out]; rfl, rfl⟩
          · have HO := hide (show upTo l false (0 + 1) ≤ 9223372036854775808 by have := HS.out; omega)
            have HV : Hid (-(upTo l false (0 + 1) : Int) = 10 * -(upTo l false 0 : Int) - (d : Int)) := hide (by rw [HS.out]; omega)
            have hb1 : wrap64 (10 * -(upTo l false 0 : Int)) = 10 * -(upTo l false 0 : Int) := by unfold wrap64; have := HO.out; have := HS.out; omega
            have hb2 : wrap64 (10 * -(upTo l false 0 : Int) - (d : Int)) = 10 * -(upTo l false 0 : Int) - (d : Int) := by unfold wrap64; have := HO.out; have := HS.out; omega
            clear hK hv HS HLE
            generalize upTo l false 0 = v at *
            have hcmp : -(K : Int) ≤ -(v : Int) := by omega
            have hcmp2 : (v : Int) ≤ (K : Int) := by omega
            go_wp2_with fail
            refine ⟨⟨0 + 1, by omega, rfl, by rw [HV.out, hb2], HO.out⟩, ?_⟩
            simp only [intOf]; omega
        · have HZ := hide hz
          have hjz : ((j : Int) == 0) = false := by rw [beq_eq_false_iff_ne]; omega
          clear hz
          have HS := hide (upTo_succ l m j hjl (by exact HZ.out))
          obtain ⟨b1, o1, e1, _, hc⟩ := HH.out.cell hjl
          injection e1 with e1
          injection e1 with e1 e2 _
          subst e1
          subst e2
          skip
          have hj0 : (0 : Int) ≤ (j : Int) := by omega
          have hj1 : (j : Int) < (n : Int) := by omega
          generalize l[j].toNat = x at *
          have hu8 : IntKind.u8.wrap ((x : Int) - 48) = ((x - 48 : Nat) : Int) := by unfold IntKind.wrap; simp [IntKind.signed, IntKind.bits]; omega
          have hdl : x - 48 < 10 := by omega
          generalize x - 48 = d at *
          have hi64 : IntKind.i64.wrap (d : Int) = (d : Int) := by rw [IntKind.wrap_i64]; omega
          have hlim := tdiv_lim d hdl
          have hadd : IntKind.i64.wrap (-9223372036854775808 + (d : Int)) = -9223372036854775808 + (d : Int) := by rw [IntKind.wrap_i64]; omega
          obtain ⟨K, hK⟩ : ∃ K, K = (9223372036854775808 - d) / 10 := ⟨_, rfl⟩
          have hKw : wrap64 (-(K : Int)) = -(K : Int) := by unfold wrap64; omega
          rw [← hK] at hlim
          have HLE := hide (upTo_le l m (j + 1))
          clear hdj hc0
          by_cases hov : K < upTo l m j
          · have HO : Hid (refNumber l = (0, false)) := hide (by
              have := HS.out
              have h2 := HLE.out
              rw [HR.out m rfl, if_neg]
              have : Num.most m ≤ 9223372036854775808 := by unfold Num.most; split <;> omega
              omega)
            clear hK HS HLE
            generalize upTo l m j = v at *
            have hcmp : -(v : Int) < -(K : Int) := by omega
            have hcmp2 : (K : Int) < (v : Int) := by omega
            clear hv
            go_wp2_with fail
            go_ret2
            exact ⟨by rw [HO.out]; rfl, rfl⟩
          · have HO := hide (show upTo l m (j + 1) ≤ 9223372036854775808 by have := HS.out; omega)
            have HV : Hid (-(upTo l m (j + 1) : Int) = 10 * -(upTo l m j : Int) - (d : Int)) := hide (by rw [HS.out]; omega)
            have hb1 : wrap64 (10 * -(upTo l m j : Int)) = 10 * -(upTo l m j : Int) := by unfold wrap64; have := HO.out; have := HS.out; omega
            have hb2 : wrap64 (10 * -(upTo l m j : Int) - (d : Int)) = 10 * -(upTo l m j : Int) - (d : Int) := by unfold wrap64; have := HO.out; have := HS.out; omega
            clear hK hv HS HLE
            generalize upTo l m j = v at *
            have hcmp : -(K : Int) ≤ -(v : Int) := by omega
            have hcmp2 : (v : Int) ≤ (K : Int) := by omega
            go_wp2_with fail
            refine ⟨⟨j + 1, by omega, by go_num, by rw [HV.out, hb2], HO.out⟩, ?_⟩
            simp only [intOf]; omega
    · obtain rfl : j = n := by omega
      have hlj := HN.out
      rw [hlj] at HR
      clear hlj
      cases m with
      | true =>
        have HX : Hid (refNumber l = (-(upTo l true j : Int), true)) := hide (by rw [HR.out true rfl, if_pos (by simpa [Num.most] using hv), if_pos rfl])
        generalize upTo l true j = v at *
        go_wp2_with fail
        go_ret2
        exact ⟨by rw [HX.out]; rfl, rfl⟩
      | false =>
        by_cases hov : upTo l false j = 9223372036854775808
        · have HX : Hid (refNumber l = (0, false)) := hide (by rw [HR.out false rfl, if_neg (by simp only [Num.most, Bool.false_eq_true, ite_false]; omega)])
          rw [hov] at *
          go_wp2_with fail
          go_ret2
          exact ⟨by rw [HX.out]; rfl, rfl⟩
        · have HX : Hid (refNumber l = ((upTo l false j : Int), true)) := hide (by rw [HR.out false rfl, if_pos (by simp only [Num.most, Bool.false_eq_true, ite_false]; omega), if_neg (by simp)])
          have hne : ((-(upTo l false j : Int)) == (-9223372036854775808 : Int)) = false := by rw [beq_eq_false_iff_ne]; omega
          have hwr : wrap64 (- -(upTo l false j : Int)) = (upTo l false j : Int) := by unfold wrap64; omega
          have hneg : wrap64 (upTo l false j : Int) = (upTo l false j : Int) := by unfold wrap64; omega
          clear hv hov
          generalize upTo l false j = v at *
          go_wp2_with fail
          go_ret2
          exact ⟨by rw [HX.out]; simp, rfl⟩
end Go.Proofs.Ytciakpfnmkoghaa
