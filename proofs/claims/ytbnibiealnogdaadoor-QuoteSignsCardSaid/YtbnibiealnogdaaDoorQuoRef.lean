/- The walks of the reference's Digit, Four, Wrong. -/
import Derived.Test.YtbnibiealnogdaaDoorQuoSign
namespace Go.Proofs.YtbnibiealnogdaaDoor
open Go.RowKit

/-- what Digit answers -/
def digI (c : UInt8) : Int := match Quo.dig c with
  | none => -1
  | some d => (d : Int)
theorem digI_no {c : UInt8} (h : Quo.dig c = none) : digI c = -1 := by unfold digI; rw [h]
theorem digI_yes {c : UInt8} {d : Nat} (h : Quo.dig c = some d) : digI c = (d : Int) := by unfold digI; rw [h]
theorem numZ {x : Nat} {lo hi : Nat} (h : lo ≤ x ∧ x ≤ hi) : (lo : Int) ≤ (x : Int) ∧ (x : Int) ≤ (hi : Int) := by omega
theorem rDigit_any (c : UInt8) (w : World) : Calls Tryd.prog 52 #[.int .u8 (c.toNat : Int)] w fun e w' => e = .returned (.int .i64 (digI c)) ∧ w' = w := by
  have hx := c.toNat_lt
  by_cases h1 : 48 ≤ c.toNat ∧ c.toNat ≤ 57
  · have HF := hide (show digI c = (c.toNat : Int) - 48 by rw [digI_yes (dig_num h1)]; omega)
    obtain ⟨g1, g2⟩ : (48 : Int) ≤ (c.toNat : Int) ∧ (c.toNat : Int) ≤ 57 := by omega
    generalize c.toNat = x at *
    clear h1
    go_enter Tryd.func52, Tryd.ntmps52
    go_wp2
    go_ret
    exact ⟨by rw [HF.out]; rfl, rfl⟩
  · by_cases h2 : 97 ≤ c.toNat ∧ c.toNat ≤ 102
    · have HF := hide (show digI c = (c.toNat : Int) - 97 + 10 by rw [digI_yes (dig_small h2)]; omega)
      obtain ⟨g1, g2, g3, g4⟩ : (48 : Int) ≤ (c.toNat : Int) ∧ ¬ (c.toNat : Int) ≤ 57 ∧ (97 : Int) ≤ (c.toNat : Int) ∧ (c.toNat : Int) ≤ 102 := by omega
      generalize c.toNat = x at *
      clear h1 h2
      go_enter Tryd.func52, Tryd.ntmps52
      go_wp2
      go_ret
      exact ⟨by rw [HF.out]; rfl, rfl⟩
    · by_cases h3 : 65 ≤ c.toNat ∧ c.toNat ≤ 70
      · have HF := hide (show digI c = (c.toNat : Int) - 65 + 10 by rw [digI_yes (dig_great h3)]; omega)
        obtain ⟨g1, g2, g3, g4, g5⟩ : (48 : Int) ≤ (c.toNat : Int) ∧ ¬ (c.toNat : Int) ≤ 57 ∧ ¬ (97 : Int) ≤ (c.toNat : Int) ∧ (65 : Int) ≤ (c.toNat : Int) ∧ (c.toNat : Int) ≤ 70 := by omega
        generalize c.toNat = x at *
        clear h1 h2 h3
        go_enter Tryd.func52, Tryd.ntmps52
        go_wp2
        go_ret
        exact ⟨by rw [HF.out]; rfl, rfl⟩
      · have HF := hide (digI_no (dig_no h1 h2 h3))
        have hz := digZ h1 h2 h3
        generalize c.toNat = x at *
        clear h1 h2 h3
        rcases hz with ⟨q1, q2, q3⟩ | ⟨q1, q2, q3, q4⟩ | ⟨q1, q2, q3, q4, q5⟩ | ⟨q1, q2, q3, q4, q5, q6⟩ <;> (
          go_enter Tryd.func52, Tryd.ntmps52
          go_wp2
          go_ret
          exact ⟨by rw [HF.out]; rfl, rfl⟩)
theorem digI_cases (c : UInt8) : (Quo.dig c = none ∧ digI c = -1) ∨ (∃ d : Nat, d < 16 ∧ Quo.dig c = some d ∧ digI c = (d : Int)) := by
  cases h : Quo.dig c with
  | none => exact .inl ⟨rfl, digI_no h⟩
  | some d => exact .inr ⟨d, Quo.dig_lt h, rfl, digI_yes h⟩
set_option maxRecDepth 100000 in
set_option maxHeartbeats 4000000 in
theorem rFour_any (A : Option Addr) (n c : Nat) (l : List UInt8) (w : World) (hA : RB w A n l) (hn : n ≤ 1048576) :
    Calls Tryd.prog 38 #[.slice A n c] w fun e w' => e = .returned (.int .i64 (unitI l)) ∧ w' = w := by
  have hl := hA.len
  by_cases hlt : n < 6
  · have HF := hide (unitI_no (unit_short (l := l) (by omega)))
    have h6 : (n : Int) < 6 := by omega
    go_enter Tryd.func38, Tryd.ntmps38
    go_wp2_with fail
    go_ret
    exact ⟨by rw [HF.out]; rfl, rfl⟩
  · have h6 : ¬ (n : Int) < 6 := by omega
    have hk1 : (0 : Int) < (n : Int) := by omega
    have hk3 : (1 : Int) < (n : Int) := by omega
    have HU := hide (unit_at (l := l) (k := 0) (by omega))
    simp only [List.drop_zero, Nat.zero_add] at HU
    obtain ⟨b, o, rfl, hb0, hc0⟩ := hA.cell (k := 0) (by omega)
    obtain ⟨b', o', he, _, hc1⟩ := hA.cell (k := 1) (by omega)
    obtain ⟨rfl, rfl⟩ : b = b' ∧ o = o' := by simpa using he
    rw [Nat.add_zero] at hc0
    have HX0 := hide (show (l[0]).toNat = 92 ↔ l[0] = 92 from ⟨fun h => UInt8.toNat_inj.1 (by rw [h]; rfl), fun h => by rw [h]; rfl⟩)
    have HX1 := hide (show (l[1]).toNat = 117 ↔ l[1] = 117 from ⟨fun h => UInt8.toNat_inj.1 (by rw [h]; rfl), fun h => by rw [h]; rfl⟩)
    have HA := hide hA
    have HL := hide hl
    by_cases h92 : (l[0]).toNat = 92
    · have t92 : (((l[0]).toNat : Int) != 92) = false := by rw [h92]; rfl
      by_cases h117 : (l[1]).toNat = 117
      · have t117 : (((l[1]).toNat : Int) != 117) = false := by rw [h117]; rfl
        have HUU := hide (show Quo.unit l = Quo.hexs 0 ((l.drop 2).take 4) by rw [HU.out, if_pos ⟨HX0.out.1 h92, HX1.out.1 h117⟩])
        clear HU HX0 HX1
        generalize (l[0]).toNat = x0 at *
        generalize (l[1]).toNat = x1 at *
        clear h92 h117 he hA hl hlt
        go_enter Tryd.func38, Tryd.ntmps38
        go_wp2_with fail
        go_loop [3, 4] (fun nn i => ∃ j m : Nat, j ≤ 4 ∧ i = .int .i64 ((j : Int) + 2) ∧ nn = .int .i64 (m : Int) ∧ m < 65536 ∧ Hid (m < 16 ^ j) ∧ Hid (Quo.unit l = Quo.hexs m (((l.drop 2).take 4).drop j))) (fun _ i => 6 - (intOf i).toNat)
        case atStart => exact ⟨0, 0, by omega, rfl, rfl, by omega, hide (show 0 < 16 ^ 0 from Nat.one_pos), hide (by rw [List.drop_zero]; exact HUU.out)⟩
        case round =>
          obtain ⟨j, m, hj, rfl, rfl, hm, hm16, hh⟩ := hrel
          by_cases hj4 : j < 4
          · have hjl : j + 2 < l.length := by rw [HL.out]; omega
            obtain ⟨b4, o4, he4, hb4, hc4⟩ := HA.out.cell hjl
            obtain ⟨rfl, rfl⟩ : b = b4 ∧ o = o4 := by simpa using he4
            have hj0 : (0 : Int) ≤ (j : Int) + 2 := by omega
            have hj1 : (j : Int) + 2 < 6 := by omega
            have hj2 : (j : Int) + 2 < (n : Int) := by omega
            have HD : Hid (((l.drop 2).take 4).drop j = l[j + 2] :: ((l.drop 2).take 4).drop (j + 1)) := hide (by
              have h1 : j < ((l.drop 2).take 4).length := by rw [List.length_take, List.length_drop, HL.out]; omega
              rw [List.drop_eq_getElem_cons h1, List.getElem_take, List.getElem_drop]
              congr 2; omega)
            obtain ⟨x, hx⟩ : ∃ x, x = l[j + 2] := ⟨_, rfl⟩
            rw [← hx] at hc4 HD
            clear hx
            have HPW := hide (show ∀ d, d < 16 → m * 16 + d < 16 ^ (j + 1) from fun d hd => pow_step hm16.out hd)
            have HM := hide (pow_small hm16.out hj4)
            have hm4 : (m : Int) < 4096 := by have := HM.out; omega
            have hm0 : (0 : Int) ≤ (m : Int) := by omega
            rcases digI_cases x with ⟨hd, hx⟩ | ⟨d, hd16, hd, hx⟩
            · have HN := hide (unitI_no (show Quo.unit l = none by rw [hh.out, HD.out, hexs_none hd]))
              have HXX := hide hx
              clear hd hx hm hm16
              go_wp2_with fail
              refine Calls.mono (rDigit_any x _) ?_
              rintro e w2 ⟨rfl, rfl⟩
              rw [HXX.out]
              go_wp2_with fail
              go_ret
              exact ⟨by rw [HN.out]; rfl, rfl⟩
            · have HS := hide (show Quo.unit l = Quo.hexs (m * 16 + d) (((l.drop 2).take 4).drop (j + 1)) by rw [hh.out, HD.out, hexs_some hd])
              have HXX := hide hx
              have HQ := hide (And.intro hd16 (show m * 16 + d < 65536 by have := HM.out; omega))
              have hdI : (d : Int) < 16 := by omega
              have hd0 : ¬ (d : Int) < 0 := by omega
              have HEQ := hide (show (m : Int) * 16 + (d : Int) = ((m * 16 + d : Nat) : Int) by omega)
              clear hd hx hm hm16 hd16
              go_wp2_with fail
              refine Calls.mono (rDigit_any x _) ?_
              rintro e w2 ⟨rfl, rfl⟩
              rw [HXX.out]
              go_wp2_with fail
              refine Calls.mono (rDigit_any x _) ?_
              rintro e w2 ⟨rfl, rfl⟩
              rw [HXX.out]
              go_wp2_with fail
              go_round
              case rel => exact ⟨j + 1, m * 16 + d, hj4, by first | rfl | exact congrArg (Value.int .i64) (by omega), congrArg (Value.int .i64) HEQ.out, HQ.out.2, hide (HPW.out d HQ.out.1), HS⟩
              case measure => simp [intOf]; omega
          · obtain rfl : j = 4 := by omega
            have HS := hide (show Quo.unit l = some m by rw [hh.out, List.drop_of_length_le (by rw [List.length_take]; omega)]; rfl)
            go_wp2_with fail
            go_ret
            exact ⟨by rw [unitI_yes HS.out]; rfl, rfl⟩
      · have t117 : (((l[1]).toNat : Int) != 117) = true := by rw [bne_iff_ne]; omega
        have HUU := hide (unitI_no (show Quo.unit l = none by rw [HU.out, if_neg (fun h => h117 (HX1.out.2 h.2))]))
        generalize (l[0]).toNat = x0 at *
        generalize (l[1]).toNat = x1 at *
        clear h92 h117 he HX0 HX1 HU hA hl hlt
        go_enter Tryd.func38, Tryd.ntmps38
        go_wp2_with fail
        go_ret
        exact ⟨by rw [HUU.out]; rfl, rfl⟩
    · have t92 : (((l[0]).toNat : Int) != 92) = true := by rw [bne_iff_ne]; omega
      have HUU := hide (unitI_no (show Quo.unit l = none by rw [HU.out, if_neg (fun h => h92 (HX0.out.2 h.1))]))
      generalize (l[0]).toNat = x0 at *
      generalize (l[1]).toNat = x1 at *
      clear h92 he HX0 HX1 HU hA hl hlt
      go_enter Tryd.func38, Tryd.ntmps38
      go_wp2_with fail
      go_ret
      exact ⟨by rw [HUU.out]; rfl, rfl⟩
theorem rWrong_any (A : Option Addr) (n c k : Nat) (l : List UInt8) (w : World) (hA : RB w A n l) (hk : k ≤ n) :
    Calls Tryd.prog 20 #[.slice A n c, .int .i64 (k : Int)] w fun e w' => e = .returned (.int .i64 (wrongE (l.drop k))) ∧ w' = w := by
  have hl := hA.len
  by_cases h : k = n
  · have HF := hide (show wrongE (l.drop k) = 6 by rw [List.drop_eq_nil_of_le (by omega)]; rfl)
    have ht : ((k : Int) == (n : Int)) = true := by rw [h]; simp
    clear h
    go_enter Tryd.func20, Tryd.ntmps20
    go_wp2_with fail
    go_ret
    exact ⟨by rw [HF.out]; rfl, rfl⟩
  · have ht : ((k : Int) == (n : Int)) = false := by rw [beq_eq_false_iff_ne]; omega
    have hkl : k < l.length := by omega
    have hk0 : (0 : Int) ≤ (k : Int) := by omega
    have hk1 : (k : Int) < (n : Int) := by omega
    obtain ⟨b, o, rfl, hb0, hc0⟩ := hA.cell hkl
    have HD := hide (List.drop_eq_getElem_cons hkl)
    obtain ⟨x, hx⟩ : ∃ x, x = l[k] := ⟨_, rfl⟩
    rw [← hx] at hc0 HD
    clear hx h hA
    by_cases h2 : 128 ≤ x.toNat
    · have HF := hide (show wrongE (l.drop k) = 110 by rw [HD.out]; exact wrong_high _ h2)
      have q : (128 : Int) ≤ (x.toNat : Int) := by omega
      go_enter Tryd.func20, Tryd.ntmps20
      go_wp2_with fail
      go_ret
      exact ⟨by rw [HF.out]; rfl, rfl⟩
    · have HF := hide (show wrongE (l.drop k) = 7 by rw [HD.out]; exact wrong_low _ (by omega))
      have q : ¬ (128 : Int) ≤ (x.toNat : Int) := by omega
      go_enter Tryd.func20, Tryd.ntmps20
      go_wp2_with fail
      go_ret
      exact ⟨by rw [HF.out]; rfl, rfl⟩
end Go.Proofs.YtbnibiealnogdaaDoor
