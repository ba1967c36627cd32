/- The walks of quote's unit and letters. -/
import Derived.Test.YtbnibiealnogdaaDoorUtfNextAt
import Derived.Test.YtbnibiealnogdaaDoorQuoMath
namespace Go.Proofs.YtbnibiealnogdaaDoor
open Go.RowKit

def unitI (l : List UInt8) : Int := match Quo.unit l with
  | none => -1
  | some n => (n : Int)
theorem unitI_no {l : List UInt8} (h : Quo.unit l = none) : unitI l = -1 := by unfold unitI; rw [h]
theorem unitI_yes {l : List UInt8} {n : Nat} (h : Quo.unit l = some n) : unitI l = (n : Int) := by unfold unitI; rw [h]
theorem unit_short {l : List UInt8} (h : l.length < 6) : Quo.unit l = none := by
  cases hu : Quo.unit l with
  | none => rfl
  | some n =>
    obtain ⟨_, _, _, _, t, rfl, _⟩ := Quo.unit_shape hu
    simp at h
    omega
theorem drop_two {l : List UInt8} {k : Nat} (h : k + 1 < l.length) : l.drop k = l[k] :: l[k + 1] :: l.drop (k + 2) := by
  rw [List.drop_eq_getElem_cons (by omega), List.drop_eq_getElem_cons h]
theorem unit_at {l : List UInt8} {k : Nat} (h : k + 6 ≤ l.length) : Quo.unit (l.drop k) = if l[k] = 92 ∧ l[k + 1] = 117 then Quo.hexs 0 ((l.drop (k + 2)).take 4) else none := by
  have e1 := drop_two (l := l) (k := k) (by omega)
  have e2 := drop_two (l := l) (k := k + 2) (by omega)
  have e3 := drop_two (l := l) (k := k + 4) (by omega)
  rw [e3] at e2
  rw [e2] at e1 ⊢
  rw [e1]
  rfl
theorem hexs_none {m : Nat} {c : UInt8} {l : List UInt8} (h : Quo.dig c = none) : Quo.hexs m (c :: l) = none := by unfold Quo.hexs; rw [h]
theorem hexs_some {m d : Nat} {c : UInt8} {l : List UInt8} (h : Quo.dig c = some d) : Quo.hexs m (c :: l) = Quo.hexs (m * 16 + d) l := by
  conv => lhs; unfold Quo.hexs
  rw [h]
theorem dig_num {c : UInt8} (h : 48 ≤ c.toNat ∧ c.toNat ≤ 57) : Quo.dig c = some (c.toNat - 48) := by unfold Quo.dig; rw [if_pos h]
theorem dig_small {c : UInt8} (h : 97 ≤ c.toNat ∧ c.toNat ≤ 102) : Quo.dig c = some (c.toNat - 97 + 10) := by unfold Quo.dig; rw [if_neg (by omega), if_pos h]
theorem dig_great {c : UInt8} (h : 65 ≤ c.toNat ∧ c.toNat ≤ 70) : Quo.dig c = some (c.toNat - 65 + 10) := by unfold Quo.dig; rw [if_neg (by omega), if_neg (by omega), if_pos h]
theorem dig_no {c : UInt8} (h1 : ¬ (48 ≤ c.toNat ∧ c.toNat ≤ 57)) (h2 : ¬ (97 ≤ c.toNat ∧ c.toNat ≤ 102)) (h3 : ¬ (65 ≤ c.toNat ∧ c.toNat ≤ 70)) : Quo.dig c = none := by unfold Quo.dig; rw [if_neg h1, if_neg h2, if_neg h3]
theorem pow_small {m j : Nat} (h : m < 16 ^ j) (hj : j < 4) : m < 4096 := by
  have h2 : 16 ^ j ≤ 16 ^ 3 := Nat.pow_le_pow_right (by omega) (by omega)
  omega
theorem pow_step {m d j : Nat} (h : m < 16 ^ j) (hd : d < 16) : m * 16 + d < 16 ^ (j + 1) := by
  rw [Nat.pow_succ]; omega
theorem sub48 {x : Nat} (h1 : (48 : Int) ≤ (x : Int)) (h2 : (x : Int) ≤ 57) : ((x : Int) - 48) % 256 = (x : Int) - 48 := by omega
theorem sub97 {x : Nat} (h1 : (97 : Int) ≤ (x : Int)) (h2 : (x : Int) ≤ 102) : ((x : Int) - 97) % 256 = (x : Int) - 97 := by omega
theorem sub65 {x : Nat} (h1 : (65 : Int) ≤ (x : Int)) (h2 : (x : Int) ≤ 70) : ((x : Int) - 65) % 256 = (x : Int) - 65 := by omega
attribute [local go_sem] sub48 sub97 sub65
theorem digA {x m : Nat} (hm : m < 4096) (h : 48 ≤ x ∧ x ≤ 57) : ∃ d : Nat, d = x - 48 ∧ (m : Int) * 16 + ((x : Int) - 48) = ((m * 16 + d : Nat) : Int) ∧ d < 16 ∧ m * 16 + d < 65536 ∧ wrap64 ((x : Int) - 48) = (d : Int) ∧ wrap64 ((m : Int) * 16 + (d : Int)) = ((m * 16 + d : Nat) : Int) ∧ (48 : Int) ≤ (x : Int) ∧ (x : Int) ≤ 57 :=
  ⟨x - 48, rfl, by omega, by omega, by omega, by unfold wrap64; omega, by unfold wrap64; omega, by omega, by omega⟩
theorem digB {x m : Nat} (hm : m < 4096) (h : 97 ≤ x ∧ x ≤ 102) : ∃ d : Nat, d = x - 97 ∧ (m : Int) * 16 + ((x : Int) - 97) + 10 = ((m * 16 + (d + 10) : Nat) : Int) ∧ d + 10 < 16 ∧ m * 16 + (d + 10) < 65536 ∧ wrap64 ((x : Int) - 97) = (d : Int) ∧ wrap64 ((m : Int) * 16 + (d : Int)) = ((m * 16 + d : Nat) : Int) ∧ wrap64 (((m * 16 + d : Nat) : Int) + 10) = ((m * 16 + (d + 10) : Nat) : Int) ∧ (48 : Int) ≤ (x : Int) ∧ ¬ (x : Int) ≤ 57 ∧ (97 : Int) ≤ (x : Int) ∧ (x : Int) ≤ 102 :=
  ⟨x - 97, rfl, by omega, by omega, by omega, by unfold wrap64; omega, by unfold wrap64; omega, by unfold wrap64; omega, by omega, by omega, by omega, by omega⟩
theorem digC {x m : Nat} (hm : m < 4096) (h : 65 ≤ x ∧ x ≤ 70) : ∃ d : Nat, d = x - 65 ∧ (m : Int) * 16 + ((x : Int) - 65) + 10 = ((m * 16 + (d + 10) : Nat) : Int) ∧ d + 10 < 16 ∧ m * 16 + (d + 10) < 65536 ∧ wrap64 ((x : Int) - 65) = (d : Int) ∧ wrap64 ((m : Int) * 16 + (d : Int)) = ((m * 16 + d : Nat) : Int) ∧ wrap64 (((m * 16 + d : Nat) : Int) + 10) = ((m * 16 + (d + 10) : Nat) : Int) ∧ (48 : Int) ≤ (x : Int) ∧ ¬ (x : Int) ≤ 57 ∧ ¬ (97 : Int) ≤ (x : Int) ∧ (65 : Int) ≤ (x : Int) ∧ (x : Int) ≤ 70 :=
  ⟨x - 65, rfl, by omega, by omega, by omega, by unfold wrap64; omega, by unfold wrap64; omega, by unfold wrap64; omega, by omega, by omega, by omega, by omega, by omega⟩
theorem digZ {x : Nat} (h1 : ¬ (48 ≤ x ∧ x ≤ 57)) (h2 : ¬ (97 ≤ x ∧ x ≤ 102)) (h3 : ¬ (65 ≤ x ∧ x ≤ 70)) : (¬ (48 : Int) ≤ (x : Int) ∧ ¬ (97 : Int) ≤ (x : Int) ∧ ¬ (65 : Int) ≤ (x : Int)) ∨ ((48 : Int) ≤ (x : Int) ∧ ¬ (x : Int) ≤ 57 ∧ ¬ (97 : Int) ≤ (x : Int) ∧ ¬ (65 : Int) ≤ (x : Int)) ∨
    ((48 : Int) ≤ (x : Int) ∧ ¬ (x : Int) ≤ 57 ∧ ¬ (97 : Int) ≤ (x : Int) ∧ (65 : Int) ≤ (x : Int) ∧ ¬ (x : Int) ≤ 70) ∨ ((48 : Int) ≤ (x : Int) ∧ ¬ (x : Int) ≤ 57 ∧ (97 : Int) ≤ (x : Int) ∧ ¬ (x : Int) ≤ 102 ∧ (65 : Int) ≤ (x : Int) ∧ ¬ (x : Int) ≤ 70) := by omega
theorem meas4 {j : Nat} (h : j < 4) : 4 - (intOf (.int .i64 ((j : Int) + 1))).toNat < 4 - (intOf (.int .i64 (j : Int))).toNat := by simp [intOf]; omega
set_option maxHeartbeats 8000000 in
theorem unit_any (A : Option Addr) (n c k : Nat) (l : List UInt8) (w : World) (hA : RB w A n l) (hc : n ≤ c) (hn : n ≤ 1048576) (hk : k ≤ n) :
    Calls Tryd.prog 61 #[.agg #[.slice A n c], .int .i64 (k : Int)] w fun e w' => e = .returned (.int .i64 (unitI (l.drop k))) ∧ Below w.heap.size w w' := by
  have hl := hA.len
  have hw1 : wrap64 ((n : Int) - (k : Int)) = (n : Int) - (k : Int) := by unfold wrap64; omega
  by_cases hlt : n - k < 6
  · have HF := hide (unitI_no (unit_short (l := l.drop k) (by rw [List.length_drop]; omega)))
    have h6 : (n : Int) - (k : Int) < 6 := by omega
    clear hlt
    go_enter Tryd.func61, Tryd.ntmps61
    go_wp2_with fail
    go_ret
    exact ⟨by rw [HF.out]; rfl, below_alloc _ _⟩
  · have h6 : ¬ (n : Int) - (k : Int) < 6 := by omega
    have hk0 : (0 : Int) ≤ (k : Int) := by omega
    have hk1 : (k : Int) < (n : Int) := by omega
    have hw2 : wrap64 ((k : Int) + 1) = (k : Int) + 1 := by unfold wrap64; omega
    have hw3 : wrap64 ((k : Int) + 2) = (k : Int) + 2 := by unfold wrap64; omega
    have hw4 : wrap64 ((k : Int) + 6) = (k : Int) + 6 := by unfold wrap64; omega
    have hk2 : (0 : Int) ≤ (k : Int) + 1 := by omega
    have hk3 : (k : Int) + 1 < (n : Int) := by omega
    have HU := hide (unit_at (l := l) (k := k) (by omega))
    obtain ⟨b, o, rfl, hb0, hc0⟩ := hA.cell (k := k) (by omega)
    obtain ⟨b', o', he, _, hc1⟩ := hA.cell (k := k + 1) (by omega)
    obtain ⟨rfl, rfl⟩ : b = b' ∧ o = o' := by simpa using he
    have hx0 := (l[k]).toNat_lt
    have hx1 := (l[k + 1]).toNat_lt
    have HX0 := hide (show (l[k]).toNat = 92 → l[k] = 92 from fun h => UInt8.toNat_inj.1 (by rw [h]; rfl))
    have HX1 := hide (show (l[k + 1]).toNat = 117 → l[k + 1] = 117 from fun h => UInt8.toNat_inj.1 (by rw [h]; rfl))
    have HA := hide hA
    have HLL := hide hl
    by_cases h92 : (l[k]).toNat = 92
    · have t92 : (((l[k]).toNat : Int) != 92) = false := by rw [h92]; rfl
      have e92 := hide (HX0.out h92)
      by_cases h117 : (l[k + 1]).toNat = 117
      · have t117 : (((l[k + 1]).toNat : Int) != 117) = false := by rw [h117]; rfl
        have e117 := hide (HX1.out h117)
        obtain ⟨A4, hcut, hr4⟩ := cut_any (lo := k + 2) (hi := k + 6) hA (by omega) (by omega) hc
        have hcut' : ∀ W : World, (Instr.sliceAt 29 (.slice (some ⟨b, o, none⟩) n c) (some (.int .i64 ((k : Int) + 2))) (some (.int .i64 ((k : Int) + 6))) none).run Tryd.prog W = .ok (.slice A4 4 (c - (k + 2))) W := fun W => by
          have h1 := hcut W
          rw [show k + 6 - (k + 2) = 4 by omega, show ((k + 2 : Nat) : Int) = (k : Int) + 2 from rfl, show ((k + 6 : Nat) : Int) = (k : Int) + 6 from rfl] at h1
          exact h1
        rw [show k + 6 - (k + 2) = 4 by omega] at hr4
        have HR := hide hr4
        have HUU := hide (show Quo.unit (l.drop k) = Quo.hexs 0 ((l.drop (k + 2)).take 4) by rw [HU.out, if_pos ⟨e92.out, e117.out⟩])
        have HC4 := hide (show ((l.drop (k + 2)).take 4).length = 4 by rw [List.length_take, List.length_drop]; omega)
        generalize (l.drop (k + 2)).take 4 = cs at *
        generalize (l[k]).toNat = x0 at *
        generalize (l[k + 1]).toNat = x1 at *
        clear h92 h117 he hcut hr4 HX0 HX1 HU e92 e117 hA hl hlt
        go_enter Tryd.func61, Tryd.ntmps61
        go_wp2_with fail
        have HR1 := hide (HR.out.on (below_alloc w (.cells #[.slice (some ⟨b, o, none⟩) n c] 71)))
        go_loop [5, 39] (fun nn i => ∃ j m : Nat, j ≤ 4 ∧ i = .int .i64 (j : Int) ∧ nn = .int .i64 (m : Int) ∧ m < 65536 ∧ Hid (m < 16 ^ j) ∧ Hid (Quo.hexs 0 cs = Quo.hexs m (cs.drop j))) (fun _ i => 4 - (intOf i).toNat)
        case atStart => exact ⟨0, 0, by omega, rfl, rfl, by omega, hide (show 0 < 16 ^ 0 from Nat.one_pos), hide (by rw [List.drop_zero])⟩
        case round =>
          obtain ⟨j, m, hj, rfl, rfl, hm, hm16, hh⟩ := hrel
          by_cases hj4 : j < 4
          · have hjl : j < cs.length := by rw [HC4.out]; exact hj4
            obtain ⟨b4, o4, rfl, hb4, hc4⟩ := HR1.out.cell hjl
            have hj0 : (0 : Int) ≤ (j : Int) := by omega
            have hj1 : (j : Int) < 4 := by omega
            have hx := (cs[j]).toNat_lt
            have HM := hide (pow_small hm16.out hj4)
            have hm4 := HM.out
            have HP := hide (show ∀ d, d < 16 → m * 16 + d < 16 ^ (j + 1) from fun d hd => pow_step hm16.out hd)
            have HD : Hid (cs.drop j = cs[j] :: cs.drop (j + 1)) := hide (List.drop_eq_getElem_cons hjl)
            have HNUM := hide (show 48 ≤ (cs[j]).toNat ∧ (cs[j]).toNat ≤ 57 → Quo.hexs 0 cs = Quo.hexs (m * 16 + ((cs[j]).toNat - 48)) (cs.drop (j + 1)) from fun h => by rw [hh.out, HD.out, hexs_some (dig_num h)])
            have HSM := hide (show 97 ≤ (cs[j]).toNat ∧ (cs[j]).toNat ≤ 102 → Quo.hexs 0 cs = Quo.hexs (m * 16 + ((cs[j]).toNat - 97 + 10)) (cs.drop (j + 1)) from fun h => by rw [hh.out, HD.out, hexs_some (dig_small h)])
            have HGR := hide (show 65 ≤ (cs[j]).toNat ∧ (cs[j]).toNat ≤ 70 → Quo.hexs 0 cs = Quo.hexs (m * 16 + ((cs[j]).toNat - 65 + 10)) (cs.drop (j + 1)) from fun h => by rw [hh.out, HD.out, hexs_some (dig_great h)])
            have HNO := hide (show ¬ (48 ≤ (cs[j]).toNat ∧ (cs[j]).toNat ≤ 57) → ¬ (97 ≤ (cs[j]).toNat ∧ (cs[j]).toNat ≤ 102) → ¬ (65 ≤ (cs[j]).toNat ∧ (cs[j]).toNat ≤ 70) → Quo.hexs 0 cs = none from fun h1 h2 h3 => by rw [hh.out, HD.out, hexs_none (dig_no h1 h2 h3)])
            generalize (cs[j]).toNat = x at *
            have hs : wrap64 ((m : Int) * 16) = (m : Int) * 16 := by unfold wrap64; omega
            clear HD hm16 hm
            by_cases h1 : 48 ≤ x ∧ x ≤ 57
            · have HS := hide (HNUM.out h1)
              obtain ⟨d, hd, hde, hd16, hd6, g0, g1, g2, g3⟩ := digA hm4 h1
              rw [← hd] at HS
              have HQ := hide (And.intro hde (And.intro hd16 hd6))
              clear HNUM HSM HGR HNO h1 hd hde hd16 hd6
              go_wp2_with fail
              go_round
              case rel => exact ⟨j + 1, m * 16 + d, hj4, by go_num, congrArg (Value.int .i64) HQ.out.1, HQ.out.2.2, hide (HP.out d HQ.out.2.1), HS⟩
              case measure => exact meas4 hj4
            · by_cases h2 : 97 ≤ x ∧ x ≤ 102
              · have HS := hide (HSM.out h2)
                obtain ⟨d, hd, hde, hd16, hd6, g0, g1, g2, g3, g4, g5, g6⟩ := digB hm4 h2
                rw [← hd] at HS
                have HQ := hide (And.intro hde (And.intro hd16 hd6))
                clear HNUM HSM HGR HNO h2 hd hde hd16 hd6
                go_wp2_with fail
                go_round
                case rel => exact ⟨j + 1, m * 16 + (d + 10), hj4, by go_num, congrArg (Value.int .i64) HQ.out.1, HQ.out.2.2, hide (HP.out (d + 10) HQ.out.2.1), HS⟩
                case measure => exact meas4 hj4
              · by_cases h3 : 65 ≤ x ∧ x ≤ 70
                · have HS := hide (HGR.out h3)
                  obtain ⟨d, hd, hde, hd16, hd6, g0, g1, g2, g3, g4, g5, g6, g7⟩ := digC hm4 h3
                  rw [← hd] at HS
                  have HQ := hide (And.intro hde (And.intro hd16 hd6))
                  clear HNUM HSM HGR HNO h3 hd hde hd16 hd6
                  go_wp2_with fail
                  go_round
                  case rel => exact ⟨j + 1, m * 16 + (d + 10), hj4, by go_num, congrArg (Value.int .i64) HQ.out.1, HQ.out.2.2, hide (HP.out (d + 10) HQ.out.2.1), HS⟩
                  case measure => exact meas4 hj4
                · have HN := hide (HNO.out h1 h2 h3)
                  have hz := digZ h1 h2 h3
                  clear HNUM HSM HGR HNO h1 h2 h3
                  rcases hz with ⟨q1, q2, q3⟩ | ⟨q1, q2, q3, q4⟩ | ⟨q1, q2, q3, q4, q5⟩ | ⟨q1, q2, q3, q4, q5, q6⟩ <;> (
                    go_wp2_with fail
                    go_ret
                    exact ⟨by rw [unitI_no (by rw [HUU.out, HN.out])]; rfl, below_alloc _ _⟩)
          · obtain rfl : j = 4 := by omega
            have HS := hide (show Quo.hexs 0 cs = some m by rw [hh.out, List.drop_of_length_le (by rw [HC4.out]; omega)]; rfl)
            go_wp2_with fail
            go_ret
            exact ⟨by rw [unitI_yes (by rw [HUU.out, HS.out])]; rfl, below_alloc _ _⟩
      · have t117 : (((l[k + 1]).toNat : Int) != 117) = true := by rw [bne_iff_ne]; omega
        have HUU := hide (show Quo.unit (l.drop k) = none by rw [HU.out, if_neg (fun h => h117 (by rw [h.2]; rfl))])
        generalize (l[k]).toNat = x0 at *
        generalize (l[k + 1]).toNat = x1 at *
        clear h92 h117 he HX0 HX1 HU e92 hA hl hlt
        go_enter Tryd.func61, Tryd.ntmps61
        go_wp2_with fail
        go_ret
        exact ⟨by rw [unitI_no HUU.out]; rfl, below_alloc _ _⟩
    · have t92 : (((l[k]).toNat : Int) != 92) = true := by rw [bne_iff_ne]; omega
      have HUU := hide (show Quo.unit (l.drop k) = none by rw [HU.out, if_neg (fun h => h92 (by rw [h.1]; rfl))])
      generalize (l[k]).toNat = x0 at *
      generalize (l[k + 1]).toNat = x1 at *
      clear h92 he HX0 HX1 HU hA hl hlt
      go_enter Tryd.func61, Tryd.ntmps61
      go_wp2_with fail
      go_ret
      exact ⟨by rw [unitI_no HUU.out]; rfl, below_alloc _ _⟩
/-- the letters, laid out -/
def lettersV : Value := .agg #[.int .u8 34, .int .u8 34, .int .u8 92, .int .u8 92, .int .u8 47, .int .u8 47, .int .u8 98, .int .u8 8, .int .u8 102, .int .u8 12, .int .u8 110, .int .u8 10, .int .u8 114, .int .u8 13, .int .u8 116, .int .u8 9]
theorem letters_any (w : World) : Calls Tryd.prog 31 #[] w fun e w' => e = .returned lettersV ∧ Below w.heap.size w w' := by
  go_enter Tryd.func31, Tryd.ntmps31
  go_wp2_with fail
  exact bodyPost_ret (v := lettersV) (by simp [results, Tryd.results31, go_sem, lettersV]) rfl ⟨rfl, below_alloc _ _⟩
end Go.Proofs.YtbnibiealnogdaaDoor
