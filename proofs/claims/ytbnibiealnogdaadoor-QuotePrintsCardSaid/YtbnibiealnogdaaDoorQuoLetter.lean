/- The walk of the reference's Letter (written by gen_letter.py). -/
import Derived.Test.YtbnibiealnogdaaDoorQuoEsc
namespace Go.Proofs.YtbnibiealnogdaaDoor
open Go.RowKit

/-- what Letter answers -/
def letZ (c : UInt8) : Int := match Quo.letter c with
  | none => -1
  | some s => (s : Int)
theorem letZ_no {c : UInt8} (h : Quo.letter c = none) : letZ c = -1 := by unfold letZ; rw [h]
theorem letZ_yes {c : UInt8} {s : Nat} (h : Quo.letter c = some s) : letZ c = (s : Int) := by unfold letZ; rw [h]
set_option maxRecDepth 100000 in
set_option maxHeartbeats 8000000 in
theorem rLetter_any (c : UInt8) (w : World) : Calls Tryd.prog 34 #[.int .u8 (c.toNat : Int)] w fun e w' => e = .returned (.int .i64 (letZ c)) ∧ Below w.heap.size w w' := by
  have hx := c.toNat_lt
  go_enter Tryd.func34, Tryd.ntmps34
  go_wp2_with fail
  go_loop [5] (fun i => ∃ j : Nat, j ≤ 8 ∧ i = .int .i64 (j : Int) ∧ Hid (NoLet c.toNat j)) (fun i => 8 - (intOf i).toNat)
  case atStart => exact ⟨0, by omega, rfl, hide (fun m hm => absurd hm (by omega))⟩
  case round =>
    obtain ⟨j, hj, rfl, hs⟩ := hrel
    by_cases h0 : j = 0
    · subst h0
      by_cases hh : c.toNat = 34
      · have ht : ((((ByteArray.mk #[34, 92, 47, 98, 102, 110, 114, 116])[0]'(by decide)).toNat : Int) == (c.toNat : Int)) = true := by rw [hh]; rfl
        have HF := hide (letZ_yes (c := c) (s := 34) (by rw [byte_is hh 34 rfl]; first | done | rfl))
        clear hh
        go_wp2_with fail
        go_ret
        exact ⟨by rw [HF.out]; rfl, below_alloc _ _⟩
      · have ht : ((((ByteArray.mk #[34, 92, 47, 98, 102, 110, 114, 116])[0]'(by decide)).toNat : Int) == (c.toNat : Int)) = false := by rw [beq_eq_false_iff_ne]; show (34 : Int) ≠ _; omega
        have HS := hide (hs.out.step (j := 0) hh)
        clear hh
        go_wp2_with fail
        exact ⟨⟨1, by omega, rfl, HS⟩, by simp [intOf]⟩
    · skip
      by_cases h1 : j = 1
      · subst h1
        by_cases hh : c.toNat = 92
        · have ht : ((((ByteArray.mk #[34, 92, 47, 98, 102, 110, 114, 116])[1]'(by decide)).toNat : Int) == (c.toNat : Int)) = true := by rw [hh]; rfl
          have HF := hide (letZ_yes (c := c) (s := 92) (by rw [byte_is hh 92 rfl]; first | done | rfl))
          clear hh
          go_wp2_with fail
          go_ret
          exact ⟨by rw [HF.out]; rfl, below_alloc _ _⟩
        · have ht : ((((ByteArray.mk #[34, 92, 47, 98, 102, 110, 114, 116])[1]'(by decide)).toNat : Int) == (c.toNat : Int)) = false := by rw [beq_eq_false_iff_ne]; show (92 : Int) ≠ _; omega
          have HS := hide (hs.out.step (j := 1) hh)
          clear hh
          go_wp2_with fail
          exact ⟨⟨2, by omega, rfl, HS⟩, by simp [intOf]⟩
      · skip
        by_cases h2 : j = 2
        · subst h2
          by_cases hh : c.toNat = 47
          · have ht : ((((ByteArray.mk #[34, 92, 47, 98, 102, 110, 114, 116])[2]'(by decide)).toNat : Int) == (c.toNat : Int)) = true := by rw [hh]; rfl
            have HF := hide (letZ_yes (c := c) (s := 47) (by rw [byte_is hh 47 rfl]; first | done | rfl))
            clear hh
            go_wp2_with fail
            go_ret
            exact ⟨by rw [HF.out]; rfl, below_alloc _ _⟩
          · have ht : ((((ByteArray.mk #[34, 92, 47, 98, 102, 110, 114, 116])[2]'(by decide)).toNat : Int) == (c.toNat : Int)) = false := by rw [beq_eq_false_iff_ne]; show (47 : Int) ≠ _; omega
            have HS := hide (hs.out.step (j := 2) hh)
            clear hh
            go_wp2_with fail
            exact ⟨⟨3, by omega, rfl, HS⟩, by simp [intOf]⟩
        · skip
          by_cases h3 : j = 3
          · subst h3
            by_cases hh : c.toNat = 98
            · have ht : ((((ByteArray.mk #[34, 92, 47, 98, 102, 110, 114, 116])[3]'(by decide)).toNat : Int) == (c.toNat : Int)) = true := by rw [hh]; rfl
              have HF := hide (letZ_yes (c := c) (s := 8) (by rw [byte_is hh 98 rfl]; first | done | rfl))
              clear hh
              go_wp2_with fail
              go_ret
              exact ⟨by rw [HF.out]; rfl, below_alloc _ _⟩
            · have ht : ((((ByteArray.mk #[34, 92, 47, 98, 102, 110, 114, 116])[3]'(by decide)).toNat : Int) == (c.toNat : Int)) = false := by rw [beq_eq_false_iff_ne]; show (98 : Int) ≠ _; omega
              have HS := hide (hs.out.step (j := 3) hh)
              clear hh
              go_wp2_with fail
              exact ⟨⟨4, by omega, rfl, HS⟩, by simp [intOf]⟩
          · skip
            by_cases h4 : j = 4
            · subst h4
              by_cases hh : c.toNat = 102
              · have ht : ((((ByteArray.mk #[34, 92, 47, 98, 102, 110, 114, 116])[4]'(by decide)).toNat : Int) == (c.toNat : Int)) = true := by rw [hh]; rfl
                have HF := hide (letZ_yes (c := c) (s := 12) (by rw [byte_is hh 102 rfl]; first | done | rfl))
                clear hh
                go_wp2_with fail
                go_ret
                exact ⟨by rw [HF.out]; rfl, below_alloc _ _⟩
              · have ht : ((((ByteArray.mk #[34, 92, 47, 98, 102, 110, 114, 116])[4]'(by decide)).toNat : Int) == (c.toNat : Int)) = false := by rw [beq_eq_false_iff_ne]; show (102 : Int) ≠ _; omega
                have HS := hide (hs.out.step (j := 4) hh)
                clear hh
                go_wp2_with fail
                exact ⟨⟨5, by omega, rfl, HS⟩, by simp [intOf]⟩
            · skip
              by_cases h5 : j = 5
              · subst h5
                by_cases hh : c.toNat = 110
                · have ht : ((((ByteArray.mk #[34, 92, 47, 98, 102, 110, 114, 116])[5]'(by decide)).toNat : Int) == (c.toNat : Int)) = true := by rw [hh]; rfl
                  have HF := hide (letZ_yes (c := c) (s := 10) (by rw [byte_is hh 110 rfl]; first | done | rfl))
                  clear hh
                  go_wp2_with fail
                  go_ret
                  exact ⟨by rw [HF.out]; rfl, below_alloc _ _⟩
                · have ht : ((((ByteArray.mk #[34, 92, 47, 98, 102, 110, 114, 116])[5]'(by decide)).toNat : Int) == (c.toNat : Int)) = false := by rw [beq_eq_false_iff_ne]; show (110 : Int) ≠ _; omega
                  have HS := hide (hs.out.step (j := 5) hh)
                  clear hh
                  go_wp2_with fail
                  exact ⟨⟨6, by omega, rfl, HS⟩, by simp [intOf]⟩
              · skip
                by_cases h6 : j = 6
                · subst h6
                  by_cases hh : c.toNat = 114
                  · have ht : ((((ByteArray.mk #[34, 92, 47, 98, 102, 110, 114, 116])[6]'(by decide)).toNat : Int) == (c.toNat : Int)) = true := by rw [hh]; rfl
                    have HF := hide (letZ_yes (c := c) (s := 13) (by rw [byte_is hh 114 rfl]; first | done | rfl))
                    clear hh
                    go_wp2_with fail
                    go_ret
                    exact ⟨by rw [HF.out]; rfl, below_alloc _ _⟩
                  · have ht : ((((ByteArray.mk #[34, 92, 47, 98, 102, 110, 114, 116])[6]'(by decide)).toNat : Int) == (c.toNat : Int)) = false := by rw [beq_eq_false_iff_ne]; show (114 : Int) ≠ _; omega
                    have HS := hide (hs.out.step (j := 6) hh)
                    clear hh
                    go_wp2_with fail
                    exact ⟨⟨7, by omega, rfl, HS⟩, by simp [intOf]⟩
                · skip
                  by_cases h7 : j = 7
                  · subst h7
                    by_cases hh : c.toNat = 116
                    · have ht : ((((ByteArray.mk #[34, 92, 47, 98, 102, 110, 114, 116])[7]'(by decide)).toNat : Int) == (c.toNat : Int)) = true := by rw [hh]; rfl
                      have HF := hide (letZ_yes (c := c) (s := 9) (by rw [byte_is hh 116 rfl]; first | done | rfl))
                      clear hh
                      go_wp2_with fail
                      go_ret
                      exact ⟨by rw [HF.out]; rfl, below_alloc _ _⟩
                    · have ht : ((((ByteArray.mk #[34, 92, 47, 98, 102, 110, 114, 116])[7]'(by decide)).toNat : Int) == (c.toNat : Int)) = false := by rw [beq_eq_false_iff_ne]; show (116 : Int) ≠ _; omega
                      have HS := hide (hs.out.step (j := 7) hh)
                      clear hh
                      go_wp2_with fail
                      exact ⟨⟨8, by omega, rfl, HS⟩, by simp [intOf]⟩
                  · skip
                    obtain rfl : j = 8 := by omega
                    have HF := hide (letZ_no (NoLet.all hs.out))
                    go_wp2_with fail
                    go_ret
                    exact ⟨by rw [HF.out]; rfl, below_alloc _ _⟩
end Go.Proofs.YtbnibiealnogdaaDoor
