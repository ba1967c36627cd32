/- The walk of quote's escape. -/
import Derived.Test.YtbnibiealnogdaaDoorQuoUnit
import Derived.Test.YtbnibiealnogdaaDoorUtfWalk
namespace Go.Proofs.YtbnibiealnogdaaDoor
open Go.RowKit

/-- what the sign at a place answers, where its first byte is none of utf's alone -/
def escV (k : Nat) (r : Nat × Nat) : Value := if r.2 = 0 then .tuple #[.int .i64 0, .int .i64 0, .int .i64 7] else .tuple #[.int .i64 (r.1 : Int), .int .i64 ((k : Int) + (r.2 : Int)), .int .i64 0]
theorem escV_no {k : Nat} {r : Nat × Nat} (h : r = (0, 0)) : escV k r = .tuple #[.int .i64 0, .int .i64 0, .int .i64 7] := by subst h; rfl
theorem escV_yes {k p n : Nat} {r : Nat × Nat} (h : r = (p, n)) (hn : n ≠ 0) : escV k r = .tuple #[.int .i64 (p : Int), .int .i64 ((k : Int) + (n : Int)), .int .i64 0] := by subst h; exact if_neg hn
theorem two_num {h v : Nat} {z y : Int} (hz : z = (h : Int)) (hy : y = (v : Int)) (h1 : 55296 ≤ h) (h2 : h < 56320) (h3 : 56320 ≤ v) (h4 : v ≤ 57343) :
    ∃ q : Nat, q = 65536 + (h - 55296) * 1024 + (v - 56320) ∧ 65536 + (z - 55296) * 1024 + y - 56320 = (q : Int) := ⟨_, rfl, by omega⟩
theorem lets_at0 (W : World) : (Instr.index 62 lettersV (.int .i64 0)).run Tryd.prog W = .ok (.agg #[.int .u8 34, .int .u8 34]) W := by kernel_rfl
theorem lets_at1 (W : World) : (Instr.index 62 lettersV (.int .i64 1)).run Tryd.prog W = .ok (.agg #[.int .u8 92, .int .u8 92]) W := by kernel_rfl
theorem lets_at2 (W : World) : (Instr.index 62 lettersV (.int .i64 2)).run Tryd.prog W = .ok (.agg #[.int .u8 47, .int .u8 47]) W := by kernel_rfl
theorem lets_at3 (W : World) : (Instr.index 62 lettersV (.int .i64 3)).run Tryd.prog W = .ok (.agg #[.int .u8 98, .int .u8 8]) W := by kernel_rfl
theorem lets_at4 (W : World) : (Instr.index 62 lettersV (.int .i64 4)).run Tryd.prog W = .ok (.agg #[.int .u8 102, .int .u8 12]) W := by kernel_rfl
theorem lets_at5 (W : World) : (Instr.index 62 lettersV (.int .i64 5)).run Tryd.prog W = .ok (.agg #[.int .u8 110, .int .u8 10]) W := by kernel_rfl
theorem lets_at6 (W : World) : (Instr.index 62 lettersV (.int .i64 6)).run Tryd.prog W = .ok (.agg #[.int .u8 114, .int .u8 13]) W := by kernel_rfl
theorem lets_at7 (W : World) : (Instr.index 62 lettersV (.int .i64 7)).run Tryd.prog W = .ok (.agg #[.int .u8 116, .int .u8 9]) W := by kernel_rfl
theorem esc_none {l : List UInt8} {c d : UInt8} {t : List UInt8} (hu : Quo.unit l = none) (hl : l = c :: d :: t) (h : Quo.letter d = none) : Quo.esc l = (0, 0) := by
  subst hl
  unfold Quo.esc
  rw [hu]
  simp only
  rw [h]
theorem byte_is {d : UInt8} {n : Nat} (h : d.toNat = n) (m : UInt8) (hm : m.toNat = n) : d = m := UInt8.toNat_inj.1 (by rw [h, hm])
/-- no letter up to the j-th -/
def NoLet (d : Nat) (j : Nat) : Prop := ∀ m, m < j → d ≠ [34, 92, 47, 98, 102, 110, 114, 116].getD m 0
theorem NoLet.step {d j : Nat} (h : NoLet d j) (hj : d ≠ [34, 92, 47, 98, 102, 110, 114, 116].getD j 0) : NoLet d (j + 1) := fun m hm => by
  by_cases he : m = j
  · rw [he]; exact hj
  · exact h m (by omega)
theorem NoLet.all {d : UInt8} (h : NoLet d.toNat 8) : Quo.letter d = none := by
  unfold Quo.letter
  rw [if_neg (fun e => h 0 (by omega) (by rw [e]; rfl)), if_neg (fun e => h 1 (by omega) (by rw [e]; rfl)), if_neg (fun e => h 2 (by omega) (by rw [e]; rfl)), if_neg (fun e => h 3 (by omega) (by rw [e]; rfl)),
    if_neg (fun e => h 4 (by omega) (by rw [e]; rfl)), if_neg (fun e => h 5 (by omega) (by rw [e]; rfl)), if_neg (fun e => h 6 (by omega) (by rw [e]; rfl)), if_neg (fun e => h 7 (by omega) (by rw [e]; rfl))]
set_option maxHeartbeats 8000000 in
theorem escape_any (A : Option Addr) (n c k : Nat) (l : List UInt8) (w : World) (hA : RB w A n l) (hc : n ≤ c) (hn : n ≤ 1048576) (hk : k < n) :
    Calls Tryd.prog 50 #[.agg #[.slice A n c], .int .i64 (k : Int)] w fun e w' => e = .returned (escV k (Quo.esc (l.drop k))) ∧ Below w.heap.size w w' := by
  have HA := hide (hA.on (below_alloc w (.cells #[.slice A n c] 71)))
  have HL := hide hA.len
  have HB0 := hide (below_alloc w (.cells #[.slice A n c] 71))
  have hnew := new_cells w (.cells #[.slice A n c] 71)
  have HNEW := hide hnew
  clear hA
  go_enter Tryd.func50, Tryd.ntmps50
  go_wp2_with fail
  refine Calls.mono (unit_any A n c k l _ HA.out hc hn (by omega)) ?_
  rintro e w1 ⟨rfl, hb1⟩
  have hrow := on_cells HNEW.out hb1
  have hcell := one_cell hrow
  have HB1 := hide (below_then HB0.out hb1)
  have HA1 := hide (HA.out.on hb1)
  have HROW := hide hrow
  clear hb1 HB0 HA hnew HNEW
  cases hu : Quo.unit (l.drop k) with
  | some h =>
    rw [unitI_yes hu]
    have HU := hide hu
    obtain ⟨_, _, _, _, t, ht, _, hlt⟩ := Quo.unit_shape hu
    have hk6 : k + 6 ≤ n := by
      have h1 := congrArg List.length ht
      rw [List.length_drop, HL.out] at h1
      simp at h1; omega
    obtain ⟨z, hz⟩ : ∃ z : Int, z = (h : Int) := ⟨_, rfl⟩
    rw [← hz]
    have h0 : ¬ z < 0 := by omega
    have HZE := hide hz
    clear hu ht
    by_cases hcp : Utf.isCp (h : Int) = true
    · have hs : (0 : Int) < (Utf.sz z : Int) := by have := Utf.sz_pos.2 hcp; rw [hz]; omega
      have HF := hide (escV_yes (k := k) (Quo.esc_unit HU.out hcp) (by omega))
      have hw6 : wrap64 ((k : Int) + 6) = (k : Int) + 6 := by unfold wrap64; omega
      clear hcp hz hlt
      go_wp2_with fail
      refine Calls.mono (Size_any z _) ?_
      rintro e w2 ⟨rfl, rfl⟩
      go_wp2_with fail
      go_ret3
      exact ⟨by rw [HF.out, ← HZE.out]; rfl, HB1.out⟩
    · have hs0 : Utf.sz (h : Int) = 0 := by
        rcases Nat.eq_zero_or_pos (Utf.sz (h : Int)) with h1 | h1
        · exact h1
        · exact absurd (Utf.sz_pos.1 h1) hcp
      have HCP := hide hcp
      have HZ := hide hs0
      clear hcp hs0
      by_cases hd : h < 56320
      · have hd1 : z < 56320 := by omega
        have HGE := hide (And.intro (Quo.half HCP.out hd) hd)
        clear hd hlt hz
        have hw6 : wrap64 ((k : Int) + 6) = (k : Int) + 6 := by unfold wrap64; omega
        have HDR := hide (show (l.drop k).drop 6 = l.drop (k + 6) by rw [List.drop_drop])
        go_wp2_with fail
        have hS := Size_any z w1
        rw [HZE.out, HZ.out, ← HZE.out] at hS
        refine Calls.mono hS ?_
        rintro e w2 ⟨rfl, rfl⟩
        clear hS
        go_wp2_with fail
        have hu2 := unit_any A n c (k + 6) l w2 HA1.out hc hn (by omega)
        rw [show ((k + 6 : Nat) : Int) = (k : Int) + 6 from rfl] at hu2
        refine Calls.mono hu2 ?_
        rintro e w3 ⟨rfl, hb3⟩
        have HB3 := hide (below_then HB1.out hb3)
        clear hb3 hu2
        cases hv : Quo.unit (l.drop (k + 6)) with
        | some v =>
          rw [unitI_yes hv]
          obtain ⟨y, hy⟩ : ∃ y : Int, y = (v : Int) := ⟨_, rfl⟩
          rw [← hy]
          have HYE := hide hy
          by_cases hr : 56320 ≤ v ∧ v ≤ 57343
          · have h3 : 56320 ≤ y := by omega
            have h4 : y ≤ 57343 := by omega
            have HF := hide (escV_yes (k := k) (Quo.esc_two HU.out HCP.out HGE.out.2 (by rw [HDR.out]; exact hv) hr) (by omega))
            obtain ⟨q, hq, e7⟩ := two_num HZE.out hy HGE.out.1 HGE.out.2 hr.1 hr.2
            rw [← hq] at HF
            have HE7 := hide e7
            clear hv hr hy e7 hq
            go_wp2_with fail
            go_ret3
            exact ⟨by rw [HF.out, ← HE7.out]; rfl, HB3.out⟩
          · have HF := hide (escV_no (k := k) (r := Quo.esc (l.drop k)) (by unfold Quo.esc; rw [HU.out]; simp only; rw [if_neg HCP.out, if_pos HGE.out.2]; unfold Quo.pair; rw [HDR.out, hv]; simp only; rw [if_neg hr]))
            by_cases h3 : 56320 ≤ v
            · have h3' : 56320 ≤ y := by omega
              have h4 : ¬ y ≤ 57343 := by omega
              clear hv hr h3 hy
              go_wp2_with fail
              go_ret3
              exact ⟨by rw [HF.out]; rfl, HB3.out⟩
            · have h3' : ¬ 56320 ≤ y := by omega
              clear hv hr h3 hy
              go_wp2_with fail
              go_ret3
              exact ⟨by rw [HF.out]; rfl, HB3.out⟩
        | none =>
          rw [unitI_no hv]
          have HF := hide (escV_no (k := k) (r := Quo.esc (l.drop k)) (by unfold Quo.esc; rw [HU.out]; simp only; rw [if_neg HCP.out, if_pos HGE.out.2]; unfold Quo.pair; rw [HDR.out, hv]))
          clear hv
          go_wp2_with fail
          go_ret3
          exact ⟨by rw [HF.out]; rfl, HB3.out⟩
      · have hd1 : ¬ z < 56320 := by omega
        have HD := hide (And.intro hd trivial)
        clear hd hlt hz
        have HF := hide (escV_no (k := k) (r := Quo.esc (l.drop k)) (by unfold Quo.esc; rw [HU.out]; simp only; rw [if_neg HCP.out, if_neg HD.out.1]))
        go_wp2_with fail
        have hS := Size_any z w1
        rw [HZE.out, HZ.out, ← HZE.out] at hS
        refine Calls.mono hS ?_
        rintro e w2 ⟨rfl, rfl⟩
        clear hS
        go_wp2_with fail
        go_ret3
        exact ⟨by rw [HF.out]; rfl, HB1.out⟩
  | none =>
    rw [unitI_no hu]
    have HU := hide hu
    have hw1 : wrap64 ((k : Int) + 1) = (k : Int) + 1 := by unfold wrap64; omega
    have hw2 : wrap64 ((k : Int) + 2) = (k : Int) + 2 := by unfold wrap64; omega
    clear hu
    by_cases hk1 : k + 1 < n
    · have hk2 : (k : Int) + 1 < (n : Int) := by omega
      have hk3 : (0 : Int) ≤ (k : Int) + 1 := by omega
      obtain ⟨b, o, rfl, hbl, hcx⟩ := HA1.out.cell (k := k + 1) (by rw [HL.out]; exact hk1)
      have HE := hide (drop_two (l := l) (k := k) (by rw [HL.out]; exact hk1))
      obtain ⟨d, hd⟩ : ∃ d, d = (l[k + 1]'(by rw [HL.out]; exact hk1)) := ⟨_, rfl⟩
      rw [← hd] at hcx HE
      clear hd
      go_wp2_with fail
      refine Calls.mono (letters_any _) ?_
      rintro e w2 ⟨rfl, hb2⟩
      have HB2 := hide (below_then HB1.out hb2)
      have HX := hide (keep_cell hb2 hcx)
      have HR2 := hide (on_cells HROW.out hb2)
      clear hb2 hcx hcell hrow
      go_wp2_with fail
      -- LETTERS
      clear hw1
      have hx := d.toNat_lt
      have HLT := hide (show w.heap.size < w2.heap.size from lt_cells HR2.out)
      have HBL := hide (show b < w2.heap.size from World.block_lt_of_cell? w2 _ HX.out)
      have hi0 := lets_at0
      have hi1 := lets_at1
      have hi2 := lets_at2
      have hi3 := lets_at3
      have hi4 := lets_at4
      have hi5 := lets_at5
      have hi6 := lets_at6
      have hi7 := lets_at7
      go_loopw [53] (fun i wr => ∃ j : Nat, j ≤ 8 ∧ i = .int .i64 (j : Int) ∧ Hid (NoLet d.toNat j) ∧ Hid (Below w2.heap.size w2 wr)) (fun i _ => 8 - (intOf i).toNat)
      case atStart => exact ⟨0, by omega, rfl, hide (fun m hm => absurd hm (by omega)), hide (Below.refl _ _)⟩
      case round =>
        obtain ⟨j, hj, rfl, hs, hb⟩ := hrel
        have hcb := keep_cell hb.out HX.out
        have hcr := one_cell (on_cells HR2.out hb.out)
        have hl1 := Nat.lt_of_lt_of_le HLT.out hb.out.size
        have hl2 := Nat.lt_of_lt_of_le HBL.out hb.out.size
        by_cases h0 : j = 0
        · subst h0
          by_cases hh : d.toNat = 34
          · have ht : ((34 : Int) == (d.toNat : Int)) = true := by rw [hh]; rfl
            have HF := hide (escV_yes (k := k) (p := 34) (n := 2) (r := Quo.esc (l.drop k)) (by rw [HE.out]; exact Quo.esc_letter _ (s := 34) (by rw [byte_is hh 34 rfl]; first | done | rfl)) (by omega))
            clear hh
            go_wp2_with fail
            go_quiet (fail)
            go_wp2_with fail
            go_ret3
            exact ⟨by rw [HF.out]; rfl, below_then HB2.out (below_then hb.out (below_then (below_alloc _ _) (below_drewN _ _)))⟩
          · have ht : ((34 : Int) == (d.toNat : Int)) = false := by rw [beq_eq_false_iff_ne]; omega
            have HS := hide (hs.out.step (j := 0) hh)
            clear hh
            go_wp2_with fail
            go_quiet (fail)
            go_wp2_with fail
            exact ⟨⟨1, by omega, rfl, HS, hide (below_then hb.out (below_then (below_alloc _ _) (below_drewN _ _)))⟩, by simp [intOf]⟩
        · skip
          by_cases h1 : j = 1
          · subst h1
            by_cases hh : d.toNat = 92
            · have ht : ((92 : Int) == (d.toNat : Int)) = true := by rw [hh]; rfl
              have HF := hide (escV_yes (k := k) (p := 92) (n := 2) (r := Quo.esc (l.drop k)) (by rw [HE.out]; exact Quo.esc_letter _ (s := 92) (by rw [byte_is hh 92 rfl]; first | done | rfl)) (by omega))
              clear hh
              go_wp2_with fail
              go_quiet (fail)
              go_wp2_with fail
              go_ret3
              exact ⟨by rw [HF.out]; rfl, below_then HB2.out (below_then hb.out (below_then (below_alloc _ _) (below_drewN _ _)))⟩
            · have ht : ((92 : Int) == (d.toNat : Int)) = false := by rw [beq_eq_false_iff_ne]; omega
              have HS := hide (hs.out.step (j := 1) hh)
              clear hh
              go_wp2_with fail
              go_quiet (fail)
              go_wp2_with fail
              exact ⟨⟨2, by omega, rfl, HS, hide (below_then hb.out (below_then (below_alloc _ _) (below_drewN _ _)))⟩, by simp [intOf]⟩
          · skip
            by_cases h2 : j = 2
            · subst h2
              by_cases hh : d.toNat = 47
              · have ht : ((47 : Int) == (d.toNat : Int)) = true := by rw [hh]; rfl
                have HF := hide (escV_yes (k := k) (p := 47) (n := 2) (r := Quo.esc (l.drop k)) (by rw [HE.out]; exact Quo.esc_letter _ (s := 47) (by rw [byte_is hh 47 rfl]; first | done | rfl)) (by omega))
                clear hh
                go_wp2_with fail
                go_quiet (fail)
                go_wp2_with fail
                go_ret3
                exact ⟨by rw [HF.out]; rfl, below_then HB2.out (below_then hb.out (below_then (below_alloc _ _) (below_drewN _ _)))⟩
              · have ht : ((47 : Int) == (d.toNat : Int)) = false := by rw [beq_eq_false_iff_ne]; omega
                have HS := hide (hs.out.step (j := 2) hh)
                clear hh
                go_wp2_with fail
                go_quiet (fail)
                go_wp2_with fail
                exact ⟨⟨3, by omega, rfl, HS, hide (below_then hb.out (below_then (below_alloc _ _) (below_drewN _ _)))⟩, by simp [intOf]⟩
            · skip
              by_cases h3 : j = 3
              · subst h3
                by_cases hh : d.toNat = 98
                · have ht : ((98 : Int) == (d.toNat : Int)) = true := by rw [hh]; rfl
                  have HF := hide (escV_yes (k := k) (p := 8) (n := 2) (r := Quo.esc (l.drop k)) (by rw [HE.out]; exact Quo.esc_letter _ (s := 8) (by rw [byte_is hh 98 rfl]; first | done | rfl)) (by omega))
                  clear hh
                  go_wp2_with fail
                  go_quiet (fail)
                  go_wp2_with fail
                  go_ret3
                  exact ⟨by rw [HF.out]; rfl, below_then HB2.out (below_then hb.out (below_then (below_alloc _ _) (below_drewN _ _)))⟩
                · have ht : ((98 : Int) == (d.toNat : Int)) = false := by rw [beq_eq_false_iff_ne]; omega
                  have HS := hide (hs.out.step (j := 3) hh)
                  clear hh
                  go_wp2_with fail
                  go_quiet (fail)
                  go_wp2_with fail
                  exact ⟨⟨4, by omega, rfl, HS, hide (below_then hb.out (below_then (below_alloc _ _) (below_drewN _ _)))⟩, by simp [intOf]⟩
              · skip
                by_cases h4 : j = 4
                · subst h4
                  by_cases hh : d.toNat = 102
                  · have ht : ((102 : Int) == (d.toNat : Int)) = true := by rw [hh]; rfl
                    have HF := hide (escV_yes (k := k) (p := 12) (n := 2) (r := Quo.esc (l.drop k)) (by rw [HE.out]; exact Quo.esc_letter _ (s := 12) (by rw [byte_is hh 102 rfl]; first | done | rfl)) (by omega))
                    clear hh
                    go_wp2_with fail
                    go_quiet (fail)
                    go_wp2_with fail
                    go_ret3
                    exact ⟨by rw [HF.out]; rfl, below_then HB2.out (below_then hb.out (below_then (below_alloc _ _) (below_drewN _ _)))⟩
                  · have ht : ((102 : Int) == (d.toNat : Int)) = false := by rw [beq_eq_false_iff_ne]; omega
                    have HS := hide (hs.out.step (j := 4) hh)
                    clear hh
                    go_wp2_with fail
                    go_quiet (fail)
                    go_wp2_with fail
                    exact ⟨⟨5, by omega, rfl, HS, hide (below_then hb.out (below_then (below_alloc _ _) (below_drewN _ _)))⟩, by simp [intOf]⟩
                · skip
                  by_cases h5 : j = 5
                  · subst h5
                    by_cases hh : d.toNat = 110
                    · have ht : ((110 : Int) == (d.toNat : Int)) = true := by rw [hh]; rfl
                      have HF := hide (escV_yes (k := k) (p := 10) (n := 2) (r := Quo.esc (l.drop k)) (by rw [HE.out]; exact Quo.esc_letter _ (s := 10) (by rw [byte_is hh 110 rfl]; first | done | rfl)) (by omega))
                      clear hh
                      go_wp2_with fail
                      go_quiet (fail)
                      go_wp2_with fail
                      go_ret3
                      exact ⟨by rw [HF.out]; rfl, below_then HB2.out (below_then hb.out (below_then (below_alloc _ _) (below_drewN _ _)))⟩
                    · have ht : ((110 : Int) == (d.toNat : Int)) = false := by rw [beq_eq_false_iff_ne]; omega
                      have HS := hide (hs.out.step (j := 5) hh)
                      clear hh
                      go_wp2_with fail
                      go_quiet (fail)
                      go_wp2_with fail
                      exact ⟨⟨6, by omega, rfl, HS, hide (below_then hb.out (below_then (below_alloc _ _) (below_drewN _ _)))⟩, by simp [intOf]⟩
                  · skip
                    by_cases h6 : j = 6
                    · subst h6
                      by_cases hh : d.toNat = 114
                      · have ht : ((114 : Int) == (d.toNat : Int)) = true := by rw [hh]; rfl
                        have HF := hide (escV_yes (k := k) (p := 13) (n := 2) (r := Quo.esc (l.drop k)) (by rw [HE.out]; exact Quo.esc_letter _ (s := 13) (by rw [byte_is hh 114 rfl]; first | done | rfl)) (by omega))
                        clear hh
                        go_wp2_with fail
                        go_quiet (fail)
                        go_wp2_with fail
                        go_ret3
                        exact ⟨by rw [HF.out]; rfl, below_then HB2.out (below_then hb.out (below_then (below_alloc _ _) (below_drewN _ _)))⟩
                      · have ht : ((114 : Int) == (d.toNat : Int)) = false := by rw [beq_eq_false_iff_ne]; omega
                        have HS := hide (hs.out.step (j := 6) hh)
                        clear hh
                        go_wp2_with fail
                        go_quiet (fail)
                        go_wp2_with fail
                        exact ⟨⟨7, by omega, rfl, HS, hide (below_then hb.out (below_then (below_alloc _ _) (below_drewN _ _)))⟩, by simp [intOf]⟩
                    · skip
                      by_cases h7 : j = 7
                      · subst h7
                        by_cases hh : d.toNat = 116
                        · have ht : ((116 : Int) == (d.toNat : Int)) = true := by rw [hh]; rfl
                          have HF := hide (escV_yes (k := k) (p := 9) (n := 2) (r := Quo.esc (l.drop k)) (by rw [HE.out]; exact Quo.esc_letter _ (s := 9) (by rw [byte_is hh 116 rfl]; first | done | rfl)) (by omega))
                          clear hh
                          go_wp2_with fail
                          go_quiet (fail)
                          go_wp2_with fail
                          go_ret3
                          exact ⟨by rw [HF.out]; rfl, below_then HB2.out (below_then hb.out (below_then (below_alloc _ _) (below_drewN _ _)))⟩
                        · have ht : ((116 : Int) == (d.toNat : Int)) = false := by rw [beq_eq_false_iff_ne]; omega
                          have HS := hide (hs.out.step (j := 7) hh)
                          clear hh
                          go_wp2_with fail
                          go_quiet (fail)
                          go_wp2_with fail
                          exact ⟨⟨8, by omega, rfl, HS, hide (below_then hb.out (below_then (below_alloc _ _) (below_drewN _ _)))⟩, by simp [intOf]⟩
                      · skip
                        obtain rfl : j = 8 := by omega
                        have HF := hide (escV_no (k := k) (r := Quo.esc (l.drop k)) (esc_none HU.out HE.out (NoLet.all hs.out)))
                        go_wp2_with fail
                        go_ret3
                        exact ⟨by rw [HF.out]; rfl, below_then HB2.out hb.out⟩
    · have hk2 : ¬ (k : Int) + 1 < (n : Int) := by omega
      have HF := hide (escV_no (k := k) (r := Quo.esc (l.drop k)) (by
        unfold Quo.esc; rw [HU.out]; simp only
        have h1 : (l.drop k).length = 1 := by rw [List.length_drop, HL.out]; omega
        obtain ⟨x, hx⟩ := List.length_eq_one_iff.1 h1
        rw [hx]))
      go_wp2_with fail
      go_ret3
      exact ⟨by rw [HF.out]; rfl, HB1.out⟩
end Go.Proofs.YtbnibiealnogdaaDoor
