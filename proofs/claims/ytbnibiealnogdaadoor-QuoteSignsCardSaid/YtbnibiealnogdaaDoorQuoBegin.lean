/- The walk of the reference's Begin: the sign that begins a row. -/
import Derived.Test.YtbnibiealnogdaaDoorQuoRef
import Derived.Test.YtbnibiealnogdaaDoorQuoLetter
import Derived.Test.YtbnibiealnogdaaDoorUtfBegin
namespace Go.Proofs.YtbnibiealnogdaaDoor
open Go.RowKit

def tailB (l : List UInt8) : Nat × Nat := if (Utf.dec l).2 = 0 ∨ (Utf.dec l).1 < 32 ∨ (Utf.dec l).1 = 34 ∨ (Utf.dec l).1 = 92 then (0, 0) else Utf.dec l
/-- what Begin answers where no letter is said -/
def begin2 (l : List UInt8) : Nat × Nat := match Quo.unit l with
  | some h => if Utf.isCp (h : Int) = true then (h, 6) else if h < 56320 then Quo.pair h (l.drop 6) else tailB l
  | none => tailB l
theorem tail_back (t : List UInt8) : tailB (92 :: t) = (0, 0) := by
  unfold tailB
  rw [dec_low t (by decide), if_pos (by right; right; right; rfl)]
theorem tail_other {c : UInt8} {t : List UInt8} (h : c ≠ 92) : tailB (c :: t) = Quo.sign (c :: t) := by
  have hn : c.toNat ≠ 92 := fun e => h (UInt8.toNat_inj.1 (by rw [e]; rfl))
  by_cases hl : c.toNat < 32 ∨ c = 34
  · rw [Quo.sign_low t h hl]
    unfold tailB
    have h128 : c.toNat < 128 := by rcases hl with hl | hl; omega; rw [hl]; decide
    rw [dec_low t h128, if_pos]
    rcases hl with hl | hl
    · exact .inr (.inl hl)
    · exact .inr (.inr (.inl (by rw [hl]; rfl)))
  · rw [Quo.sign_dec t h hl]
    unfold tailB
    have h34 : c.toNat ≠ 34 := fun e => hl (.inr (UInt8.toNat_inj.1 (by rw [e]; rfl)))
    by_cases hz : (Utf.dec (c :: t)).2 = 0
    · rw [if_pos (.inl hz)]
      have h0 := Utf.dec_zero (l := c :: t) (p := (Utf.dec (c :: t)).1) (by rw [← hz])
      rw [← Prod.eta (Utf.dec (c :: t)), h0, hz]
    · rw [if_neg]
      rintro (h1 | h1)
      · exact hz h1
      · by_cases h128 : c.toNat < 128
        · rw [dec_low t h128] at h1
          simp only at h1
          rcases h1 with h1 | h1 | h1
          · exact hl (.inl h1)
          · exact h34 h1
          · exact hn h1
        · obtain ⟨e1, e2, e3⟩ := Utf.enc_dec (l := c :: t) (p := (Utf.dec (c :: t)).1) (n := (Utf.dec (c :: t)).2) rfl hz
          obtain ⟨c', t', he, f1, _⟩ := Quo.enc_first _ e1
          obtain ⟨m, hm⟩ : ∃ m, (Utf.dec (c :: t)).2 = m + 1 := ⟨(Utf.dec (c :: t)).2 - 1, by omega⟩
          rw [he, hm, List.take_succ_cons] at e3
          have hcc := (List.cons.inj e3).1
          have := f1 (by omega)
          rw [hcc] at this
          omega
theorem unit_head {c : UInt8} {t : List UInt8} (h : c ≠ 92) : Quo.unit (c :: t) = none := by
  cases hu : Quo.unit (c :: t) with
  | none => rfl
  | some n =>
    obtain ⟨_, _, _, _, _, hs, _⟩ := Quo.unit_shape hu
    exact absurd (List.cons.inj hs).1 h
/-- where no letter is said -/
theorem begin2_sign {l : List UInt8} (h : ∀ d t, l = 92 :: d :: t → Quo.letter d = none) : Quo.sign l = begin2 l := by
  cases l with
  | nil => rfl
  | cons c t =>
    by_cases hc : c = 92
    · subst hc
      rw [Quo.sign_back]
      unfold Quo.esc begin2
      cases hu : Quo.unit (92 :: t) with
      | some n => simp only; rw [tail_back]
      | none =>
        simp only
        rw [tail_back]
        cases t with
        | nil => rfl
        | cons d t => simp only; rw [h d t rfl]
    · unfold begin2
      rw [unit_head hc]
      exact (tail_other hc).symm
theorem rBegin_nil (A : Option Addr) (c : Nat) (w : World) : Calls Tryd.prog 32 #[.slice A 0 c] w fun e w' => e = .returned (decV (0, 0)) ∧ w' = w := by
  go_enter Tryd.func32, Tryd.ntmps32
  go_wp2_with fail
  go_loop [4] (fun i => i = .int .i64 1) (fun _ => 0)
  case atStart => rfl
  case round =>
    subst hrel
    go_wp2_with fail
    go_ret2
    exact ⟨rfl, rfl⟩
theorem rBegin_all (A : Option Addr) (n c : Nat) (l : List UInt8) (w : World) (hA : RB w A n l) (hn : n ≤ 1048576) :
    Calls Tryd.prog 32 #[.slice A n c] w fun e w' => e = .returned (decV (Utf.dec l)) ∧ Below w.heap.size w w' := by
  rcases Nat.eq_zero_or_pos n with h | h
  · subst h
    obtain rfl : l = [] := List.eq_nil_of_length_eq_zero hA.len
    exact (rBegin_nil A c w).mono fun e w' ⟨h1, h2⟩ => ⟨h1, by rw [h2]; exact Below.refl _ _⟩
  · exact rBegin_any A n c l w hA hn h
theorem two_num2 {h v : Nat} {z y : Int} (hz : z = (h : Int)) (hy : y = (v : Int)) (h1 : 55296 ≤ h) (h2 : h < 56320) (h3 : 56320 ≤ v) (h4 : v ≤ 57343) :
    ∃ q : Nat, q = 65536 + (h - 55296) * 1024 + (v - 56320) ∧ 65536 + 1024 * (z - 55296) + (y - 56320) = (q : Int) := ⟨_, rfl, by omega⟩
/-- b[6:] -/
theorem cut_tail {A : Option Addr} {n c : Nat} {l : List UInt8} {w : World} (h : RB w A n l) (h1 : 6 ≤ n) (hc : n ≤ c) :
    ∃ A', (∀ W : World, (Instr.sliceAt 29 (.slice A n c) (some (.int .i64 6)) none none).run Tryd.prog W = .ok (.slice A' (n - 6) (c - 6)) W) ∧ RB w A' (n - 6) (l.drop 6) := by
  refine ⟨if c = 6 then A else A.map (·.add 6), fun W => ?_, h.drop h1 hc⟩
  rw [run_sliceAt_slice (P := Tryd.prog) (w := W) 29 _ _ _ _ under_elem, run_slice_l (P := Tryd.prog) (w := W) 29 A n c under_elem _ _ (by omega) (by omega), size_elem]
  show Result.ok (Go.sliced _ _ _ _ _) W = _
  unfold Go.sliced
  rw [Nat.mul_one]
  rfl
set_option maxRecDepth 100000 in
set_option maxHeartbeats 8000000 in
theorem rBeginQ_any (A : Option Addr) (n c : Nat) (l : List UInt8) (w : World) (hA0 : RB w A n l) (hnc : n ≤ c) (hn : n ≤ 1048576) :
    Calls Tryd.prog 19 #[.slice A n c] w fun e w' => e = .returned (decV (Quo.sign l)) ∧ Below w.heap.size w w' := by
  have HA := hide hA0
  have HL := hide hA0.len
  by_cases hn1 : 1 < n
  · obtain ⟨b, o, hAe, hb0, hc0⟩ := hA0.cell (k := 0) (by rw [HL.out]; omega)
    obtain ⟨b', o', he, _, hc1⟩ := hA0.cell (k := 1) (by rw [HL.out]; omega)
    subst hAe
    obtain ⟨rfl, rfl⟩ : b = b' ∧ o = o' := by simpa using he
    rw [Nat.add_zero] at hc0
    have hk1 : (1 : Int) < (n : Int) := by omega
    have hk0 : (0 : Int) < (n : Int) := by omega
    have HE := hide (show l = l[0]'(by rw [HL.out]; omega) :: l[1]'(by rw [HL.out]; omega) :: l.drop 2 by
      have := drop_two (l := l) (k := 0) (by rw [HL.out]; omega)
      rwa [List.drop_zero] at this)
    obtain ⟨x, hx⟩ : ∃ x, x = l[0]'(by rw [HL.out]; omega) := ⟨_, rfl⟩
    obtain ⟨d, hd⟩ : ∃ d, d = l[1]'(by rw [HL.out]; omega) := ⟨_, rfl⟩
    rw [← hx] at hc0 HE
    rw [← hd] at hc1 HE
    have hx255 := x.toNat_lt
    clear hx hd he hA0
    by_cases h92 : x.toNat = 92
    · have t92 : ((x.toNat : Int) == 92) = true := by rw [h92]; rfl
      have HX := hide (show x = 92 from UInt8.toNat_inj.1 (by rw [h92]; rfl))
      cases hl : Quo.letter d with
      | some s =>
        have HZ := hide (letZ_yes hl)
        have HF := hide (show Quo.sign l = (s, 2) by rw [HE.out, HX.out, Quo.sign_back]; exact Quo.esc_letter _ hl)
        have hs0 : (0 : Int) ≤ (s : Int) := by omega
        clear h92 hl
        go_enter Tryd.func19, Tryd.ntmps19
        go_wp2_with fail
        refine Calls.mono (rLetter_any d _) ?_
        rintro e w2 ⟨rfl, hb2⟩
        rw [HZ.out]
        have hc2 := keep_cell hb2 hc1
        have HB2 := hide hb2
        clear hb2
        go_wp2_with fail
        refine Calls.mono (rLetter_any d _) ?_
        rintro e w3 ⟨rfl, hb3⟩
        rw [HZ.out]
        go_wp2_with fail
        go_ret2
        exact ⟨by rw [HF.out]; rfl, below_then HB2.out hb3⟩
      | none =>
        have HZ := hide (letZ_no hl)
        have HS := hide (begin2_sign (l := l) (by
          intro d' t ht
          rw [HE.out] at ht
          obtain ⟨_, h2⟩ := List.cons.inj ht
          obtain ⟨h3, _⟩ := List.cons.inj h2
          rw [← h3]; exact hl))
        clear h92 hl
        go_enter Tryd.func19, Tryd.ntmps19
        go_wp2_with fail
        refine Calls.mono (rLetter_any d _) ?_
        rintro e w2 ⟨rfl, hb2⟩
        rw [HZ.out]
        have HB := hide hb2
        clear hb2 hc0 hc1
        go_wp2_with fail
        refine Calls.mono (rFour_any _ n c l _ (HA.out.on HB.out) hn) ?_
        rintro e w4 ⟨rfl, rfl⟩
        cases hu : Quo.unit l with
        | some h =>
          rw [unitI_yes hu]
          obtain ⟨_, _, _, _, t, ht, _, hlt⟩ := Quo.unit_shape hu
          have hn6 : 6 ≤ n := by
            have h1 := congrArg List.length ht
            rw [HL.out] at h1
            simp at h1; omega
          obtain ⟨z, hz⟩ : ∃ z : Int, z = (h : Int) := ⟨_, rfl⟩
          rw [← hz]
          have HZE := hide hz
          have HU := hide hu
          clear ht hu
          by_cases hcp : Utf.isCp (h : Int) = true
          · have HF := hide (show begin2 l = (h, 6) by unfold begin2; rw [HU.out]; simp only; rw [if_pos hcp])
            have HCZ := hide (show Utf.isCp z = true by rw [hz]; exact hcp)
            clear hcp hz hlt
            go_wp2_with fail
            refine Calls.mono (rIs_any z _) ?_
            rintro e w5 ⟨rfl, rfl⟩
            rw [HCZ.out]
            go_wp2_with fail
            go_ret2
            exact ⟨by rw [HS.out, HF.out, HZE.out]; rfl, HB.out⟩
          · have HCZ := hide (show Utf.isCp z = false by rw [hz]; simpa using hcp)
            have HCP := hide hcp
            have hge : 55296 ≤ z := by rw [Utf.isCp_iff] at hcp; omega
            by_cases hd : h < 56320
            · have hle : z ≤ 56319 := by omega
              have HD := hide (And.intro hd trivial)
              have HGE := hide (show 55296 ≤ h by omega)
              clear hcp hz hlt hd
              obtain ⟨A6, hcut, hr6⟩ := cut_tail (HA.out.on HB.out) hn6 hnc
              have HR6 := hide hr6
              clear hr6
              go_wp2_with fail
              refine Calls.mono (rIs_any z _) ?_
              rintro e w5 ⟨rfl, rfl⟩
              rw [HCZ.out]
              go_wp2_with fail
              refine Calls.mono (rFour_any A6 (n - 6) (c - 6) (l.drop 6) _ HR6.out (by omega)) ?_
              rintro e w6 ⟨rfl, rfl⟩
              cases hv : Quo.unit (l.drop 6) with
              | some v =>
                rw [unitI_yes hv]
                obtain ⟨y, hy⟩ : ∃ y : Int, y = (v : Int) := ⟨_, rfl⟩
                rw [← hy]
                have HYE := hide hy
                by_cases hr : 56320 ≤ v ∧ v ≤ 57343
                · have h3 : 56320 ≤ y := by omega
                  have h4 : y ≤ 57343 := by omega
                  obtain ⟨q, hq, e7⟩ := two_num2 HZE.out hy HGE.out HD.out.1 hr.1 hr.2
                  have HF := hide (show begin2 l = (q, 12) by
                    unfold begin2; rw [HU.out]; simp only; rw [if_neg HCP.out, if_pos HD.out.1]; unfold Quo.pair; rw [hv]; simp only; rw [if_pos hr, hq])
                  have HE7 := hide e7
                  clear hv hr hy e7 hq hcut
                  go_wp2_with fail
                  go_ret2
                  exact ⟨by rw [HS.out, HF.out, decV, ← HE7.out]; rfl, HB.out⟩
                · have HF := hide (show begin2 l = (0, 0) by
                    unfold begin2; rw [HU.out]; simp only; rw [if_neg HCP.out, if_pos HD.out.1]; unfold Quo.pair; rw [hv]; simp only; rw [if_neg hr])
                  by_cases h3 : 56320 ≤ v
                  · have h3' : 56320 ≤ y := by omega
                    have h4 : ¬ y ≤ 57343 := by omega
                    clear hv hr h3 hy hcut
                    go_wp2_with fail
                    go_ret2
                    exact ⟨by rw [HS.out, HF.out]; rfl, HB.out⟩
                  · have h3' : ¬ 56320 ≤ y := by omega
                    clear hv hr h3 hy hcut
                    go_wp2_with fail
                    go_ret2
                    exact ⟨by rw [HS.out, HF.out]; rfl, HB.out⟩
              | none =>
                rw [unitI_no hv]
                have HF := hide (show begin2 l = (0, 0) by
                  unfold begin2; rw [HU.out]; simp only; rw [if_neg HCP.out, if_pos HD.out.1]; unfold Quo.pair; rw [hv])
                clear hv hcut
                go_wp2_with fail
                go_ret2
                exact ⟨by rw [HS.out, HF.out]; rfl, HB.out⟩
            · have hle : ¬ z ≤ 56319 := by omega
              have HT := hide (show Quo.sign l = tailB l by rw [HS.out]; unfold begin2; rw [HU.out]; simp only; rw [if_neg HCP.out, if_neg hd])
              clear hcp hz hlt hd
              go_wp2_with fail
              refine Calls.mono (rIs_any z _) ?_
              rintro e w5 ⟨rfl, rfl⟩
              rw [HCZ.out]
              go_wp2_with fail
              refine Calls.mono (rBegin_all _ n c l _ (HA.out.on HB.out) hn) ?_
              rintro e w9 ⟨rfl, hb9⟩
              have HB9 := hide (below_then HB.out hb9)
              clear hb9
              have HTB := hide (show tailB l = if (Utf.dec l).2 = 0 ∨ (Utf.dec l).1 < 32 ∨ (Utf.dec l).1 = 34 ∨ (Utf.dec l).1 = 92 then (0, 0) else Utf.dec l from rfl)
              cases hd : Utf.dec l with
              | mk p m =>
                rw [hd] at HTB
                unfold decV
                dsimp only
                by_cases hm : m = 0
                · have HF := hide (show tailB l = (0, 0) by rw [HTB.out, if_pos (.inl hm)])
                  have t1 : ((m : Int) == 0) = true := by rw [hm]; rfl
                  clear hm hd
                  go_wp2_with fail
                  go_ret2
                  exact ⟨by rw [HT.out, HF.out]; rfl, HB9.out⟩
                · have t1 : ((m : Int) == 0) = false := by rw [beq_eq_false_iff_ne]; omega
                  by_cases h32 : p < 32
                  · have HF := hide (show tailB l = (0, 0) by rw [HTB.out, if_pos (.inr (.inl h32))])
                    have t2 : (p : Int) < 32 := by omega
                    clear hm hd h32
                    go_wp2_with fail
                    go_ret2
                    exact ⟨by rw [HT.out, HF.out]; rfl, HB9.out⟩
                  · have t2 : ¬ (p : Int) < 32 := by omega
                    by_cases h34 : p = 34
                    · have HF := hide (show tailB l = (0, 0) by rw [HTB.out, if_pos (.inr (.inr (.inl h34)))])
                      have t3 : ((p : Int) == 34) = true := by rw [h34]; rfl
                      clear hm hd h32 h34
                      go_wp2_with fail
                      go_ret2
                      exact ⟨by rw [HT.out, HF.out]; rfl, HB9.out⟩
                    · have t3 : ((p : Int) == 34) = false := by rw [beq_eq_false_iff_ne]; omega
                      by_cases h92 : p = 92
                      · have HF := hide (show tailB l = (0, 0) by rw [HTB.out, if_pos (.inr (.inr (.inr h92)))])
                        have t4 : ((p : Int) == 92) = true := by rw [h92]; rfl
                        clear hm hd h32 h34 h92
                        go_wp2_with fail
                        go_ret2
                        exact ⟨by rw [HT.out, HF.out]; rfl, HB9.out⟩
                      · have t4 : ((p : Int) == 92) = false := by rw [beq_eq_false_iff_ne]; omega
                        have HF := hide (show tailB l = (p, m) by rw [HTB.out, if_neg]; rintro (h | h | h | h); exact hm h; exact h32 h; exact h34 h; exact h92 h)
                        clear hm hd h32 h34 h92
                        go_wp2_with fail
                        go_ret2
                        exact ⟨by rw [HT.out, HF.out]; rfl, HB9.out⟩
        | none =>
          rw [unitI_no hu]
          have HT := hide (show Quo.sign l = tailB l by rw [HS.out]; unfold begin2; rw [hu])
          clear hu
          go_wp2_with fail
          refine Calls.mono (rIs_any (-1) _) ?_
          rintro e w5 ⟨rfl, rfl⟩
          rw [show Utf.isCp (-1) = false by decide]
          go_wp2_with fail
          refine Calls.mono (rBegin_all _ n c l _ (HA.out.on HB.out) hn) ?_
          rintro e w9 ⟨rfl, hb9⟩
          have HB9 := hide (below_then HB.out hb9)
          clear hb9
          have HTB := hide (show tailB l = if (Utf.dec l).2 = 0 ∨ (Utf.dec l).1 < 32 ∨ (Utf.dec l).1 = 34 ∨ (Utf.dec l).1 = 92 then (0, 0) else Utf.dec l from rfl)
          cases hd : Utf.dec l with
          | mk p m =>
            rw [hd] at HTB
            unfold decV
            dsimp only
            by_cases hm : m = 0
            · have HF := hide (show tailB l = (0, 0) by rw [HTB.out, if_pos (.inl hm)])
              have t1 : ((m : Int) == 0) = true := by rw [hm]; rfl
              clear hm hd
              go_wp2_with fail
              go_ret2
              exact ⟨by rw [HT.out, HF.out]; rfl, HB9.out⟩
            · have t1 : ((m : Int) == 0) = false := by rw [beq_eq_false_iff_ne]; omega
              by_cases h32 : p < 32
              · have HF := hide (show tailB l = (0, 0) by rw [HTB.out, if_pos (.inr (.inl h32))])
                have t2 : (p : Int) < 32 := by omega
                clear hm hd h32
                go_wp2_with fail
                go_ret2
                exact ⟨by rw [HT.out, HF.out]; rfl, HB9.out⟩
              · have t2 : ¬ (p : Int) < 32 := by omega
                by_cases h34 : p = 34
                · have HF := hide (show tailB l = (0, 0) by rw [HTB.out, if_pos (.inr (.inr (.inl h34)))])
                  have t3 : ((p : Int) == 34) = true := by rw [h34]; rfl
                  clear hm hd h32 h34
                  go_wp2_with fail
                  go_ret2
                  exact ⟨by rw [HT.out, HF.out]; rfl, HB9.out⟩
                · have t3 : ((p : Int) == 34) = false := by rw [beq_eq_false_iff_ne]; omega
                  by_cases h92 : p = 92
                  · have HF := hide (show tailB l = (0, 0) by rw [HTB.out, if_pos (.inr (.inr (.inr h92)))])
                    have t4 : ((p : Int) == 92) = true := by rw [h92]; rfl
                    clear hm hd h32 h34 h92
                    go_wp2_with fail
                    go_ret2
                    exact ⟨by rw [HT.out, HF.out]; rfl, HB9.out⟩
                  · have t4 : ((p : Int) == 92) = false := by rw [beq_eq_false_iff_ne]; omega
                    have HF := hide (show tailB l = (p, m) by rw [HTB.out, if_neg]; rintro (h | h | h | h); exact hm h; exact h32 h; exact h34 h; exact h92 h)
                    clear hm hd h32 h34 h92
                    go_wp2_with fail
                    go_ret2
                    exact ⟨by rw [HT.out, HF.out]; rfl, HB9.out⟩
    · have t92 : ((x.toNat : Int) == 92) = false := by rw [beq_eq_false_iff_ne]; omega
      have HS := hide (begin2_sign (l := l) (by
        intro d' t ht
        rw [HE.out] at ht
        obtain ⟨h2, _⟩ := List.cons.inj ht
        exact absurd (by rw [h2]; rfl) h92))
      have HB := hide (Below.refl w.heap.size w)
      clear h92
      go_enter Tryd.func19, Tryd.ntmps19
      go_wp2_with fail
      refine Calls.mono (rFour_any _ n c l _ (HA.out.on HB.out) hn) ?_
      rintro e w4 ⟨rfl, rfl⟩
      cases hu : Quo.unit l with
      | some h =>
        rw [unitI_yes hu]
        obtain ⟨_, _, _, _, t, ht, _, hlt⟩ := Quo.unit_shape hu
        have hn6 : 6 ≤ n := by
          have h1 := congrArg List.length ht
          rw [HL.out] at h1
          simp at h1; omega
        obtain ⟨z, hz⟩ : ∃ z : Int, z = (h : Int) := ⟨_, rfl⟩
        rw [← hz]
        have HZE := hide hz
        have HU := hide hu
        clear ht hu
        by_cases hcp : Utf.isCp (h : Int) = true
        · have HF := hide (show begin2 l = (h, 6) by unfold begin2; rw [HU.out]; simp only; rw [if_pos hcp])
          have HCZ := hide (show Utf.isCp z = true by rw [hz]; exact hcp)
          clear hcp hz hlt
          go_wp2_with fail
          refine Calls.mono (rIs_any z _) ?_
          rintro e w5 ⟨rfl, rfl⟩
          rw [HCZ.out]
          go_wp2_with fail
          go_ret2
          exact ⟨by rw [HS.out, HF.out, HZE.out]; rfl, HB.out⟩
        · have HCZ := hide (show Utf.isCp z = false by rw [hz]; simpa using hcp)
          have HCP := hide hcp
          have hge : 55296 ≤ z := by rw [Utf.isCp_iff] at hcp; omega
          by_cases hd : h < 56320
          · have hle : z ≤ 56319 := by omega
            have HD := hide (And.intro hd trivial)
            have HGE := hide (show 55296 ≤ h by omega)
            clear hcp hz hlt hd
            obtain ⟨A6, hcut, hr6⟩ := cut_tail (HA.out.on HB.out) hn6 hnc
            have HR6 := hide hr6
            clear hr6
            go_wp2_with fail
            refine Calls.mono (rIs_any z _) ?_
            rintro e w5 ⟨rfl, rfl⟩
            rw [HCZ.out]
            go_wp2_with fail
            refine Calls.mono (rFour_any A6 (n - 6) (c - 6) (l.drop 6) _ HR6.out (by omega)) ?_
            rintro e w6 ⟨rfl, rfl⟩
            cases hv : Quo.unit (l.drop 6) with
            | some v =>
              rw [unitI_yes hv]
              obtain ⟨y, hy⟩ : ∃ y : Int, y = (v : Int) := ⟨_, rfl⟩
              rw [← hy]
              have HYE := hide hy
              by_cases hr : 56320 ≤ v ∧ v ≤ 57343
              · have h3 : 56320 ≤ y := by omega
                have h4 : y ≤ 57343 := by omega
                obtain ⟨q, hq, e7⟩ := two_num2 HZE.out hy HGE.out HD.out.1 hr.1 hr.2
                have HF := hide (show begin2 l = (q, 12) by
                  unfold begin2; rw [HU.out]; simp only; rw [if_neg HCP.out, if_pos HD.out.1]; unfold Quo.pair; rw [hv]; simp only; rw [if_pos hr, hq])
                have HE7 := hide e7
                clear hv hr hy e7 hq hcut
                go_wp2_with fail
                go_ret2
                exact ⟨by rw [HS.out, HF.out, decV, ← HE7.out]; rfl, HB.out⟩
              · have HF := hide (show begin2 l = (0, 0) by
                  unfold begin2; rw [HU.out]; simp only; rw [if_neg HCP.out, if_pos HD.out.1]; unfold Quo.pair; rw [hv]; simp only; rw [if_neg hr])
                by_cases h3 : 56320 ≤ v
                · have h3' : 56320 ≤ y := by omega
                  have h4 : ¬ y ≤ 57343 := by omega
                  clear hv hr h3 hy hcut
                  go_wp2_with fail
                  go_ret2
                  exact ⟨by rw [HS.out, HF.out]; rfl, HB.out⟩
                · have h3' : ¬ 56320 ≤ y := by omega
                  clear hv hr h3 hy hcut
                  go_wp2_with fail
                  go_ret2
                  exact ⟨by rw [HS.out, HF.out]; rfl, HB.out⟩
            | none =>
              rw [unitI_no hv]
              have HF := hide (show begin2 l = (0, 0) by
                unfold begin2; rw [HU.out]; simp only; rw [if_neg HCP.out, if_pos HD.out.1]; unfold Quo.pair; rw [hv])
              clear hv hcut
              go_wp2_with fail
              go_ret2
              exact ⟨by rw [HS.out, HF.out]; rfl, HB.out⟩
          · have hle : ¬ z ≤ 56319 := by omega
            have HT := hide (show Quo.sign l = tailB l by rw [HS.out]; unfold begin2; rw [HU.out]; simp only; rw [if_neg HCP.out, if_neg hd])
            clear hcp hz hlt hd
            go_wp2_with fail
            refine Calls.mono (rIs_any z _) ?_
            rintro e w5 ⟨rfl, rfl⟩
            rw [HCZ.out]
            go_wp2_with fail
            refine Calls.mono (rBegin_all _ n c l _ (HA.out.on HB.out) hn) ?_
            rintro e w9 ⟨rfl, hb9⟩
            have HB9 := hide (below_then HB.out hb9)
            clear hb9
            have HTB := hide (show tailB l = if (Utf.dec l).2 = 0 ∨ (Utf.dec l).1 < 32 ∨ (Utf.dec l).1 = 34 ∨ (Utf.dec l).1 = 92 then (0, 0) else Utf.dec l from rfl)
            cases hd : Utf.dec l with
            | mk p m =>
              rw [hd] at HTB
              unfold decV
              dsimp only
              by_cases hm : m = 0
              · have HF := hide (show tailB l = (0, 0) by rw [HTB.out, if_pos (.inl hm)])
                have t1 : ((m : Int) == 0) = true := by rw [hm]; rfl
                clear hm hd
                go_wp2_with fail
                go_ret2
                exact ⟨by rw [HT.out, HF.out]; rfl, HB9.out⟩
              · have t1 : ((m : Int) == 0) = false := by rw [beq_eq_false_iff_ne]; omega
                by_cases h32 : p < 32
                · have HF := hide (show tailB l = (0, 0) by rw [HTB.out, if_pos (.inr (.inl h32))])
                  have t2 : (p : Int) < 32 := by omega
                  clear hm hd h32
                  go_wp2_with fail
                  go_ret2
                  exact ⟨by rw [HT.out, HF.out]; rfl, HB9.out⟩
                · have t2 : ¬ (p : Int) < 32 := by omega
                  by_cases h34 : p = 34
                  · have HF := hide (show tailB l = (0, 0) by rw [HTB.out, if_pos (.inr (.inr (.inl h34)))])
                    have t3 : ((p : Int) == 34) = true := by rw [h34]; rfl
                    clear hm hd h32 h34
                    go_wp2_with fail
                    go_ret2
                    exact ⟨by rw [HT.out, HF.out]; rfl, HB9.out⟩
                  · have t3 : ((p : Int) == 34) = false := by rw [beq_eq_false_iff_ne]; omega
                    by_cases h92 : p = 92
                    · have HF := hide (show tailB l = (0, 0) by rw [HTB.out, if_pos (.inr (.inr (.inr h92)))])
                      have t4 : ((p : Int) == 92) = true := by rw [h92]; rfl
                      clear hm hd h32 h34 h92
                      go_wp2_with fail
                      go_ret2
                      exact ⟨by rw [HT.out, HF.out]; rfl, HB9.out⟩
                    · have t4 : ((p : Int) == 92) = false := by rw [beq_eq_false_iff_ne]; omega
                      have HF := hide (show tailB l = (p, m) by rw [HTB.out, if_neg]; rintro (h | h | h | h); exact hm h; exact h32 h; exact h34 h; exact h92 h)
                      clear hm hd h32 h34 h92
                      go_wp2_with fail
                      go_ret2
                      exact ⟨by rw [HT.out, HF.out]; rfl, HB9.out⟩
      | none =>
        rw [unitI_no hu]
        have HT := hide (show Quo.sign l = tailB l by rw [HS.out]; unfold begin2; rw [hu])
        clear hu
        go_wp2_with fail
        refine Calls.mono (rIs_any (-1) _) ?_
        rintro e w5 ⟨rfl, rfl⟩
        rw [show Utf.isCp (-1) = false by decide]
        go_wp2_with fail
        refine Calls.mono (rBegin_all _ n c l _ (HA.out.on HB.out) hn) ?_
        rintro e w9 ⟨rfl, hb9⟩
        have HB9 := hide (below_then HB.out hb9)
        clear hb9
        have HTB := hide (show tailB l = if (Utf.dec l).2 = 0 ∨ (Utf.dec l).1 < 32 ∨ (Utf.dec l).1 = 34 ∨ (Utf.dec l).1 = 92 then (0, 0) else Utf.dec l from rfl)
        cases hd : Utf.dec l with
        | mk p m =>
          rw [hd] at HTB
          unfold decV
          dsimp only
          by_cases hm : m = 0
          · have HF := hide (show tailB l = (0, 0) by rw [HTB.out, if_pos (.inl hm)])
            have t1 : ((m : Int) == 0) = true := by rw [hm]; rfl
            clear hm hd
            go_wp2_with fail
            go_ret2
            exact ⟨by rw [HT.out, HF.out]; rfl, HB9.out⟩
          · have t1 : ((m : Int) == 0) = false := by rw [beq_eq_false_iff_ne]; omega
            by_cases h32 : p < 32
            · have HF := hide (show tailB l = (0, 0) by rw [HTB.out, if_pos (.inr (.inl h32))])
              have t2 : (p : Int) < 32 := by omega
              clear hm hd h32
              go_wp2_with fail
              go_ret2
              exact ⟨by rw [HT.out, HF.out]; rfl, HB9.out⟩
            · have t2 : ¬ (p : Int) < 32 := by omega
              by_cases h34 : p = 34
              · have HF := hide (show tailB l = (0, 0) by rw [HTB.out, if_pos (.inr (.inr (.inl h34)))])
                have t3 : ((p : Int) == 34) = true := by rw [h34]; rfl
                clear hm hd h32 h34
                go_wp2_with fail
                go_ret2
                exact ⟨by rw [HT.out, HF.out]; rfl, HB9.out⟩
              · have t3 : ((p : Int) == 34) = false := by rw [beq_eq_false_iff_ne]; omega
                by_cases h92 : p = 92
                · have HF := hide (show tailB l = (0, 0) by rw [HTB.out, if_pos (.inr (.inr (.inr h92)))])
                  have t4 : ((p : Int) == 92) = true := by rw [h92]; rfl
                  clear hm hd h32 h34 h92
                  go_wp2_with fail
                  go_ret2
                  exact ⟨by rw [HT.out, HF.out]; rfl, HB9.out⟩
                · have t4 : ((p : Int) == 92) = false := by rw [beq_eq_false_iff_ne]; omega
                  have HF := hide (show tailB l = (p, m) by rw [HTB.out, if_neg]; rintro (h | h | h | h); exact hm h; exact h32 h; exact h34 h; exact h92 h)
                  clear hm hd h32 h34 h92
                  go_wp2_with fail
                  go_ret2
                  exact ⟨by rw [HT.out, HF.out]; rfl, HB9.out⟩
  · have hk1 : ¬ (1 : Int) < (n : Int) := by omega
    have HS := hide (begin2_sign (l := l) (by
      intro d' t ht
      have h1 := congrArg List.length ht
      rw [HL.out] at h1
      simp at h1; omega))
    have HB := hide (Below.refl w.heap.size w)
    have hu := unit_short (l := l) (by rw [HL.out]; omega)
    clear hn1 hA0
    have HUN := hide hu
    clear hu
    go_enter Tryd.func19, Tryd.ntmps19
    go_wp2_with fail
    refine Calls.mono (rFour_any _ n c l _ (HA.out.on HB.out) hn) ?_
    rintro e w4 ⟨rfl, rfl⟩
    rw [unitI_no HUN.out]
    have HT := hide (show Quo.sign l = tailB l by rw [HS.out]; unfold begin2; rw [HUN.out])
    go_wp2_with fail
    refine Calls.mono (rIs_any (-1) _) ?_
    rintro e w5 ⟨rfl, rfl⟩
    rw [show Utf.isCp (-1) = false by decide]
    go_wp2_with fail
    refine Calls.mono (rBegin_all _ n c l _ (HA.out.on HB.out) hn) ?_
    rintro e w9 ⟨rfl, hb9⟩
    have HB9 := hide (below_then HB.out hb9)
    clear hb9
    have HTB := hide (show tailB l = if (Utf.dec l).2 = 0 ∨ (Utf.dec l).1 < 32 ∨ (Utf.dec l).1 = 34 ∨ (Utf.dec l).1 = 92 then (0, 0) else Utf.dec l from rfl)
    cases hd : Utf.dec l with
    | mk p m =>
      rw [hd] at HTB
      unfold decV
      dsimp only
      by_cases hm : m = 0
      · have HF := hide (show tailB l = (0, 0) by rw [HTB.out, if_pos (.inl hm)])
        have t1 : ((m : Int) == 0) = true := by rw [hm]; rfl
        clear hm hd
        go_wp2_with fail
        go_ret2
        exact ⟨by rw [HT.out, HF.out]; rfl, HB9.out⟩
      · have t1 : ((m : Int) == 0) = false := by rw [beq_eq_false_iff_ne]; omega
        by_cases h32 : p < 32
        · have HF := hide (show tailB l = (0, 0) by rw [HTB.out, if_pos (.inr (.inl h32))])
          have t2 : (p : Int) < 32 := by omega
          clear hm hd h32
          go_wp2_with fail
          go_ret2
          exact ⟨by rw [HT.out, HF.out]; rfl, HB9.out⟩
        · have t2 : ¬ (p : Int) < 32 := by omega
          by_cases h34 : p = 34
          · have HF := hide (show tailB l = (0, 0) by rw [HTB.out, if_pos (.inr (.inr (.inl h34)))])
            have t3 : ((p : Int) == 34) = true := by rw [h34]; rfl
            clear hm hd h32 h34
            go_wp2_with fail
            go_ret2
            exact ⟨by rw [HT.out, HF.out]; rfl, HB9.out⟩
          · have t3 : ((p : Int) == 34) = false := by rw [beq_eq_false_iff_ne]; omega
            by_cases h92 : p = 92
            · have HF := hide (show tailB l = (0, 0) by rw [HTB.out, if_pos (.inr (.inr (.inr h92)))])
              have t4 : ((p : Int) == 92) = true := by rw [h92]; rfl
              clear hm hd h32 h34 h92
              go_wp2_with fail
              go_ret2
              exact ⟨by rw [HT.out, HF.out]; rfl, HB9.out⟩
            · have t4 : ((p : Int) == 92) = false := by rw [beq_eq_false_iff_ne]; omega
              have HF := hide (show tailB l = (p, m) by rw [HTB.out, if_neg]; rintro (h | h | h | h); exact hm h; exact h32 h; exact h34 h; exact h92 h)
              clear hm hd h32 h34 h92
              go_wp2_with fail
              go_ret2
              exact ⟨by rw [HT.out, HF.out]; rfl, HB9.out⟩
end Go.Proofs.YtbnibiealnogdaaDoor
