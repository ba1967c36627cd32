/- The walks of quote's sign and Sign. -/
import Derived.Test.YtbnibiealnogdaaDoorQuoEsc
import Derived.Test.YtbnibiealnogdaaDoorUtfNextAt
namespace Go.Proofs.YtbnibiealnogdaaDoor
open Go.RowKit

/-- the error of a place at which no sign begins -/
def wrongE : List UInt8 → Int
  | [] => 6
  | c :: _ => if 128 ≤ c.toNat then 110 else 7
theorem wrong_low {c : UInt8} (t : List UInt8) (h : c.toNat < 128) : wrongE (c :: t) = 7 := if_neg (by omega)
theorem wrong_high {c : UInt8} (t : List UInt8) (h : 128 ≤ c.toNat) : wrongE (c :: t) = 110 := if_pos h
theorem dec_low {c : UInt8} (t : List UInt8) (h : c.toNat < 128) : Utf.dec (c :: t) = (c.toNat, 1) := by
  have h1 := Utf.dec_enc (p := c.toNat) (Utf.isCp_iff.2 (by omega)) t
  have h2 : Utf.enc c.toNat = [c] := by unfold Utf.enc; rw [if_pos h, Utf.u8_eq rfl]
  rw [h2] at h1
  exact h1
/-- what sign answers -/
def signV (k : Nat) (D : List UInt8) : Value := if (Quo.sign D).2 = 0 then .tuple #[.int .i64 0, .int .i64 0, .int .i64 (wrongE D)] else .tuple #[.int .i64 ((Quo.sign D).1 : Int), .int .i64 ((k : Int) + ((Quo.sign D).2 : Int)), .int .i64 0]
theorem signV_no {k : Nat} {D : List UInt8} {e : Int} (h : (Quo.sign D).2 = 0) (he : wrongE D = e) : signV k D = .tuple #[.int .i64 0, .int .i64 0, .int .i64 e] := by subst he; exact if_pos h
theorem signV_yes {k p n : Nat} {D : List UInt8} (h : Quo.sign D = (p, n)) (hn : n ≠ 0) : signV k D = .tuple #[.int .i64 (p : Int), .int .i64 ((k : Int) + (n : Int)), .int .i64 0] := by unfold signV; rw [h]; exact if_neg hn
theorem signV_esc {k : Nat} (t : List UInt8) : signV k (92 :: t) = escV k (Quo.esc (92 :: t)) := by
  unfold signV escV
  rw [Quo.sign_back, wrong_low t (by decide)]
set_option maxHeartbeats 4000000 in
theorem sign_any (A : Option Addr) (n c k : Nat) (l : List UInt8) (w : World) (hA : RB w A n l) (hc : n ≤ c) (hn : n ≤ 1048576) (hk : k < n) (hg : Gl w) :
    Calls Tryd.prog 37 #[.agg #[.slice A n c], .int .i64 (k : Int)] w fun e w' => e = .returned (signV k (l.drop k)) ∧ Below w.heap.size w w' := by
  have hl := hA.len
  have hkl : k < l.length := by omega
  obtain ⟨b, o, rfl, hb0, hc0⟩ := hA.cell hkl
  have HE := hide (List.drop_eq_getElem_cons hkl)
  have HNX := hide (show nextAt l (k : Int) = if (Utf.dec (l.drop k)).2 = 0 then (0, 0, 110) else (((Utf.dec (l.drop k)).1 : Int), (k : Int) + ((Utf.dec (l.drop k)).2 : Int), 0) by
    unfold nextAt; rw [if_neg (by omega), if_neg (by omega), Int.toNat_natCast])
  have hk0 : (0 : Int) ≤ (k : Int) := by omega
  have hk1 : (k : Int) < (n : Int) := by omega
  obtain ⟨x, hx⟩ : ∃ x, x = l[k] := ⟨_, rfl⟩
  rw [← hx] at hc0 HE
  have hx255 := x.toNat_lt
  have HA := hide (hA.on (below_alloc w (.cells #[.slice (some ⟨b, o, none⟩) n c] 71)))
  have HG := hide (hg.on (below_alloc w (.cells #[.slice (some ⟨b, o, none⟩) n c] 71)))
  have HB0 := hide (below_alloc w (.cells #[.slice (some ⟨b, o, none⟩) n c] 71))
  clear hx hkl hA hg
  by_cases h92 : x.toNat = 92
  · have t92 : ((x.toNat : Int) == 92) = true := by rw [h92]; rfl
    have HX := hide (show x = 92 from UInt8.toNat_inj.1 (by rw [h92]; rfl))
    have hrow := new_cells w (.cells #[.slice (some ⟨b, o, none⟩) n c] 71)
    clear h92
    go_enter Tryd.func37, Tryd.ntmps37
    go_wp2_with fail
    refine Calls.mono (escape_any _ n c k l _ HA.out hc hn hk) ?_
    rintro e w1 ⟨rfl, hb1⟩
    have HB1 := hide (below_then HB0.out hb1)
    have HV := hide (signV_esc (k := k) (l.drop (k + 1)))
    clear hb1
    have HEE := hide (show signV k (l.drop k) = escV k (Quo.esc (l.drop k)) by rw [HE.out, HX.out]; exact HV.out)
    generalize Quo.esc (l.drop k) = r at *
    obtain ⟨p, m⟩ := r
    by_cases hm : m = 0
    · subst hm
      have HF := hide (show escV k (p, 0) = .tuple #[.int .i64 0, .int .i64 0, .int .i64 7] from if_pos rfl)
      rw [HF.out]
      go_wp2_with fail
      go_ret3
      exact ⟨by rw [HEE.out, HF.out]; rfl, HB1.out⟩
    · have HF := hide (escV_yes (k := k) (r := (p, m)) rfl hm)
      rw [HF.out]
      clear hm
      go_wp2_with fail
      go_ret3
      exact ⟨by rw [HEE.out, HF.out]; rfl, HB1.out⟩
  · have t92 : ((x.toNat : Int) == 92) = false := by rw [beq_eq_false_iff_ne]; omega
    have HX := hide (show x ≠ 92 from fun h => h92 (by rw [h]; rfl))
    clear h92
    by_cases hlow : x.toNat < 32
    · have q1 : (x.toNat : Int) < 32 := by omega
      have HF := hide (signV_no (k := k) (D := l.drop k) (e := 7) (by rw [HE.out, Quo.sign_low _ HX.out (.inl hlow)]) (by rw [HE.out]; exact wrong_low _ (by omega)))
      clear hlow
      go_enter Tryd.func37, Tryd.ntmps37
      go_wp2_with fail
      go_ret3
      exact ⟨by rw [HF.out]; rfl, HB0.out⟩
    · have q1 : ¬ (x.toNat : Int) < 32 := by omega
      by_cases h34 : x.toNat = 34
      · have t34 : ((x.toNat : Int) == 34) = true := by rw [h34]; rfl
        have HF := hide (signV_no (k := k) (D := l.drop k) (e := 7) (by rw [HE.out, Quo.sign_low _ HX.out (.inr (UInt8.toNat_inj.1 (by rw [h34]; rfl)))]) (by rw [HE.out]; exact wrong_low _ (by omega)))
        clear hlow h34
        go_enter Tryd.func37, Tryd.ntmps37
        go_wp2_with fail
        go_ret3
        exact ⟨by rw [HF.out]; rfl, HB0.out⟩
      · have t34 : ((x.toNat : Int) == 34) = false := by rw [beq_eq_false_iff_ne]; omega
        have HS := hide (show Quo.sign (l.drop k) = Utf.dec (l.drop k) by rw [HE.out]; exact Quo.sign_dec _ HX.out (by rintro (h | h); exact hlow h; exact h34 (by rw [h]; rfl)))
        have HW := hide (show (Utf.dec (l.drop k)).2 = 0 → wrongE (l.drop k) = 110 from fun h => by
          rw [HE.out] at h ⊢
          by_cases h1 : x.toNat < 128
          · rw [dec_low _ h1] at h; cases h
          · exact wrong_high _ (by omega))
        clear hlow h34
        go_enter Tryd.func37, Tryd.ntmps37
        go_wp2_with fail
        refine Calls.mono (Next_any _ n c l (k : Int) _ HA.out hc hn HG.out) ?_
        rintro e w1 ⟨rfl, hb1⟩
        have HB1 := hide (below_then HB0.out hb1)
        clear hb1
        by_cases hm : (Utf.dec (l.drop k)).2 = 0
        · have HF := hide (signV_no (k := k) (D := l.drop k) (e := 110) (by rw [HS.out]; exact hm) (HW.out hm))
          rw [HNX.out, if_pos hm]
          unfold nextAtV
          dsimp only
          clear hm
          go_wp2_with fail
          go_ret3
          exact ⟨by rw [HF.out]; rfl, HB1.out⟩
        · have HF := hide (signV_yes (k := k) (D := l.drop k) (p := (Utf.dec (l.drop k)).1) (n := (Utf.dec (l.drop k)).2) (by rw [HS.out]) hm)
          rw [HNX.out, if_neg hm]
          unfold nextAtV
          dsimp only
          clear hm
          generalize (Utf.dec (l.drop k)).1 = p at *
          generalize (Utf.dec (l.drop k)).2 = m at *
          go_wp2_with fail
          go_ret3
          exact ⟨by rw [HF.out]; rfl, HB1.out⟩
/-- what Sign answers -/
def quoV (l : List UInt8) (at_ : Int) : Value :=
  if at_ < 0 ∨ (l.length : Int) < at_ then .tuple #[.int .i64 0, .int .i64 0, .int .i64 2]
  else if at_ = (l.length : Int) then .tuple #[.int .i64 0, .int .i64 0, .int .i64 6]
  else signV at_.toNat (l.drop at_.toNat)
theorem quoV_at {l : List UInt8} {k : Nat} (h : k < l.length) : quoV l (k : Int) = signV k (l.drop k) := by
  unfold quoV; rw [if_neg (by omega), if_neg (by omega), Int.toNat_natCast]
theorem signV_cases (k : Nat) (D : List UInt8) : (signV k D = .tuple #[.int .i64 0, .int .i64 0, .int .i64 (wrongE D)] ∧ (Quo.sign D).2 = 0) ∨ (∃ p n, Quo.sign D = (p, n) ∧ n ≠ 0 ∧ signV k D = .tuple #[.int .i64 (p : Int), .int .i64 ((k : Int) + (n : Int)), .int .i64 0]) := by
  by_cases h : (Quo.sign D).2 = 0
  · exact .inl ⟨signV_no h rfl, h⟩
  · exact .inr ⟨(Quo.sign D).1, (Quo.sign D).2, rfl, h, signV_yes rfl h⟩
set_option maxHeartbeats 4000000 in
theorem Sign_any (A : Option Addr) (n c : Nat) (l : List UInt8) (at_ : Int) (w : World) (hA : RB w A n l) (hc : n ≤ c) (hn : n ≤ 1048576) (hg : Gl w) :
    Calls Tryd.prog 17 #[.slice A n c, .int .i64 at_] w fun e w' => e = .returned (quoV l at_) ∧ Below w.heap.size w w' := by
  have hl := hA.len
  by_cases h0 : at_ < 0
  · have HF := hide (show quoV l at_ = .tuple #[.int .i64 0, .int .i64 0, .int .i64 2] by unfold quoV; rw [if_pos (Or.inl h0)])
    go_enter Tryd.func17, Tryd.ntmps17
    go_wp2
    go_ret3
    exact ⟨by rw [HF.out]; rfl, Below.refl _ _⟩
  · by_cases h1 : (n : Int) < at_
    · have HF := hide (show quoV l at_ = .tuple #[.int .i64 0, .int .i64 0, .int .i64 2] by unfold quoV; rw [if_pos (Or.inr (by omega))])
      go_enter Tryd.func17, Tryd.ntmps17
      go_wp2
      go_ret3
      exact ⟨by rw [HF.out]; rfl, Below.refl _ _⟩
    · by_cases h2 : at_ = (n : Int)
      · have HF := hide (show quoV l at_ = .tuple #[.int .i64 0, .int .i64 0, .int .i64 6] by unfold quoV; rw [if_neg (by omega), if_pos (by omega)])
        have ht : (at_ == (n : Int)) = true := by rw [beq_iff_eq]; exact h2
        clear h2
        go_enter Tryd.func17, Tryd.ntmps17
        go_wp2
        go_ret3
        exact ⟨by rw [HF.out]; rfl, Below.refl _ _⟩
      · obtain ⟨k, rfl⟩ : ∃ k : Nat, at_ = (k : Int) := ⟨at_.toNat, by omega⟩
        have ht : ((k : Int) == (n : Int)) = false := by rw [beq_eq_false_iff_ne]; exact h2
        have hk : k < n := by omega
        have HF := hide (quoV_at (l := l) (k := k) (by omega))
        have HS := hide (sign_any A n c k l w hA hc hn hk hg)
        clear h0 h2 hA hl hk
        go_enter Tryd.func17, Tryd.ntmps17
        go_wp2_with fail
        refine Calls.mono HS.out ?_
        rintro e w1 ⟨rfl, hb⟩
        rcases signV_cases k (l.drop k) with ⟨hv, _⟩ | ⟨p, m, _, _, hv⟩
        · rw [hv]
          have HV := hide hv
          clear hv
          generalize wrongE (l.drop k) = e at *
          go_wp2_with fail
          go_ret3
          exact ⟨by rw [HF.out, HV.out]; rfl, hb⟩
        · rw [hv]
          have HV := hide hv
          clear hv
          go_wp2_with fail
          go_ret3
          exact ⟨by rw [HF.out, HV.out]; rfl, hb⟩
end Go.Proofs.YtbnibiealnogdaaDoor
