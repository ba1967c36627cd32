/- The walk of utf's Next. -/
import Derived.Test.YtbnibiealnogdaaDoorUtfNext
namespace Go.Proofs.YtbnibiealnogdaaDoor
open Go.RowKit

/-- what Next answers: the code point, the place behind it, the error -/
def nextAt (l : List UInt8) (at_ : Int) : Int × Int × Int :=
  if at_ < 0 ∨ (l.length : Int) < at_ then (0, 0, 2)
  else if at_ = (l.length : Int) then (0, 0, 6)
  else if (Utf.dec (l.drop at_.toNat)).2 = 0 then (0, 0, 110)
  else (((Utf.dec (l.drop at_.toNat)).1 : Int), at_ + ((Utf.dec (l.drop at_.toNat)).2 : Int), 0)
def nextAtV (p : Int × Int × Int) : Value := .tuple #[.int .i64 p.1, .int .i64 p.2.1, .int .i64 p.2.2]
theorem dec_size (l : List UInt8) : (Utf.dec l).2 ≤ 4 ∧ (Utf.dec l).2 ≤ l.length := by
  by_cases h : (Utf.dec l).2 = 0
  · rw [h]; omega
  · obtain ⟨h1, h2, h3⟩ := Utf.enc_dec (l := l) (p := (Utf.dec l).1) (n := (Utf.dec l).2) rfl h
    have h4 := Utf.enc_len h1
    have h5 := Utf.sz_le ((Utf.dec l).1 : Int)
    rw [h3, List.length_take] at h4
    omega
theorem RB.behind {w : World} {b o n k : Nat} {l : List UInt8} (h : RB w (some ⟨b, o, none⟩) n l) (hk : k < n) : RB w (some ⟨b, o + k, none⟩) (n - k) (l.drop k) := by
  have := h.drop (k := k) (cap := n) (by omega) (Nat.le_refl _)
  rw [if_neg (by omega)] at this
  simpa [addr_add] using this
set_option maxHeartbeats 4000000 in
theorem Next_any (A : Option Addr) (n c : Nat) (l : List UInt8) (at_ : Int) (w : World) (hA : RB w A n l) (hc : n ≤ c) (hn : n ≤ 1048576) (hg : Gl w) :
    Calls Tryd.prog 51 #[.slice A n c, .int .i64 at_] w fun e w' => e = .returned (nextAtV (nextAt l at_)) ∧ Below w.heap.size w w' := by
  have hl := hA.len
  by_cases h0 : at_ < 0
  · have HF := hide (show nextAt l at_ = (0, 0, 2) by unfold nextAt; rw [if_pos (Or.inl h0)])
    go_enter Tryd.func51, Tryd.ntmps51
    go_wp2
    go_ret3
    exact ⟨by rw [HF.out]; rfl, Below.refl _ _⟩
  · by_cases h1 : (n : Int) < at_
    · have HF := hide (show nextAt l at_ = (0, 0, 2) by unfold nextAt; rw [if_pos (Or.inr (by omega))])
      go_enter Tryd.func51, Tryd.ntmps51
      go_wp2
      go_ret3
      exact ⟨by rw [HF.out]; rfl, Below.refl _ _⟩
    · by_cases h2 : at_ = (n : Int)
      · have HF := hide (show nextAt l at_ = (0, 0, 6) by unfold nextAt; rw [if_neg (by omega), if_pos (by omega)])
        have ht : (at_ == (n : Int)) = true := by rw [beq_iff_eq]; exact h2
        clear h2
        go_enter Tryd.func51, Tryd.ntmps51
        go_wp2
        go_ret3
        exact ⟨by rw [HF.out]; rfl, Below.refl _ _⟩
      · obtain ⟨k, rfl⟩ : ∃ k : Nat, at_ = (k : Int) := ⟨at_.toNat, by omega⟩
        have ht : ((k : Int) == (n : Int)) = false := by rw [beq_eq_false_iff_ne]; exact h2
        have hk : k < n := by omega
        have HD := hide (show nextAt l (k : Int) = if (Utf.dec (l.drop k)).2 = 0 then (0, 0, 110) else (((Utf.dec (l.drop k)).1 : Int), (k : Int) + ((Utf.dec (l.drop k)).2 : Int), 0) by
          unfold nextAt; rw [if_neg (by omega), if_neg (by omega), Int.toNat_natCast])
        obtain ⟨b, o, rfl, hbl, hcx⟩ := hA.cell (k := k) (by omega)
        clear hcx
        have HR := hide (hA.behind hk)
        have hck : ¬ c = k := by omega
        have hkn : (k : Int) ≤ (n : Int) := by omega
        have HSZ := hide (dec_size (l.drop k))
        have HG := hide hg
        have HK := hide hk
        clear h0 h1 h2 hA hl hk
        go_enter Tryd.func51, Tryd.ntmps51
        go_wp2_with fail
        refine Calls.mono (next_any _ (n - k) (c - k) (l.drop k) w HR.out (by have := HK.out; omega) (by omega) (by omega) HG.out) ?_
        rintro e w1 ⟨rfl, hb⟩
        cases hd : Utf.dec (l.drop k) with
        | mk p m =>
          rw [hd] at HD HSZ
          by_cases hm : m = 0
          · subst hm
            have HF := hide (show nextAt l (k : Int) = (0, 0, 110) by rw [HD.out, if_pos rfl])
            clear hd
            unfold nextV
            dsimp only
            go_wp2_with fail
            go_ret3
            exact ⟨by rw [HF.out]; rfl, hb⟩
          · have HF := hide (show nextAt l (k : Int) = ((p : Int), (k : Int) + (m : Int), 0) by rw [HD.out, if_neg hm])
            have hne : ((m : Int) == 0) = false := by rw [beq_eq_false_iff_ne]; omega
            have hw : wrap64 ((k : Int) + (m : Int)) = (k : Int) + (m : Int) := by have := HSZ.out; simp only at this; have := HK.out; unfold wrap64; omega
            clear hd hm
            unfold nextV
            dsimp only
            go_wp2_with fail
            go_ret3
            exact ⟨by rw [HF.out]; rfl, hb⟩
end Go.Proofs.YtbnibiealnogdaaDoor
