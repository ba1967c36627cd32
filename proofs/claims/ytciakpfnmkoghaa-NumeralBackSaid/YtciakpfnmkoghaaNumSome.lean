/- Walks of the reader of numerals: grows, nothing, some. -/
import Derived.Test.YtciakpfnmkoghaaNumSees
import Derived.Test.YtciakpfnmkoghaaDag
import Derived.StillTailTactics
namespace Go.Proofs.Ytciakpfnmkoghaa
open Go.RowKit
open Num (St isAt)

theorem grow_wrap (V d : Nat) : IntKind.u64.wrap (IntKind.u64.wrap (10 * ((V : Int) % 18446744073709551616)) + (d : Int)) = (((10 * V + d) % 18446744073709551616 : Nat) : Int) := by
  unfold IntKind.wrap; simp [IntKind.signed, IntKind.bits]; omega
theorem grow_over (V d : Nat) (hd : d < 10) (h : (18446744073709551615 - (d : Int)) / 10 < (V : Int) % 18446744073709551616) : ov (10 * V + d) = true := by unfold ov; rw [decide_eq_true_eq]; omega
theorem grow_under (V d : Nat) (hd : d < 10) (h : ¬ (18446744073709551615 - (d : Int)) / 10 < (V : Int) % 18446744073709551616) : ov V = ov (10 * V + d) := by
  unfold ov; rw [decide_eq_decide]; omega

theorem grows_any (g : Nat) (A : Option Addr) (n c : Nat) (l : List UInt8) (st : St) (d : Nat) (w : World) (h : Rd w g A n c l st) (hd : d < 10) :
    Calls Try.prog 34 #[.pointer (some ⟨g, 0, none⟩), .int .u64 d] w fun e w' => e = .returned (.tuple #[]) ∧ Rd w' g A n c l (Num.grow st d) ∧ w.grownBy w' (some g) := by
  have h3 := h.at3
  have hf3 := h.free 3
  have hf4 := h.free 4
  have h4 := h.at4
  have hpl := h.place
  have HD := hide hd
  by_cases ho : (18446744073709551615 - (d : Int)) / 10 < (st.V : Int) % 18446744073709551616
  · have HO := hide (grow_over _ _ hd ho)
    go_enter Try.func34, Try.ntmps34
    go_wp2_with fail
    go_end0
    rw [grow_wrap]
    refine ⟨rfl, ⟨?_, (h.reads.setCell (Nat.le_refl _) _).setCell (Nat.le_refl _) _, h.size, h.cap, hpl⟩, (grown_set _ _ _ _).trans (grown_set _ _ _ _)⟩
    rw [heap_set _ _ _ _ _ _ _ (heap_set _ _ _ _ _ _ _ h.obj)]
    simp [rdObj, Num.grow, HO.out]
  · have HO := hide (grow_under _ _ hd ho)
    have HW := hide (show (10 * ((st.V : Int) % 18446744073709551616) + (d : Int)) = (((10 * st.V + d) % 18446744073709551616 : Nat) : Int) by omega)
    go_enter Try.func34, Try.ntmps34
    go_wp2_with fail
    go_end0
    rw [HW.out]
    refine ⟨rfl, ?_, grown_set _ _ _ _⟩
    refine h.set 3 _ _ hpl ?_
    simp [rdObj, Num.grow, ← HO.out]

theorem nothing_any (d : Int) (w : World) :
    Calls Try.prog 35 #[.int .u64 d] w fun e w' => e = .returned (.tuple #[]) ∧ w' = w := by
  go_enter Try.func35, Try.ntmps35
  go_wp2_with fail
  go_end0
  exact ⟨rfl, rfl⟩

/-- what a step of the reader leaves -/
def EndsAs (g : Nat) (A : Option Addr) (n c : Nat) (l : List UInt8) (w : World) (r : Except Nat St) (e : Ending) (w' : World) : Prop :=
  w.grownBy w' (some g) ∧ match r with
    | .ok st => e = .returned (.tuple #[]) ∧ Rd w' g A n c l st
    | .error k => e = .panicked [{ v := .iface 58 (.int .i64 (k : Int)), recovered := false }] ∧ k ≤ n

theorem some_any (F : Nat) (first : Array Value) (hcf : ∀ args (W : World), (callFunc F args).run Try.prog W = .ok (.enter F args) W) (f : St → Nat → St) (hf : ∀ st d, (f st d).at_ = st.at_) (g : Nat) (A : Option Addr) (n c : Nat) (l : List UInt8) (st : St) (w : World) (h : Rd w g A n c l st)
    (hto : ∀ (st : St) (d : Nat) (W : World), Rd W g A n c l st → d < 10 → Calls Try.prog F (first.push (.int .u64 d)) W fun e w' => e = .returned (.tuple #[]) ∧ Rd w' g A n c l (f st d) ∧ W.grownBy w' (some g)) :
    Calls Try.prog 33 #[.pointer (some ⟨g, 0, none⟩), .func (.func F) first #[]] w (EndsAs g A n c l w (Num.need f l st)) := by
  have hn := h.size
  by_cases hi : isAt l st.at_ Num.DIGITS = true
  · have HI := hide hi
    clear hi
    go_enter Try.func33, Try.ntmps33
    go_step3
    go_wp2_with fail
    refine Calls.mono (sees_any g A n c l st (ByteArray.mk #[48, 49, 50, 51, 52, 53, 54, 55, 56, 57]) _ h (by decide)) ?_
    rintro e w1 ⟨rfl, q, rfl⟩
    rw [show isAt l st.at_ (ByteArray.mk #[48, 49, 50, 51, 52, 53, 54, 55, 56, 57]).data.toList = true from HI.out]
    go_wp2
    go_step3
    go_wp2_with fail
    have HL := hide h.len
    go_loopw [13] (fun _ wr => ∃ st' : St, Hid (Rd wr g A n c l st') ∧ Hid (Num.fin f l st' = Num.fin f l st) ∧ Hid (w.grownBy wr (some g))) (fun _ wr => match wr.cell? ⟨g, 0, none⟩ with | some v => n - (intOf v).toNat | none => 0)
    case atStart => exact ⟨st, hide (h.drewN q), hide rfl, hide (grown_drewN w q _)⟩
    case round =>
      obtain ⟨st', hr, hfin, hgr⟩ := hrel
      by_cases hd : isAt l st'.at_ Num.DIGITS = true
      · have HD := hide hd
        clear hd
        go_wp2_with fail
        refine Calls.mono (takes_any g A n c l st' (ByteArray.mk #[48, 49, 50, 51, 52, 53, 54, 55, 56, 57]) _ hr.out (by decide)) ?_
        rintro e w2 ⟨rfl, hr2, hg2⟩
        rw [show isAt l st'.at_ (ByteArray.mk #[48, 49, 50, 51, 52, 53, 54, 55, 56, 57]).data.toList = true from HD.out]
        have hte : Num.take l (ByteArray.mk #[48, 49, 50, 51, 52, 53, 54, 55, 56, 57]).data.toList st' = Num.tick st' := by
          unfold Num.take
          rw [show isAt l st'.at_ (ByteArray.mk #[48, 49, 50, 51, 52, 53, 54, 55, 56, 57]).data.toList = true from HD.out, if_pos rfl]
        rw [hte] at hr2
        have hlt := Num.isAt_lt HD.out
        have hdb := Num.dig_bound hlt HD.out
        have HF := hide (Num.fin_step hf hlt HD.out)
        obtain ⟨b, o, rfl, hb, hc⟩ := hr2.byte hlt
        have c0 : w2.cell? ⟨g, 0, none⟩ = some (.int .i64 ((st'.at_ + 1 : Nat) : Int)) := hr2.at0
        have c1 : w2.cell? ⟨g, 1, none⟩ = some (.slice (some ⟨b, o, none⟩) n c) := hr2.at1
        have c2 : w2.cell? ⟨b, o + st'.at_, none⟩ = some (.int .u8 (l[st'.at_].toNat : Int)) := hc
        have hk : st'.at_ < n := by rw [← HL.out]; exact hlt
        have HC := hide (hto (Num.tick st') (l[st'.at_].toNat - 48) _ hr2.drew (by omega))
        have hu8 : IntKind.u8.wrap ((l[st'.at_].toNat : Int) - 48) = ((l[st'.at_].toNat - 48 : Nat) : Int) := by unfold IntKind.wrap; simp [IntKind.signed, IntKind.bits]; omega
        have hu64 : IntKind.u64.wrap ((l[st'.at_].toNat - 48 : Nat) : Int) = ((l[st'.at_].toNat - 48 : Nat) : Int) := by unfold IntKind.wrap; simp [IntKind.signed, IntKind.bits]; omega
        have hi64 : IntKind.i64.wrap ((st'.at_ : Nat) : Int) = ((st'.at_ : Nat) : Int) := by rw [IntKind.wrap_i64]; omega
        have hk0 : (0 : Int) ≤ (st'.at_ : Int) := by omega
        have hk1 : (st'.at_ : Int) < (n : Int) := by omega
        have HK := hide hte
        generalize hx : l[st'.at_].toNat = x at *
        clear hte hc hx
        go_wp2_with fail
        go_still_tail 15, (by kernel_rfl)
        change wpList _ _ _ _ _ w2.drew
        go_wp2_with fail
        refine Calls.mono HC.out ?_
        rintro e w3 ⟨rfl, hr3, hg3⟩
        go_wp2_with fail
        go_roundw
        case rel => exact ⟨_, hide hr3, hide (HF.out.trans hfin.out), hide (hgr.out.trans (hg2.trans ((grown_drewN w2 1 _).trans hg3)))⟩
        case measure =>
          have m3 := hr3.at0
          have m1 := hr.out.at0
          simp only [m3, m1, intOf, hf, Num.tick]; omega
      · have HD := hide (Bool.eq_false_iff.2 hd)
        clear hd
        go_wp2_with fail
        refine Calls.mono (takes_any g A n c l st' (ByteArray.mk #[48, 49, 50, 51, 52, 53, 54, 55, 56, 57]) _ hr.out (by decide)) ?_
        rintro e w2 ⟨rfl, hr2, hg2⟩
        rw [show isAt l st'.at_ (ByteArray.mk #[48, 49, 50, 51, 52, 53, 54, 55, 56, 57]).data.toList = false from HD.out]
        go_wp2
        rw [Exit.noGoto_normal]
        go_end0
        refine ⟨hgr.out.trans hg2, ?_⟩
        unfold Num.need
        rw [HI.out]
        refine ⟨rfl, ?_⟩
        rw [← hfin.out, Num.fin_end HD.out]
        have hte : Num.take l (ByteArray.mk #[48, 49, 50, 51, 52, 53, 54, 55, 56, 57]).data.toList st' = st' := by
          unfold Num.take
          rw [show isAt l st'.at_ (ByteArray.mk #[48, 49, 50, 51, 52, 53, 54, 55, 56, 57]).data.toList = false from HD.out]; rfl
        rw [← hte]
        exact hr2
  · have HI := hide (Bool.eq_false_iff.2 hi)
    clear hi
    go_enter Try.func33, Try.ntmps33
    go_step3
    go_wp2_with fail
    refine Calls.mono (sees_any g A n c l st (ByteArray.mk #[48, 49, 50, 51, 52, 53, 54, 55, 56, 57]) _ h (by decide)) ?_
    rintro e w1 ⟨rfl, q, rfl⟩
    rw [show isAt l st.at_ (ByteArray.mk #[48, 49, 50, 51, 52, 53, 54, 55, 56, 57]).data.toList = false from HI.out]
    have h0 := (h.drewN q).at0
    go_wp2
    refine ⟨rfl, grown_drewN w q _, ?_⟩
    unfold Num.need
    rw [HI.out]
    exact ⟨rfl, h.place⟩
theorem some_grows (g : Nat) (A : Option Addr) (n c : Nat) (l : List UInt8) (st : St) (w : World) (h : Rd w g A n c l st) :
    Calls Try.prog 33 #[.pointer (some ⟨g, 0, none⟩), .func (.func 34) #[.pointer (some ⟨g, 0, none⟩)] #[]] w (EndsAs g A n c l w (Num.need Num.grow l st)) :=
  some_any 34 _ (fun _ _ => rfl) Num.grow (fun _ _ => rfl) g A n c l st w h (fun st d W hr hd => grows_any g A n c l st d W hr hd)
theorem some_nothing (g : Nat) (A : Option Addr) (n c : Nat) (l : List UInt8) (st : St) (w : World) (h : Rd w g A n c l st) :
    Calls Try.prog 33 #[.pointer (some ⟨g, 0, none⟩), .func (.func 35) #[] #[]] w (EndsAs g A n c l w (Num.need Num.skip l st)) :=
  some_any 35 _ (fun _ _ => rfl) Num.skip (fun _ _ => rfl) g A n c l st w h (fun st d W hr _ => (nothing_any d W).mono fun e w' ⟨he, hw⟩ => ⟨he, by rw [hw]; exact hr, by rw [hw]; exact World.grownBy.refl _ _⟩)
end Go.Proofs.Ytciakpfnmkoghaa
