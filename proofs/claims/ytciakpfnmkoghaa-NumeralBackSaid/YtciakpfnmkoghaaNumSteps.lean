/- Walks of the reader of numerals: sign, whole, fraction, exponent, steps. -/
import Derived.Test.YtciakpfnmkoghaaNumSome
namespace Go.Proofs.Ytciakpfnmkoghaa
open Go.RowKit
open Num (St isAt)

section
variable (g : Nat) (A : Option Addr) (n c : Nat) (l : List UInt8) (st : St) (w : World)

theorem sign_any (h : Rd w g A n c l st) :
    Calls Try.prog 28 #[.pointer (some ⟨g, 0, none⟩)] w (EndsAs g A n c l w (.ok (Num.sign l st))) := by
  go_enter Try.func28, Try.ntmps28
  go_wp2_with fail
  refine Calls.mono (takes_any g A n c l st (ByteArray.mk #[45]) _ h (by decide)) ?_
  rintro e w1 ⟨rfl, hr, hg⟩
  have h2 := hr.at2
  have hf := hr.free 2
  go_wp2_with fail
  go_end0
  exact ⟨hg.trans (grown_set _ _ _ _), rfl, hr.set 2 _ _ hr.place (by simp [rdObj, Num.sign])⟩

theorem whole_any (h : Rd w g A n c l st) :
    Calls Try.prog 29 #[.pointer (some ⟨g, 0, none⟩)] w (EndsAs g A n c l w (Num.whole l st)) := by
  have hmf : ∀ (fn : Fn) (first cap : Array Value) (w : World), (Instr.makeFunc fn first cap).run Try.prog w = .ok (.func fn first cap) w := fun _ _ _ _ => rfl
  by_cases hi : isAt l st.at_ [48] = true
  · have HI := hide hi
    clear hi
    go_enter Try.func29, Try.ntmps29
    go_wp2_with fail
    refine Calls.mono (takes_any g A n c l st (ByteArray.mk #[48]) _ h (by decide)) ?_
    rintro e w1 ⟨rfl, hr, hg⟩
    rw [show isAt l st.at_ (ByteArray.mk #[48]).data.toList = true from HI.out]
    go_wp2_with fail
    go_end0
    refine ⟨hg, ?_⟩
    unfold Num.whole
    rw [if_pos HI.out]
    refine ⟨rfl, ?_⟩
    have e : Num.take l (ByteArray.mk #[48]).data.toList st = Num.tick st := if_pos HI.out
    rw [← e]; exact hr
  · have HI := hide (Bool.eq_false_iff.2 hi)
    clear hi
    go_enter Try.func29, Try.ntmps29
    go_wp2_with fail
    refine Calls.mono (takes_any g A n c l st (ByteArray.mk #[48]) _ h (by decide)) ?_
    rintro e w1 ⟨rfl, hr, hg⟩
    rw [show isAt l st.at_ (ByteArray.mk #[48]).data.toList = false from HI.out]
    have e : Num.take l (ByteArray.mk #[48]).data.toList st = st := by unfold Num.take; rw [show isAt l st.at_ (ByteArray.mk #[48]).data.toList = false from HI.out]; rfl
    rw [e] at hr
    clear e
    go_wp2_with fail
    refine Calls.mono (some_grows g A n c l st _ hr) ?_
    rintro e w2 ⟨hg2, hm⟩
    have hn : Num.whole l st = Num.need Num.grow l st := by unfold Num.whole; rw [if_neg (by rw [HI.out]; simp)]
    have HN := hide hn
    clear hn
    generalize Num.need Num.grow l st = r at *
    cases r with
    | error k =>
      obtain ⟨rfl, hk⟩ := hm
      refine ⟨rfl, hg.trans hg2, ?_⟩
      rw [HN.out]
      exact ⟨rfl, hk⟩
    | ok st2 =>
      obtain ⟨rfl, hr2⟩ := hm
      go_wp2_with fail
      go_end0
      refine ⟨hg.trans hg2, ?_⟩
      rw [HN.out]
      exact ⟨rfl, hr2⟩

theorem fraction_any (h : Rd w g A n c l st) :
    Calls Try.prog 30 #[.pointer (some ⟨g, 0, none⟩)] w (EndsAs g A n c l w (Num.fraction l st)) := by
  by_cases hi : isAt l st.at_ [46] = true
  · have HI := hide hi
    clear hi
    go_enter Try.func30, Try.ntmps30
    go_wp2_with fail
    refine Calls.mono (takes_any g A n c l st (ByteArray.mk #[46]) _ h (by decide)) ?_
    rintro e w1 ⟨rfl, hr, hg⟩
    rw [show isAt l st.at_ (ByteArray.mk #[46]).data.toList = true from HI.out]
    have e : Num.take l (ByteArray.mk #[46]).data.toList st = Num.tick st := if_pos HI.out
    rw [e] at hr
    clear e
    have h5 := hr.at5
    have hf := hr.free 5
    go_wp2_with fail
    have hr1 : Rd (w1.setCell ⟨g, 5, none⟩ (.bool true)) g A n c l (Num.partly (Num.tick st)) := hr.set 5 _ _ hr.place (by simp [rdObj, Num.partly])
    refine Calls.mono (some_nothing g A n c l _ _ hr1) ?_
    rintro e w2 ⟨hg2, hm⟩
    have hn : Num.fraction l st = Num.need Num.skip l (Num.partly (Num.tick st)) := by unfold Num.fraction; rw [if_pos HI.out]
    have HN := hide hn
    have hgg := hg.trans (grown_set w1 g 5 (.bool true))
    clear hn hg
    generalize Num.need Num.skip l (Num.partly (Num.tick st)) = r at *
    cases r with
    | error k =>
      obtain ⟨rfl, hk⟩ := hm
      refine ⟨rfl, hgg.trans hg2, ?_⟩
      rw [HN.out]
      exact ⟨rfl, hk⟩
    | ok st2 =>
      obtain ⟨rfl, hr2⟩ := hm
      go_wp2_with fail
      go_end0
      refine ⟨hgg.trans hg2, ?_⟩
      rw [HN.out]
      exact ⟨rfl, hr2⟩
  · have HI := hide (Bool.eq_false_iff.2 hi)
    clear hi
    go_enter Try.func30, Try.ntmps30
    go_wp2_with fail
    refine Calls.mono (takes_any g A n c l st (ByteArray.mk #[46]) _ h (by decide)) ?_
    rintro e w1 ⟨rfl, hr, hg⟩
    rw [show isAt l st.at_ (ByteArray.mk #[46]).data.toList = false from HI.out]
    have e : Num.take l (ByteArray.mk #[46]).data.toList st = st := by unfold Num.take; rw [show isAt l st.at_ (ByteArray.mk #[46]).data.toList = false from HI.out]; rfl
    rw [e] at hr
    clear e
    go_wp2_with fail
    go_end0
    refine ⟨hg, ?_⟩
    unfold Num.fraction
    rw [if_neg (by rw [HI.out]; simp)]
    exact ⟨rfl, hr⟩

theorem exponent_any (h : Rd w g A n c l st) :
    Calls Try.prog 31 #[.pointer (some ⟨g, 0, none⟩)] w (EndsAs g A n c l w (Num.exponent l st)) := by
  by_cases hi : isAt l st.at_ [101, 69] = true
  · have HI := hide hi
    clear hi
    go_enter Try.func31, Try.ntmps31
    go_wp2_with fail
    refine Calls.mono (takes_any g A n c l st (ByteArray.mk #[101, 69]) _ h (by decide)) ?_
    rintro e w1 ⟨rfl, hr, hg⟩
    rw [show isAt l st.at_ (ByteArray.mk #[101, 69]).data.toList = true from HI.out]
    have e : Num.take l (ByteArray.mk #[101, 69]).data.toList st = Num.tick st := if_pos HI.out
    rw [e] at hr
    clear e
    have h5 := hr.at5
    have hf := hr.free 5
    go_wp2_with fail
    have hr1 : Rd (w1.setCell ⟨g, 5, none⟩ (.bool true)) g A n c l (Num.partly (Num.tick st)) := hr.set 5 _ _ hr.place (by simp [rdObj, Num.partly])
    have hgg := hg.trans (grown_set w1 g 5 (.bool true))
    refine Calls.mono (takes_any g A n c l _ (ByteArray.mk #[43, 45]) _ hr1 (by decide)) ?_
    rintro e w2 ⟨rfl, hr2, hg2⟩
    have hgg2 := hgg.trans hg2
    go_wp2_with fail
    refine Calls.mono (some_nothing g A n c l _ _ hr2) ?_
    rintro e w3 ⟨hg3, hm⟩
    have hn : Num.exponent l st = Num.need Num.skip l (Num.take l (ByteArray.mk #[43, 45]).data.toList (Num.partly (Num.tick st))) := by unfold Num.exponent; rw [if_pos HI.out]
    have HN := hide hn
    clear hn hg hgg hg2
    generalize Num.need Num.skip l _ = r at *
    cases r with
    | error k =>
      obtain ⟨rfl, hk⟩ := hm
      refine ⟨rfl, hgg2.trans hg3, ?_⟩
      rw [HN.out]
      exact ⟨rfl, hk⟩
    | ok st2 =>
      obtain ⟨rfl, hr3⟩ := hm
      go_wp2_with fail
      go_end0
      refine ⟨hgg2.trans hg3, ?_⟩
      rw [HN.out]
      exact ⟨rfl, hr3⟩
  · have HI := hide (Bool.eq_false_iff.2 hi)
    clear hi
    go_enter Try.func31, Try.ntmps31
    go_wp2_with fail
    refine Calls.mono (takes_any g A n c l st (ByteArray.mk #[101, 69]) _ h (by decide)) ?_
    rintro e w1 ⟨rfl, hr, hg⟩
    rw [show isAt l st.at_ (ByteArray.mk #[101, 69]).data.toList = false from HI.out]
    have e : Num.take l (ByteArray.mk #[101, 69]).data.toList st = st := by unfold Num.take; rw [show isAt l st.at_ (ByteArray.mk #[101, 69]).data.toList = false from HI.out]; rfl
    rw [e] at hr
    clear e
    go_wp2_with fail
    go_end0
    refine ⟨hg, ?_⟩
    unfold Num.exponent
    rw [if_neg (by rw [HI.out]; simp)]
    exact ⟨rfl, hr⟩
end

def stepsArr : Array Value := #[.func (.func 28) #[] #[], .func (.func 29) #[] #[], .func (.func 30) #[] #[], .func (.func 31) #[] #[]]
theorem steps_any (w : World) : Calls Try.prog 27 #[] w fun e w' => e = .returned (.agg stepsArr) ∧ Below w.heap.size w w' := by
  have hs : ∀ (cs : Array Value) (o : Nat) (F : Nat), o < cs.size → (store ⟨w.heap.size, o, none⟩ (.func (.func F) #[] #[])).run Try.prog (w.alloc (.cells cs 61)) = .ok () (w.alloc (.cells (cs.setIfInBounds o (.func (.func F) #[] #[])) 61)) := by
    intro cs o F ho
    rw [run_store _ _ _ _ _ rfl, cell_of_row _ _ _ _ _ _ (heap_alloc_new w _), frozen_of_row _ _ _ _ _ (heap_alloc_new w _), Array.getElem?_eq_getElem ho, World.setCell_alloc_new]; rfl
  have h0 := hs #[.nilFunc, .nilFunc, .nilFunc, .nilFunc] 0 28 (by decide)
  have h1 := hs #[.func (.func 28) #[] #[], .nilFunc, .nilFunc, .nilFunc] 1 29 (by decide)
  have h2 := hs #[.func (.func 28) #[] #[], .func (.func 29) #[] #[], .nilFunc, .nilFunc] 2 30 (by decide)
  have h3 := hs #[.func (.func 28) #[] #[], .func (.func 29) #[] #[], .func (.func 30) #[] #[], .nilFunc] 3 31 (by decide)
  clear hs
  go_enter Try.func27, Try.ntmps27
  go_wp2_with fail
  exact bodyPost_ret (v := .agg stepsArr) (results_cell_row rfl _ _ w.heap.size 61 stepsArr (0, 0) _ rfl (heap_alloc_new w _) Try.underlying61 rfl (by kernel_rfl)) rfl ⟨rfl, below_alloc _ _⟩
end Go.Proofs.Ytciakpfnmkoghaa
