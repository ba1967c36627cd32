/- Walk of numeral.Read: it is Num.read. -/
import Derived.Test.YtciakpfnmkoghaaNumReads
namespace Go.Proofs.Ytciakpfnmkoghaa
open Go.RowKit
open Num (St isAt)

theorem ret3 {a b c : Int} {t : Int × Int × Int} (h : t = (a, b, c)) : Ending.returned (.tuple #[.int .i64 a, .int .i64 b, .int .i64 c]) = .returned (.tuple #[.int .i64 t.1, .int .i64 t.2.1, .int .i64 t.2.2]) := by
  subst h; rfl
theorem neg_back {V : Nat} (h : V ≤ 9223372036854775808) : wrap64 (IntKind.u64.wrap (-((V : Int) % 18446744073709551616))) = -(V : Int) := by
  unfold wrap64 IntKind.wrap; simp [IntKind.signed, IntKind.bits]; omega
theorem pos_back {V : Nat} (h : V ≤ 9223372036854775807) : (V : Int) % 18446744073709551616 = (V : Int) := by
  omega

theorem ov_eq (V : Nat) : (ov V = true) = (18446744073709551616 ≤ V) := by unfold ov; exact propext decide_eq_true_iff

theorem read_any (A : Option Addr) (n c : Nat) (l : List UInt8) (i : Int) (w : World) (h : RB w A n l) (hn : n ≤ 1048576) (hc : n ≤ c) (h0 : -9223372036854775808 ≤ i) (h1 : i ≤ 9223372036854775807) :
    Calls Try.prog 13 #[.slice A n c, .int .i64 i] w fun e w' => e = .returned (.tuple #[.int .i64 (Num.read l i).1, .int .i64 (Num.read l i).2.1, .int .i64 (Num.read l i).2.2]) ∧ Below w.heap.size w w' := by
  have hl := h.len
  by_cases hneg : i < 0
  · have HR := hide (show Num.read l i = (0, 0, 2) by unfold Num.read; rw [if_pos (Or.inl hneg)])
    go_enter Try.func13, Try.ntmps13
    go_wp2
    go_ret3
    exact ⟨by rw [HR.out]; rfl, Below.refl _ _⟩
  by_cases hbig : (n : Int) < i
  · have HR := hide (show Num.read l i = (0, 0, 2) by unfold Num.read; rw [if_pos (Or.inr (by omega))])
    have hneg' : ¬ i < 0 := by omega
    go_enter Try.func13, Try.ntmps13
    go_wp2
    go_ret3
    exact ⟨by rw [HR.out]; rfl, Below.refl _ _⟩
  obtain ⟨k, rfl⟩ : ∃ k : Nat, i = (k : Int) := ⟨i.toNat, by omega⟩
  have hk : k ≤ n := by omega
  have hrd : Rd (w.alloc (rdObj A n c ⟨k, false, 0, false⟩)) w.heap.size A n c l ⟨k, false, 0, false⟩ :=
    ⟨heap_alloc_new w _, Reads.alloc h (Nat.le_refl _) _, hn, hc, hk⟩
  have HRd := hide hrd
  have HX := hide (show Num.read l (k : Int) = match Num.rest l 0 ⟨k, false, 0, false⟩ with
    | .error j => (0, (j : Int), 7)
    | .ok st => if st.part = true ∨ Num.most st.minus < st.V then (0, (k : Int), 130) else (if st.minus then -(st.V : Int) else st.V, st.at_, 0) by
      unfold Num.read; rw [if_neg (by omega)]; rfl)
  have HH := hide h
  clear hrd h hneg hbig
  go_enter Try.func13, Try.ntmps13
  go_wp2_with fail
  refine Calls.mono (reads_any w.heap.size A n c l ⟨k, false, 0, false⟩ _ HRd.out) ?_
  rintro e w1 ⟨hb1, hm⟩
  have hbw := hide ((below_alloc w _).trans hb1)
  clear hb1 HRd
  generalize Num.rest l 0 ⟨k, false, 0, false⟩ = r at *
  cases r with
  | error j =>
    obtain rfl := hm
    go_wp2_with fail
    go_ret3
    exact ⟨by rw [HX.out]; rfl, hbw.out⟩
  | ok st =>
    obtain ⟨rfl, hr⟩ := hm
    have a2 := hr.at2
    have a3 := hr.at3
    have a4 := hr.at4
    have a5 := hr.at5
    go_wp2_with fail
    all_goals
      go_ret3
      refine ⟨ret3 (HX.out.trans ?_), hbw.out⟩
      clear HX hr a2 a3 a4 a5 hbw HH
      generalize st.minus = m at *
      generalize st.part = p at *
      generalize st.V = V at *
      generalize st.at_ = j at *
      clear st
      cases m <;> cases p <;> simp only [ov_eq, Num.most, Bool.false_eq_true, Bool.true_eq_false, ite_true, ite_false, true_or, false_or, not_true, not_false_iff] at *
      all_goals first
        | contradiction
        | rfl
        | (rw [if_pos (by omega)])
        | (rw [if_neg (by omega), neg_back (by omega)])
        | (rw [if_neg (by omega), pos_back (by omega)])
        | trace_state
end Go.Proofs.Ytciakpfnmkoghaa
