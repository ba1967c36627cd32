/- The walks that look at one edit: may, May. -/
import Derived.Test.YtgliindhndcceaaMgEd
import Derived.Test.YtgliindhndcceaaMgKey
namespace Go.Proofs.Ytgliindhndcceaa
open Go.RowKit

/-- may an edit be? -/
def mayB (kn vn : Nat) (put int : Bool) (n : Int) : Bool := decide (1 ≤ kn ∧ kn ≤ 120 ∧ vn ≤ 100) && (int || decide (n = 0)) && (put || (decide (vn = 0) && !int))
def Ed.may (e : Ed) : Bool := mayB e.kn e.vn e.put e.int e.n
theorem mayB_no {kn vn : Nat} {put int : Bool} {n : Int} (h : ¬ (1 ≤ kn ∧ kn ≤ 120 ∧ vn ≤ 100)) : mayB kn vn put int n = false := by unfold mayB; rw [decide_eq_false h]; rfl
theorem mayB_n {kn vn : Nat} {put : Bool} {n : Int} (h : n ≠ 0) : mayB kn vn put false n = false := by unfold mayB; rw [decide_eq_false h]; simp
theorem mayB_yes {kn vn : Nat} {put int : Bool} {n : Int} (h : 1 ≤ kn ∧ kn ≤ 120 ∧ vn ≤ 100) (h2 : int = true ∨ n = 0) : mayB kn vn put int n = (put || (decide (vn = 0) && !int)) := by
  unfold mayB
  rw [decide_eq_true h]
  rcases h2 with rfl | rfl <;> simp
set_option maxHeartbeats 16000000 in
theorem may_any (e : Ed) (w : World) : Calls Try.prog 33 #[e.agg] w fun x w' => x = .returned (.bool e.may) ∧ Below w.heap.size w w' := by
  obtain ⟨kA, kn, kc, key, put, vA, vn, vc, val, int, n⟩ := e
  unfold Ed.may Ed.agg
  dsimp only
  by_cases h1 : kn < 1
  · have HF := hide (mayB_no (kn := kn) (vn := vn) (put := put) (int := int) (n := n) (by omega))
    go_enter Try.func33, Try.ntmps33
    go_wp2_with fail
    go_ret
    exact ⟨by rw [HF.out]; first | done | rfl, by first | exact Below.refl _ _ | exact below_alloc _ _⟩
  · by_cases h2 : 120 < kn
    · have HF := hide (mayB_no (kn := kn) (vn := vn) (put := put) (int := int) (n := n) (by omega))
      go_enter Try.func33, Try.ntmps33
      go_wp2_with fail
      go_ret
      exact ⟨by rw [HF.out]; first | done | rfl, by first | exact Below.refl _ _ | exact below_alloc _ _⟩
    · by_cases h3 : 100 < vn
      · have HF := hide (mayB_no (kn := kn) (vn := vn) (put := put) (int := int) (n := n) (by omega))
        go_enter Try.func33, Try.ntmps33
        go_wp2_with fail
        go_ret
        exact ⟨by rw [HF.out]; first | done | rfl, by first | exact Below.refl _ _ | exact below_alloc _ _⟩
      · cases int with
        | true =>
          have HF := hide (mayB_yes (kn := kn) (vn := vn) (put := put) (int := true) (n := n) (by omega) (.inl rfl))
          cases put with
          | true =>
              go_enter Try.func33, Try.ntmps33
              go_wp2_with fail
              go_ret
              exact ⟨by rw [HF.out]; first | done | rfl, by first | exact Below.refl _ _ | exact below_alloc _ _⟩
          | false =>
            by_cases h5 : vn = 0
            · subst h5
              go_enter Try.func33, Try.ntmps33
              go_wp2_with fail
              go_ret
              exact ⟨by rw [HF.out]; first | done | rfl, by first | exact Below.refl _ _ | exact below_alloc _ _⟩
            · have e5 : ((vn : Int) == 0) = false := by rw [beq_eq_false_iff_ne]; omega
              rw [decide_eq_false h5] at HF
              clear h5
              go_enter Try.func33, Try.ntmps33
              go_wp2_with fail
              go_ret
              exact ⟨by rw [HF.out]; first | done | rfl, by first | exact Below.refl _ _ | exact below_alloc _ _⟩
        | false =>
          by_cases h4 : n = 0
          · have e4 : (n != 0) = false := by rw [h4]; rfl
            have HF := hide (mayB_yes (kn := kn) (vn := vn) (put := put) (int := false) (n := n) (by omega) (.inr h4))
            clear h4
            cases put with
            | true =>
              go_enter Try.func33, Try.ntmps33
              go_wp2_with fail
              go_ret
              exact ⟨by rw [HF.out]; first | done | rfl, by first | exact Below.refl _ _ | exact below_alloc _ _⟩
            | false =>
              by_cases h5 : vn = 0
              · subst h5
                go_enter Try.func33, Try.ntmps33
                go_wp2_with fail
                go_ret
                exact ⟨by rw [HF.out]; first | done | rfl, by first | exact Below.refl _ _ | exact below_alloc _ _⟩
              · have e5 : ((vn : Int) == 0) = false := by rw [beq_eq_false_iff_ne]; omega
                rw [decide_eq_false h5] at HF
                clear h5
                go_enter Try.func33, Try.ntmps33
                go_wp2_with fail
                go_ret
                exact ⟨by rw [HF.out]; first | done | rfl, by first | exact Below.refl _ _ | exact below_alloc _ _⟩
          · have e4 : (n != 0) = true := by rw [bne_iff_ne]; exact h4
            have HF := hide (mayB_n (kn := kn) (vn := vn) (put := put) h4)
            clear h4
            go_enter Try.func33, Try.ntmps33
            go_wp2_with fail
            go_ret
            exact ⟨by rw [HF.out]; first | done | rfl, by first | exact Below.refl _ _ | exact below_alloc _ _⟩
set_option maxHeartbeats 16000000 in
theorem rmay_any (e : Ed) (w : World) : Calls Try.prog 36 #[e.agg] w fun x w' => x = .returned (.bool e.may) ∧ Below w.heap.size w w' := by
  obtain ⟨kA, kn, kc, key, put, vA, vn, vc, val, int, n⟩ := e
  unfold Ed.may Ed.agg
  dsimp only
  by_cases h1 : kn = 0
  · subst h1
    have HF := hide (mayB_no (kn := 0) (vn := vn) (put := put) (int := int) (n := n) (by omega))
    go_enter Try.func36, Try.ntmps36
    go_wp2_with fail
    go_ret
    exact ⟨by rw [HF.out]; first | done | rfl, by first | exact Below.refl _ _ | exact below_alloc _ _⟩
  · have e1 : ((kn : Int) == 0) = false := by rw [beq_eq_false_iff_ne]; omega
    have hk : 1 ≤ kn := by omega
    clear h1
    by_cases h2 : 120 < kn
    · have HF := hide (mayB_no (kn := kn) (vn := vn) (put := put) (int := int) (n := n) (by omega))
      go_enter Try.func36, Try.ntmps36
      go_wp2_with fail
      go_ret
      exact ⟨by rw [HF.out]; first | done | rfl, by first | exact Below.refl _ _ | exact below_alloc _ _⟩
    · by_cases h3 : 100 < vn
      · have HF := hide (mayB_no (kn := kn) (vn := vn) (put := put) (int := int) (n := n) (by omega))
        go_enter Try.func36, Try.ntmps36
        go_wp2_with fail
        go_ret
        exact ⟨by rw [HF.out]; first | done | rfl, by first | exact Below.refl _ _ | exact below_alloc _ _⟩
      · cases int with
        | true =>
          have HF := hide (mayB_yes (kn := kn) (vn := vn) (put := put) (int := true) (n := n) (by omega) (.inl rfl))
          cases put with
          | true =>
              go_enter Try.func36, Try.ntmps36
              go_wp2_with fail
              go_ret
              exact ⟨by rw [HF.out]; first | done | rfl, by first | exact Below.refl _ _ | exact below_alloc _ _⟩
          | false =>
            by_cases h5 : vn = 0
            · subst h5
              go_enter Try.func36, Try.ntmps36
              go_wp2_with fail
              go_ret
              exact ⟨by rw [HF.out]; first | done | rfl, by first | exact Below.refl _ _ | exact below_alloc _ _⟩
            · have e5 : ((vn : Int) == 0) = false := by rw [beq_eq_false_iff_ne]; omega
              rw [decide_eq_false h5] at HF
              clear h5
              go_enter Try.func36, Try.ntmps36
              go_wp2_with fail
              go_ret
              exact ⟨by rw [HF.out]; first | done | rfl, by first | exact Below.refl _ _ | exact below_alloc _ _⟩
        | false =>
          by_cases h4 : n = 0
          · have e4 : (n != 0) = false := by rw [h4]; rfl
            have HF := hide (mayB_yes (kn := kn) (vn := vn) (put := put) (int := false) (n := n) (by omega) (.inr h4))
            clear h4
            cases put with
            | true =>
              go_enter Try.func36, Try.ntmps36
              go_wp2_with fail
              go_ret
              exact ⟨by rw [HF.out]; first | done | rfl, by first | exact Below.refl _ _ | exact below_alloc _ _⟩
            | false =>
              by_cases h5 : vn = 0
              · subst h5
                go_enter Try.func36, Try.ntmps36
                go_wp2_with fail
                go_ret
                exact ⟨by rw [HF.out]; first | done | rfl, by first | exact Below.refl _ _ | exact below_alloc _ _⟩
              · have e5 : ((vn : Int) == 0) = false := by rw [beq_eq_false_iff_ne]; omega
                rw [decide_eq_false h5] at HF
                clear h5
                go_enter Try.func36, Try.ntmps36
                go_wp2_with fail
                go_ret
                exact ⟨by rw [HF.out]; first | done | rfl, by first | exact Below.refl _ _ | exact below_alloc _ _⟩
          · have e4 : (n != 0) = true := by rw [bne_iff_ne]; exact h4
            have HF := hide (mayB_n (kn := kn) (vn := vn) (put := put) h4)
            clear h4
            go_enter Try.func36, Try.ntmps36
            go_wp2_with fail
            go_ret
            exact ⟨by rw [HF.out]; first | done | rfl, by first | exact Below.refl _ _ | exact below_alloc _ _⟩
end Go.Proofs.Ytgliindhndcceaa
