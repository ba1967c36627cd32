/- The walk of the library's Clone on slices of ints. -/
import Derived.Test.YtheoadempenpaaaDoorInts
import Derived.Test.YtheoadempenpaaaDoorDag
namespace Go.Proofs.YtheoadempenpaaaDoor
open Go.RowKit

theorem clone_ints (A : Option Addr) (n c : Nat) (l : List Int) (w : World) (hA : RI w A n l) (hn : n ≤ 1048576) :
    Calls Tryd.prog 22 #[.slice A n c] w fun e w' => ∃ v, e = .returned v ∧ w'.ownsRow w.heap.size 3 1 v n (ints l) ∧ Below w.heap.size w w' := by
  obtain ⟨i0, hi, hz0, hz1, hz2⟩ := info_parts i64_info
  have hq := fun W => Lib.run_eql_slice_nil (P := Tryd.prog) W 22 3 A n c 0 0 Tryd.underlying22
  cases A with
  | none =>
    have h0 : n = 0 := by
      rcases Nat.eq_zero_or_pos n with h | h
      · exact h
      · obtain ⟨b, o, h1, _⟩ := hA.2 h
        cases h1
    subst h0
    have hl : l = [] := List.eq_nil_of_length_eq_zero hA.len
    subst hl
    go_enter Tryd.func22, Tryd.ntmps22
    go_wp2
    go_ret
    exact ⟨_, rfl, World.ownsRow_nil _ _ _ _, Below.refl _ _⟩
  | some ad =>
    go_enter Tryd.func22, Tryd.ntmps22
    go_wp2_with (at_builtin; go_loud (refine wpList_append_reads rfl (.tmp 5) (.tmp 6) _ rfl w.heap.size 3 i0 (.int .i64 0) 1 8 Tryd.underlying22 hi hz0 hz1 hz2 rfl (by omega) (.slice (some ⟨w.heap.size, 0, none⟩) 0 0) 0 [] rfl (World.ownsRow_lit _ _ 0 (Nat.le_refl _) (by simp [maxLen]) rfl) w.heap.size (some ad) n c (ints l) rfl (hA.alloc (Nat.le_refl _) _) ints_one (by unfold maxLen; omega) (by omega) (by simp) ?_); intro v1 w1 hown1 hg1 hat1)
    go_ret
    refine ⟨v1, rfl, by simpa using hown1, (below_alloc w _).grown hg1 (by simp) fun k hk => ?_⟩
    simp [Value.ownBlock] at hk
    omega
/-- a slice that reads as ints -/
def Dag.RowI (l : List Int) : Value → World → Prop := fun v w => ∃ A n c, v = .slice A n c ∧ n ≤ c ∧ c ≤ maxLen ∧ RI w A n l
theorem Dag.Stable.rowI (l : List Int) : Dag.Stable (Dag.RowI l) := fun _ _ _ hb ⟨A, n, c, hv, hc, hm, hr⟩ => ⟨A, n, c, hv, hc, hm, hr.on hb⟩
end Go.Proofs.YtheoadempenpaaaDoor
