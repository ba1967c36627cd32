/- The walk that puts a rest behind all. -/
import Derived.Test.YtgliindhndcceaaMgSwap
import Derived.Deep.RegionLaw
namespace Go.Proofs.Ytgliindhndcceaa
open Go.RowKit

/-- THE HEAP IN MEMORY while it grows: its row is the call's own. -/
def Hq (w : World) (F base : Nat) (H : List Rst) : Prop := ∃ v, w.heap[F]? = some (.cells #[v] 68 (0, 0)) ∧ w.ownsRow base 71 2 v H.length (cellsR H)
theorem rest_info : (Try.prog.info? 71).map (fun i => (i.zero, i.size, i.bytes)) = some (some (.agg #[.slice none 0 0, .int .i64 0]), 2, 32) := by kernel_rfl
theorem cellsR_one {l : List Rst} : ∀ u ∈ cellsR l, u.oneCell' = true := by
  intro u hu
  obtain ⟨e, _, he⟩ := List.mem_flatMap.1 hu
  simp only [Rst.cells, List.mem_cons, List.mem_nil_iff, or_false] at he
  rcases he with rfl | rfl <;> rfl
/-- an append whose run is known, as one step of a region that draws -/
theorem step_append_run {P : Program} {ops : Array Oper} {o : Oper} {a : Act} {w : World} {K : Act → World → Prop} {Q : Exit → Act → World → Prop} {E : Prop}
    (hg : o.guard = none) (s x : Operand) (tys : Array TypeId) (hop : o.op = Op.call { callee := Callee.builtin Builtin.append, args := #[s, x], argTypes := tys }) (v u r : Value) (w' : World) (hs : a.eval s = v) (hx : a.eval x = u)
    (hrun : (Builtin.append_ tys o.type #[v, u]).run P w = .ok r w') (hK : K (a.put o.dst r) w') :
    if Region.wanted o (yielded ops a.tmps) = true then Oper.wp P o a w K Q else E := by
  have hw : Region.wanted o (yielded ops a.tmps) = true := by simp [Region.wanted, hg]
  rw [if_pos hw]
  unfold Oper.wp
  simp [execOp, hop, resolve, invoke, builtin, hs, hx, hrun, Result.andThen]
  exact hK
theorem own_apart {w : World} {base F s n : Nat} {t t' : TypeId} {fr : Nat × Nat} {v : Value} {xs : List Value} {cs : Array Value} (h : w.ownsRow base t s v n xs) (hF : w.heap[F]? = some (.cells cs t' fr)) (ht : t ≠ t') :
    v.ownBlock = none ∨ v.ownBlock ≠ some F := by
  rcases h.2 with ⟨rfl, _⟩ | ⟨g, cap, cur, rfl, _, hg, _⟩
  · exact .inl rfl
  · right
    intro e
    simp only [Value.ownBlock, Option.some.injEq] at e
    rw [e, hF] at hg
    simp at hg
    exact ht hg.2.1.symm
set_option maxHeartbeats 8000000 in
theorem hpush_raw (F base : Nat) (H : List Rst) (r : Rst) (w : World) (h : Hq w F base H) (hl : H.length ≤ 100000) (hb : base ≤ w.heap.size) :
    Calls Try.prog 66 #[.pointer (some ⟨F, 0, none⟩), .iface 71 r.agg] w fun e w' => (∃ v, e = .returned v) ∧ Hq w' F base (H ++ [r]) ∧ (base ≤ F → Below base w w') := by
  obtain ⟨i0, hi, hz0, hz1, hz2⟩ := info_parts rest_info
  obtain ⟨v, hF, hown⟩ := h
  obtain ⟨v', W', hrun, hown', hgr, hor⟩ := run_append_reads (P := Try.prog) (w.alloc (.cells #[.slice r.A r.n r.c, .int .i64 (r.pl : Int)] 71)).drew base 64 64 71 i0 _ 2 32 Try.underlying64 hi hz0 hz1 hz2 rfl (by omega) v H.length (cellsR H) (hown.alloc _) (w.heap.size + 1) (some ⟨w.heap.size, 0, none⟩) 1 1 (cellsR [r]) (Reads.new w 71 _ #[.slice r.A r.n r.c, .int .i64 (r.pl : Int)] 1 2 (cellsR [r]) rfl (fun j u hu => by simpa [cellsR, Rst.cells] using hu)) cellsR_one (by unfold maxLen; omega) (by omega) (by simp; omega)
  have hta : ∀ W : World, (Instr.typeAssert (.iface 71 (.agg #[.slice r.A r.n r.c, .int .i64 (r.pl : Int)])) 20 71 false).run Try.prog W = .ok (.agg #[.slice r.A r.n r.c, .int .i64 (r.pl : Int)]) W := fun _ => by kernel_rfl
  have hFc := one_cell hF
  have hFf : w.frozen? ⟨F, 0, none⟩ = false := frozen_of_row _ _ _ _ _ hF
  have a1 := (behind hFc).1
  obtain ⟨A', c', rfl, hc', hm', hr'⟩ := own_slice hown'
  have hFW : W'.heap[F]? = some (.cells #[v] 68 (0, 0)) := by
    refine (hgr.block F (by simp [World.drew]; have := lt_cells hF; omega) (fun e => ?_)).trans (old_cells hF _)
    rcases own_apart hown hF (by decide) with h | h
    · rw [h] at e; cases e
    · exact h e.symm
  have b1 := one_cell hFW
  have b2 : W'.frozen? ⟨F, 0, none⟩ = false := frozen_of_row _ _ _ _ _ hFW
  have HF := hide hF
  have HFW := hide hFW
  have HO := hide hown
  have HO' := hide (And.intro hown' (And.intro hgr hor))
  have HR := hide hrun
  unfold Rst.agg
  clear hF hown hown' hgr hor hFW hrun hr' hc' hm'
  go_enter Try.func66, Try.ntmps66
  go_region_law (refine step_append_run rfl (.tmp 8) (.tmp 11) _ rfl v (.slice (some ⟨w.heap.size, 0, none⟩) 1 1) (.slice A' (H.length + 1) c') W' rfl rfl HR.out ?_)
  all_goals
    go_end0
    have hs := set_cells HFW.out 0 (.slice A' (H.length + 1) c')
    refine ⟨⟨_, rfl⟩, ⟨_, hs, ?_⟩, fun hbF => ?_⟩
    · rw [List.length_append, cellsR_append]
      exact HO'.out.1.kept (grown_setCell W' F 0 _) (own_apart HO'.out.1 HFW.out (by decide))
    · have hB := (((Below.refl base w).alloc hb (.cells #[.slice r.A r.n r.c, .int .i64 (r.pl : Int)] 71)).drew.grown HO'.out.2.1 (by simp [World.drew]; omega) fun j hj => (HO.out.lt j hj).1)
      exact grown_below (grown_setCell W' F 0 _) hbF (Nat.le_trans hb hB.size) |> fun h => hB.trans h
end Go.Proofs.Ytgliindhndcceaa
