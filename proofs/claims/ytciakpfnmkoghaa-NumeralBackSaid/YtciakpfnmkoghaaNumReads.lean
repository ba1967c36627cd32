/- Walks of the reader of numerals: the closure that recovers, reads. -/
import Derived.Test.YtciakpfnmkoghaaNumSteps
import Derived.Defers
import Derived.Recover
namespace Go.Proofs.Ytciakpfnmkoghaa
open Go.RowKit
open Num (St isAt)

theorem catch_panicking (p q : Addr) (x y : Int) (k : Int) (older : List PanicEntry) (w : World) (hc : w.cell? p = some (.int .i64 x)) (hz : w.frozen? p = false) (hc2 : w.cell? q = some (.int .i64 y)) (hz2 : w.frozen? q = false) (hpq : p ≠ q) :
    CallsD Try.prog 26 #[.pointer (some p), .pointer (some q)] (.panicking ({ v := .iface 58 (.int .i64 k), recovered := false } :: older)) w fun e u' w' =>
      e = .returned (.tuple #[]) ∧ u' = .panicking ({ v := .iface 58 (.int .i64 k), recovered := true } :: older) ∧ w' = (w.setCell p (.int .i64 k)).setCell q (.int .i64 7) := by
  have hta : ∀ W : World, (Instr.typeAssert (.iface 58 (.int .i64 k)) 20 58 true).run Try.prog W = .ok (.tuple #[.int .i64 k, .bool true]) W := fun _ => by kernel_rfl
  refine callsD_of_wpS Try.func26 rfl fun c₀ cs hu => ?_
  apply wpS_seq
  apply wpS_region
  simp [wpOpsS, go_sem, recoverD, hu, Try.ntmps26, Exit.thenS]
  refine wpS_of_wp ?_
  change Code.wp _ _ _ { tmps := #[.pointer (some p), .pointer (some q), .iface 58 (.int .i64 k), undef, undef, .iface 58 (.int .i64 k), undef, undef, undef, undef, undef, undef, undef, undef, undef, undef, undef], defers := [] } _
  go_wp2_with fail
  exact ⟨rfl, _, rfl, .tuple #[], by simp [results, Try.results26], rfl, rfl, rfl⟩

theorem catch_idle (p q : Addr) (w : World) :
    CallsD Try.prog 26 #[.pointer (some p), .pointer (some q)] .returning w fun e u' w' => e = .returned (.tuple #[]) ∧ u' = .returning ∧ w' = w := by
  refine callsD_of_wpS Try.func26 rfl fun c₀ cs hu => ?_
  apply wpS_seq
  apply wpS_region
  simp [wpOpsS, go_sem, recoverD, hu, Try.ntmps26, Exit.thenS]
  refine wpS_of_wp ?_
  change Code.wp _ _ _ { tmps := #[.pointer (some p), .pointer (some q), .nilIface, undef, undef, .nilIface, undef, undef, undef, undef, undef, undef, undef, undef, undef, undef, undef], defers := [] } _
  go_wp2_with fail
  cases c₀
  simp_all [bodyPostS, results, Try.results26]
/-- one step -/
def stepOf (l : List UInt8) (k : Nat) (st : St) : Except Nat St :=
  if k = 0 then .ok (Num.sign l st) else if k = 1 then Num.whole l st else if k = 2 then Num.fraction l st else Num.exponent l st
theorem rest_step (l : List UInt8) (k : Nat) (st : St) (hk : k < 4) : Num.rest l k st = (stepOf l k st).bind (Num.rest l (k + 1)) := by
  match k, hk with
  | 0, _ => rfl
  | 1, _ => rfl
  | 2, _ => rfl
  | 3, _ =>
    show Num.exponent l st = (Num.exponent l st).bind fun s => .ok s
    cases Num.exponent l st <;> rfl
theorem rest_end (l : List UInt8) (st : St) : Num.rest l 4 st = .ok st := rfl
def stepNo (k : Nat) : Nat := if k = 0 then 28 else if k = 1 then 29 else if k = 2 then 30 else 31
theorem step_any (k : Nat) (g : Nat) (A : Option Addr) (n c : Nat) (l : List UInt8) (st : St) (w : World) (h : Rd w g A n c l st) :
    Calls Try.prog (stepNo k) #[.pointer (some ⟨g, 0, none⟩)] w (EndsAs g A n c l w (stepOf l k st)) := by
  unfold stepNo stepOf
  split
  · exact sign_any g A n c l st w h
  · split
    · exact whole_any g A n c l st w h
    · split
      · exact fraction_any g A n c l st w h
      · exact exponent_any g A n c l st w h

/-- what reads leaves -/
def ReadsAs (g : Nat) (A : Option Addr) (n c : Nat) (l : List UInt8) (w : World) (r : Except Nat St) (e : Ending) (w' : World) : Prop :=
  Below g w w' ∧ match r with
    | .ok st => e = .returned (.tuple #[.int .i64 (st.at_ : Int), .int .i64 0]) ∧ Rd w' g A n c l st
    | .error k => e = .returned (.tuple #[.int .i64 (k : Int), .int .i64 7])

theorem grown_below {w w' : World} {g : Nat} (h : w.grownBy w' (some g)) (hg : g < w.heap.size) : Below g w w' := ⟨h.os, h.tape, h.output, h.size, fun k hk => h.block k (by omega) (fun e => by cases e; omega)⟩

theorem reads_any (g : Nat) (A : Option Addr) (n c : Nat) (l : List UInt8) (st : St) (w : World) (h : Rd w g A n c l st) :
    Calls Try.prog 20 #[.pointer (some ⟨g, 0, none⟩)] w (ReadsAs g A n c l w (Num.rest l 0 st)) := by
  have hmf : ∀ (fn : Fn) (first cap : Array Value) (w : World), (Instr.makeFunc fn first cap).run Try.prog w = .ok (.func fn first cap) w := fun _ _ _ _ => rfl
  have hg := h.lt
  have i0 : ∀ W : World, (Instr.index 61 (.agg #[.func (.func 28) #[] #[], .func (.func 29) #[] #[], .func (.func 30) #[] #[], .func (.func 31) #[] #[]]) (.int .i64 0)).run Try.prog W = .ok (.func (.func 28) #[] #[]) W := fun _ => by kernel_rfl
  have i1 : ∀ W : World, (Instr.index 61 (.agg #[.func (.func 28) #[] #[], .func (.func 29) #[] #[], .func (.func 30) #[] #[], .func (.func 31) #[] #[]]) (.int .i64 1)).run Try.prog W = .ok (.func (.func 29) #[] #[]) W := fun _ => by kernel_rfl
  have i2 : ∀ W : World, (Instr.index 61 (.agg #[.func (.func 28) #[] #[], .func (.func 29) #[] #[], .func (.func 30) #[] #[], .func (.func 31) #[] #[]]) (.int .i64 2)).run Try.prog W = .ok (.func (.func 30) #[] #[]) W := fun _ => by kernel_rfl
  have i3 : ∀ W : World, (Instr.index 61 (.agg #[.func (.func 28) #[] #[], .func (.func 29) #[] #[], .func (.func 30) #[] #[], .func (.func 31) #[] #[]]) (.int .i64 3)).run Try.prog W = .ok (.func (.func 31) #[] #[]) W := fun _ => by kernel_rfl
  go_enter_defers Try.func20, Try.ntmps20
  go_wp2_with fail
  refine Calls.mono (steps_any _) ?_
  rintro e w1 ⟨rfl, hb1⟩
  go_wp2_with fail
  unfold stepsArr
  have hlt1 : w.heap.size + 1 < w1.heap.size := by have := hb1.size; simp at this; omega
  have hbs := hb1.size
  have hbo := (below_alloc w (.cells #[.int .i64 0] 3)).alloc (by simp) (.cells #[.int .i64 0] 29)
  have HB := hide (hbo.trans (hb1.mono hbo.size))
  have c0 : w1.heap[w.heap.size]? = some (.cells #[.int .i64 0] 3 (0, 0)) := by rw [hb1.block _ (by simp; omega), heap_alloc_old _ _ (by simp), heap_alloc_new]
  have c1 : w1.heap[w.heap.size + 1]? = some (.cells #[.int .i64 0] 29 (0, 0)) := by rw [hb1.block _ (by simp)]; exact heap_at _ _ _ (by simp)
  have C0 := hide c0
  have C1 := hide c1
  have HR := hide (h.on (HB.out.mono hg))
  clear hb1 hbo c0 c1
  go_loopw [8] (fun t wr => ∃ (k : Nat) (st' : St), k ≤ 4 ∧ t = .int .i64 k ∧ Hid (Rd wr g A n c l st') ∧ Hid (Num.rest l k st' = Num.rest l 0 st) ∧ Hid (w1.grownBy wr (some g))) (fun t _ => 4 - (intOf t).toNat)
  case atStart => exact ⟨0, st, by omega, rfl, HR, hide rfl, hide (World.grownBy.refl _ _)⟩
  case round =>
    obtain ⟨k, st', hk, rfl, hr, hrest, hgr⟩ := hrel
    by_cases hlt : k < 4
    · have HS := hide (rest_step l k st' hlt)
      have HC := hide (step_any k g A n c l st' wr hr.out)
      have hcase : k = 0 ∨ k = 1 ∨ k = 2 ∨ k = 3 := by omega
      clear hk hlt
      rcases hcase with rfl | rfl | rfl | rfl
      all_goals
        go_wp2_with fail
        refine Calls.mono HC.out ?_
        rintro e w2 ⟨hg2, hm⟩
        have HG := hide (hgr.out.trans hg2)
        have hsz := hgr.out.size
        generalize stepOf l _ st' = r at *
        cases r with
        | error k2 =>
          obtain ⟨rfl, hk2⟩ := hm
          have hsz2 := HG.out.size
          have d0 : w2.heap[w.heap.size]? = some (.cells #[.int .i64 0] 3 (0, 0)) := by rw [HG.out.block _ (by omega) (fun e => by cases e; omega)]; exact C0.out
          have d1 : w2.heap[w.heap.size + 1]? = some (.cells #[.int .i64 0] 29 (0, 0)) := by rw [HG.out.block _ (by omega) (fun e => by cases e; omega)]; exact C1.out
          have e0 := cell_of_row _ _ 0 _ _ _ d0
          have e1 := cell_of_row _ _ 0 _ _ _ d1
          have f0 := frozen_of_row _ _ 0 _ _ d0
          have f1 := frozen_of_row _ _ 0 _ _ d1
          refine leaves_cons (f := 26) (args := #[.pointer (some ⟨w.heap.size, 0, none⟩), .pointer (some ⟨w.heap.size + 1, 0, none⟩)]) (by simp) (by simp [go_sem]) ?_
          refine (catch_panicking ⟨w.heap.size, 0, none⟩ ⟨w.heap.size + 1, 0, none⟩ 0 0 _ [] _ e0 f0 e1 f1 (by simp)).mono ?_
          rintro e u' w'' ⟨rfl, rfl, rfl⟩
          have r0 : ((w2.setCell ⟨w.heap.size, 0, none⟩ (.int .i64 (k2 : Int))).setCell ⟨w.heap.size + 1, 0, none⟩ (.int .i64 7)).cell? ⟨w.heap.size, 0, none⟩ = some (.int .i64 (k2 : Int)) := by
            rw [World.cell?_setCell_other _ _ _ _ (by simp)]; exact World.cell?_setCell_same _ _ _ e0
          have r1 : ((w2.setCell ⟨w.heap.size, 0, none⟩ (.int .i64 (k2 : Int))).setCell ⟨w.heap.size + 1, 0, none⟩ (.int .i64 7)).cell? ⟨w.heap.size + 1, 0, none⟩ = some (.int .i64 7) :=
            World.cell?_setCell_same (u := .int .i64 0) _ _ _ (by rw [World.cell?_setCell_other _ _ _ _ (by simp)]; exact e1)
          have HF := hide (show ReadsAs g A n c l w (Num.rest l 0 st) (.returned (.tuple #[.int .i64 (k2 : Int), .int .i64 7])) ((w2.setCell ⟨w.heap.size, 0, none⟩ (.int .i64 (k2 : Int))).setCell ⟨w.heap.size + 1, 0, none⟩ (.int .i64 7)) by
            refine ⟨(((HB.out.mono (by omega)).trans (grown_below HG.out (by omega))).setCell (by simp only []; omega) _).setCell (by simp only []; omega) _, ?_⟩
            rw [← hrest.out, HS.out]
            exact rfl)
          generalize (w2.setCell ⟨w.heap.size, 0, none⟩ (.int .i64 (k2 : Int))).setCell ⟨w.heap.size + 1, 0, none⟩ (.int .i64 7) = W at *
          simp [Leaves, settle, results, Try.results20, go_sem, r0, r1]
          exact HF.out
        | ok st2 =>
          obtain ⟨rfl, hr2⟩ := hm
          go_wp2_with fail
          go_roundw
          case rel =>
            have HQ : Num.rest l _ st2 = Num.rest l 0 st := HS.out.symm.trans hrest.out
            exact ⟨_, st2, by decide, by rfl, hide hr2, hide HQ, HG⟩
          case measure => simp [intOf]; try omega
    · obtain rfl : k = 4 := by omega
      clear hk hlt
      have h0 := hr.out.at0
      have d0 : wr.heap[w.heap.size]? = some (.cells #[.int .i64 0] 3 (0, 0)) := by rw [hgr.out.block _ (by omega) (fun e => by cases e; omega)]; exact C0.out
      have d1 : wr.heap[w.heap.size + 1]? = some (.cells #[.int .i64 0] 29 (0, 0)) := by rw [hgr.out.block _ (by omega) (fun e => by cases e; omega)]; exact C1.out
      have e0 := cell_of_row _ _ 0 _ _ _ d0
      have e1 := cell_of_row _ _ 0 _ _ _ d1
      have f0 := frozen_of_row _ _ 0 _ _ d0
      have f1 := frozen_of_row _ _ 0 _ _ d1
      go_wp2_with fail
      refine leaves_cons (f := 26) (args := #[.pointer (some ⟨w.heap.size, 0, none⟩), .pointer (some ⟨w.heap.size + 1, 0, none⟩)]) (by simp) (by simp [go_sem]) ?_
      refine (catch_idle ⟨w.heap.size, 0, none⟩ ⟨w.heap.size + 1, 0, none⟩ _).mono ?_
      rintro e u' w'' ⟨rfl, rfl, rfl⟩
      have hsz := hgr.out.size
      have r0 : ((wr.setCell ⟨w.heap.size, 0, none⟩ (.int .i64 (st'.at_ : Int))).setCell ⟨w.heap.size + 1, 0, none⟩ (.int .i64 0)).cell? ⟨w.heap.size, 0, none⟩ = some (.int .i64 (st'.at_ : Int)) := by
        rw [World.cell?_setCell_other _ _ _ _ (by simp)]; exact World.cell?_setCell_same _ _ _ e0
      have r1 : ((wr.setCell ⟨w.heap.size, 0, none⟩ (.int .i64 (st'.at_ : Int))).setCell ⟨w.heap.size + 1, 0, none⟩ (.int .i64 0)).cell? ⟨w.heap.size + 1, 0, none⟩ = some (.int .i64 0) :=
        World.cell?_setCell_same (u := .int .i64 0) _ _ _ (by rw [World.cell?_setCell_other _ _ _ _ (by simp)]; exact e1)
      have HF := hide (show ReadsAs g A n c l w (Num.rest l 0 st) (.returned (.tuple #[.int .i64 (st'.at_ : Int), .int .i64 0])) ((wr.setCell ⟨w.heap.size, 0, none⟩ (.int .i64 (st'.at_ : Int))).setCell ⟨w.heap.size + 1, 0, none⟩ (.int .i64 0)) by
        refine ⟨(((HB.out.mono (by omega)).trans (grown_below hgr.out (by omega))).setCell (by simp only []; omega) _).setCell (by simp only []; omega) _, ?_⟩
        rw [← hrest.out, rest_end]
        exact ⟨rfl, hr.out.on (((Below.refl _ _).setCell (by simp only []; omega) _).setCell (by simp only []; omega) _)⟩)
      generalize (wr.setCell ⟨w.heap.size, 0, none⟩ (.int .i64 (st'.at_ : Int))).setCell ⟨w.heap.size + 1, 0, none⟩ (.int .i64 0) = W at *
      simp [Leaves, settle, results, Try.results20, go_sem, r0, r1]
      exact HF.out
end Go.Proofs.Ytciakpfnmkoghaa
