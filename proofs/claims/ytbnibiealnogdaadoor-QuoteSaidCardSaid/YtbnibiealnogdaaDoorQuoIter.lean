/- The contract of the function that quote's signs hands back: the signs from a place on, as long as there are some. -/
import Derived.Test.YtbnibiealnogdaaDoorQuoSign
import Derived.Test.YtbnibiealnogdaaDoorQuoLoop
namespace Go.Proofs.YtbnibiealnogdaaDoor
open Go.RowKit Go.Shelf Go.Sort
attribute [local go_sem] Oper.semAt_some

def oneV (A : Option Addr) (n c : Nat) : Value := .func (.func 37) #[.agg #[.slice A n c]] #[]
def signEnc (x : Nat × Nat) : Array Value := #[.int .i64 (x.1 : Int), .int .i64 (x.2 : Int)]
/-- what a round keeps for the function -/
def KQ (w0 : World) (Ba Be Bo : Nat) (W W' : World) : Prop :=
  (∀ v, Boxed W Ba 3 v → Boxed W' Ba 3 v) ∧ (∀ v, Boxed W Be 3 v → Boxed W' Be 3 v) ∧ (∀ v, Boxed W Bo 69 v → Boxed W' Bo 69 v) ∧ Below w0.heap.size W W'
theorem KQ.trans {w0 : World} {Ba Be Bo : Nat} {A B C : World} (h : KQ w0 Ba Be Bo A B) (k : KQ w0 Ba Be Bo B C) : KQ w0 Ba Be Bo A C :=
  ⟨fun v hv => k.1 v (h.1 v hv), fun v hv => k.2.1 v (h.2.1 v hv), fun v hv => k.2.2.1 v (h.2.2.1 v hv), h.2.2.2.trans k.2.2.2⟩
theorem boxed_below {W V : World} {B : Nat} {t : TypeId} {v : Value} (h : Boxed W B t v) (hb : Below W.heap.size W V) : Boxed V B t v := below_obj h hb
theorem boxed_set {W : World} {B : Nat} {t : TypeId} {v : Value} (h : Boxed W B t v) (u : Value) : Boxed (W.setCell ⟨B, 0, none⟩ u) B t u := set_cells h 0 u
theorem boxed_set_other {W : World} {B C : Nat} {t : TypeId} {v : Value} (h : Boxed W B t v) (hne : B ≠ C) (u : Value) : Boxed (W.setCell ⟨C, 0, none⟩ u) B t v := (Below.heap_setCell W ⟨C, 0, none⟩ u B (by simpa using hne)).trans h
theorem wrong_ne (D : List UInt8) : (wrongE D != 0) = true := by
  cases D with
  | nil => rfl
  | cons c t =>
    show ((if 128 ≤ c.toNat then (110 : Int) else 7) != 0) = true
    by_cases h : 128 ≤ c.toNat
    · rw [if_pos h]; rfl
    · rw [if_neg h]; rfl
def placeOf (W : World) (Ba : Nat) : Nat := (intOf ((W.cell? ⟨Ba, 0, none⟩).getD undef)).toNat
theorem placeOf_at {W : World} {Ba j : Nat} {t : TypeId} (h : Boxed W Ba t (.int .i64 (j : Int))) : placeOf W Ba = j := by
  unfold placeOf; rw [h.cell]; simp [intOf]
set_option maxRecDepth 100000 in
set_option maxHeartbeats 8000000 in
theorem signs_stops (m : Nat) (hm : 1 ≤ m) (w0 : World) (Ba Be Bo : Nat) (A : Option Addr) (n c start : Nat) (l : List UInt8) (w : World) (hA : RB w0 A n l) (hc : n ≤ c) (hn : n ≤ 1048576) (hst : start ≤ n) (hg : Gl w0)
    (hb : Below w0.heap.size w0 w) (hBa : w0.heap.size ≤ Ba) (hne : Be ≠ Ba) (hno : Bo ≠ Ba) (ha : Boxed w Ba 3 (.int .i64 (start : Int))) (he : Boxed w Be 3 (.int .i64 (n : Int))) (ho : Boxed w Bo 69 (oneV A n c)) :
    SeqBoxed m Tryd.prog 49 #[.pointer (some ⟨Ba, 0, none⟩), .pointer (some ⟨Be, 0, none⟩), .pointer (some ⟨Bo, 0, none⟩)] signEnc Ba (KQ w0 Ba Be Bo)
      (fun ys => ys = Quo.pairs start (l.drop start)) (fun pre => pre <+: Quo.pairs start (l.drop start)) n w := by
  intro y J Jx W hW hJb hJs hY h0
  have HL := hide hA.len
  have HA := hide hA
  have HG := hide hg
  have HJb := hide hJb
  have HJs := hide hJs
  have HY := hide hY
  have hpre0 := boxed_below ha hW
  have he0 := boxed_below he hW
  have ho0 := boxed_below ho hW
  have hb0 := hb.trans (hW.mono hb.size)
  clear hA hg hJb hJs hY ha he ho hb hW
  refine callsIn_of_wp Tryd.func49 rfl trivial ?_ rfl
  simp only [Tryd.ntmps49, List.size_toArray, List.length_cons, List.length_nil, Nat.reduceAdd, Nat.reduceSub, Array.replicate_succ, Array.replicate_zero, List.push_toArray, List.append_toArray, List.nil_append, List.cons_append]
  gi_wp2
  gi_loopw [5] (fun _ wr => ∃ (j : Nat) (pre : List (Nat × Nat)), j ≤ n ∧ pre.length ≤ j ∧ Hid (Boxed wr Ba 3 (.int .i64 (j : Int))) ∧ Hid (Boxed wr Be 3 (.int .i64 (n : Int))) ∧ Hid (Boxed wr Bo 69 (oneV A n c)) ∧
    Hid (pre ++ Quo.pairs j (l.drop j) = Quo.pairs start (l.drop start)) ∧ Hid (J pre wr) ∧ Hid (Below w0.heap.size w0 wr)) (fun _ wr => n - placeOf wr Ba)
  case atStart => exact ⟨start, [], hst, Nat.zero_le _, hide hpre0, hide he0, hide ho0, hide rfl, hide h0, hide hb0⟩
  case round =>
    obtain ⟨j, pre, hj, hpl, hba, hbe, hbo, hps, hJ, hbw⟩ := hrel
    have c1 := hba.out.cell
    have c2 := hbe.out.cell
    have c3 := hbo.out.cell
    unfold oneV at c3
    by_cases hlt : j < n
    · have hlt' : (j : Int) < (n : Int) := by omega
      have HS := hide (sign_any A n c j l wr (HA.out.on hbw.out) hc hn hlt (HG.out.on hbw.out))
      gi_wp2
      refine ⟨trivial, ?_⟩
      refine (callsIn_wide.2 HS.out).mono ?_
      rintro e V ⟨rfl, hbV⟩
      have hbaV := hide (boxed_below hba.out hbV)
      have hbeV := hide (boxed_below hbe.out hbV)
      have hboV := hide (boxed_below hbo.out hbV)
      have HJV := hide (HJb.out _ _ _ hJ.out hbV)
      have HBV := hide (below_then hbw.out hbV)
      clear hbV c1 c2 c3 HS
      rcases signV_cases j (l.drop j) with ⟨hv, hz⟩ | ⟨p, k, hs, hk, hv⟩
      · rw [hv]
        have HE := hide (show pre = Quo.pairs start (l.drop start) by rw [← hps.out, Quo.pairs_stop hz, List.append_nil])
        have hne0 := wrong_ne (l.drop j)
        clear hv hz
        generalize wrongE (l.drop j) = e at *
        gi_wp2
        refine ⟨fun f h => (by cases h), ?_⟩
        gi_wp2
        refine bodyPost_ret (results_none rfl _ _ _) rfl ?_
        exact ⟨⟨_, rfl⟩, .inl ⟨_, HE.out, HJV.out⟩⟩
      · have hst2 := (Quo.sign_stable hs hk).2.1
        rw [List.length_drop, HL.out] at hst2
        obtain ⟨q, hq⟩ : ∃ q : Nat, q = j + k := ⟨_, rfl⟩
        rw [hv, show (j : Int) + (k : Int) = (q : Int) by rw [hq]; rfl]
        have HQ := hide (show j < q ∧ q ≤ n by omega)
        have HPS := hide (show (pre ++ [(p, q)]) ++ Quo.pairs q (l.drop q) = Quo.pairs start (l.drop start) by
          rw [← hps.out, Quo.pairs_go hs hk, hq, List.drop_drop, List.append_assoc]; rfl)
        clear hv hs hk hst2 hq
        obtain ⟨fn, tmps, assign, body, hy, hR⟩ := HY.out pre (p, q) V HJV.out (by omega)
        unfold signEnc at hy
        dsimp only at hy
        gi_wp2
        refine hR.mono ?_
        rintro e W3 (⟨rfl, hJ3, hk3⟩ | ⟨rfl, hJx3⟩)
        · have hba3 := hk3.1 _ hbaV.out
          have hbe3 := hk3.2.1 _ hbeV.out
          have hbo3 := hk3.2.2.1 _ hboV.out
          have c1 := hba3.cell
          have f1 := hba3.frozen
          have HN := hide (show pre.length + 1 ≤ q by have := HQ.out; omega)
          have R1 := hide (boxed_set hba3 (.int .i64 (q : Int)))
          have R2 := hide (boxed_set_other hbe3 hne (.int .i64 (q : Int)))
          have R3 := hide (boxed_set_other hbo3 hno (.int .i64 (q : Int)))
          have R4 := hide (HJs.out _ _ (.int .i64 (q : Int)) hJ3)
          have R5 := hide ((HBV.out.trans hk3.2.2.2).setCell (p := ⟨Ba, 0, none⟩) hBa (.int .i64 (q : Int)))
          clear hJ3 hk3 hbe3 hbo3 hba3
          gi_wp2
          go_roundw
          case rel => exact ⟨q, pre ++ [(p, q)], HQ.out.2, by rw [List.length_append]; exact HN.out, R1, R2, R3, HPS, R4, R5⟩
          case measure => rw [placeOf_at R1.out, placeOf_at hba.out]; have := HQ.out; omega
        · gi_wp2
          refine bodyPost_ret (results_none rfl _ _ _) rfl ?_
          exact ⟨⟨_, rfl⟩, .inr ⟨pre ++ [(p, q)], by rw [← HPS.out]; exact List.prefix_append _ _, hJx3⟩⟩
    · obtain rfl : j = n := by omega
      have HE := hide (show pre = Quo.pairs start (l.drop start) by
        rw [← hps.out, List.drop_eq_nil_of_le (by rw [HL.out]; exact Nat.le_refl _), Quo.pairs_stop rfl, List.append_nil])
      gi_wp2
      go_end0
      exact ⟨⟨_, rfl⟩, .inl ⟨_, HE.out, hJ.out⟩⟩
/-- what signs hands back: the closure over three new boxes -/
theorem signs_any (A : Option Addr) (n c : Nat) (x y : Int) (w : World) : Calls Tryd.prog 36 #[oneV A n c, .int .i64 x, .int .i64 y] w fun e w' =>
    e = .returned (.func (.func 49) #[] #[.pointer (some ⟨w.heap.size + 1, 0, none⟩), .pointer (some ⟨w.heap.size + 2, 0, none⟩), .pointer (some ⟨w.heap.size, 0, none⟩)]) ∧
    w' = ((w.alloc (.cells #[oneV A n c] 69)).alloc (.cells #[.int .i64 x] 3)).alloc (.cells #[.int .i64 y] 3) := by
  have hmf : ∀ (fn : Fn) (first cap : Array Value) (w : World), (Instr.makeFunc fn first cap).run Tryd.prog w = .ok (.func fn first cap) w := fun _ _ _ _ => rfl
  unfold oneV
  go_enter Tryd.func36, Tryd.ntmps36
  go_wp2_with fail
  go_ret
  exact ⟨rfl, rfl⟩
end Go.Proofs.YtbnibiealnogdaaDoor
