/- The bytes of what is known, in plain Lean, and the walks of doc's may, four, Encode. -/
import Derived.Test.YtmkkbomkonociaaDoorDocNext
namespace Go.Proofs.YtmkkbomkonociaaDoor
open Go.RowKit

structure Inf where
  gen : Nat
  mark : Nat
  seq : Nat
  del : Bool
  at_ : Int
def Inf.cells (i : Inf) : Array Value := #[.int .u32 (i.gen : Int), .int .u32 (i.mark : Int), .int .u64 (i.seq : Int), .bool i.del, .int .i64 i.at_]
/-- what fits its kinds -/
structure Inf.Ok (i : Inf) : Prop where
  gen : i.gen < 4294967296
  mark : i.mark < 4294967296
  seq : i.seq < 18446744073709551616
  lo : -9223372036854775808 ≤ i.at_
  hi : i.at_ ≤ 9223372036854775807
def mayB (i : Inf) : Bool := decide (i.gen ≠ 0) && (decide (1 ≤ i.seq) && decide (i.seq ≤ 1099511627776)) && (if i.del then decide (i.at_ = 0) else decide (1 ≤ i.at_) && decide (i.at_ < 524288))

theorem may_any (i : Inf) (hi : i.Ok) (w : World) : Calls Tryd.prog 22 #[.agg i.cells] w fun e w' => e = .returned (.bool (mayB i)) ∧ Below w.heap.size w w' := by
  obtain ⟨g, m, q, d, a⟩ := i
  have HI := hide hi
  clear hi
  have HM : Hid (mayB ⟨g, m, q, d, a⟩ = (decide (g ≠ 0) && (decide (1 ≤ q) && decide (q ≤ 1099511627776)) && (if d then decide (a = 0) else decide (1 ≤ a) && decide (a < 524288)))) := hide rfl
  unfold Inf.cells
  dsimp only
  by_cases h0 : g = 0
  · subst h0
    have HF := hide (show mayB ⟨0, m, q, d, a⟩ = false by rw [HM.out]; simp)
    go_enter Tryd.func22, Tryd.ntmps22
    go_wp2
    go_ret
    exact ⟨by rw [HF.out]; rfl, below_alloc _ _⟩
  · have hz : ((g : Int) == 0) = false := by rw [beq_eq_false_iff_ne]; omega
    by_cases hq1 : q < 1
    · have HF := hide (show mayB ⟨g, m, q, d, a⟩ = false by rw [HM.out, decide_eq_false (show ¬ 1 ≤ q by omega)]; simp)
      clear h0
      go_enter Tryd.func22, Tryd.ntmps22
      go_wp2
      go_ret
      exact ⟨by rw [HF.out]; rfl, below_alloc _ _⟩
    · by_cases hq2 : 1099511627776 < q
      · have HF := hide (show mayB ⟨g, m, q, d, a⟩ = false by rw [HM.out, decide_eq_false (show ¬ q ≤ 1099511627776 by omega)]; simp)
        clear h0
        go_enter Tryd.func22, Tryd.ntmps22
        go_wp2
        go_ret
        exact ⟨by rw [HF.out]; rfl, below_alloc _ _⟩
      · have HF := hide (show mayB ⟨g, m, q, d, a⟩ = (if d then decide (a = 0) else decide (1 ≤ a) && decide (a < 524288)) by rw [HM.out, decide_eq_true (show g ≠ 0 from h0), decide_eq_true (show 1 ≤ q by omega), decide_eq_true (show q ≤ 1099511627776 by omega)]; rfl)
        clear h0 HM
        cases d with
        | true =>
          go_enter Tryd.func22, Tryd.ntmps22
          go_wp2
          go_ret
          refine ⟨ret_bool ?_, below_alloc _ _⟩
          rw [HF.out]
          simp only [if_true]
          rw [Bool.eq_iff_iff]
          simp
        | false =>
          go_enter Tryd.func22, Tryd.ntmps22
          go_wp2
          all_goals
            go_ret
            refine ⟨ret_bool ?_, below_alloc _ _⟩
            rw [HF.out]
            simp
            try omega
/-- a number in four bytes, the highest first -/
def be4 (n : Nat) : List UInt8 := [UInt8.ofNat (n / 16777216), UInt8.ofNat (n / 65536), UInt8.ofNat (n / 256), UInt8.ofNat n]
theorem be4_cells (n : Nat) : [Value.int .u8 ((n : Int) / 16777216 % 256), .int .u8 ((n : Int) / 65536 % 256), .int .u8 ((n : Int) / 256 % 256), .int .u8 ((n : Int) % 256)] = bytes (be4 n) := by
  simp only [be4, bytes, List.map_cons, List.map_nil, u8_of]
  rfl

/-- THE WRITER IN BLOCK b HAS LAID l. -/
def Wr (W : World) (b : Nat) (l : List UInt8) : Prop := ∃ A c, W.heap[b]? = some (.cells #[.slice A l.length c] 65 (0, 0)) ∧ W.ownsRow (b + 1) 5 1 (.slice A l.length c) l.length (bytes l)
theorem Wr.lt {W : World} {b : Nat} {l : List UInt8} (h : Wr W b l) : b < W.heap.size := by
  obtain ⟨A, c, h1, _⟩ := h
  exact (Array.getElem?_eq_some_iff.1 h1).1
theorem Wr.on {W W' : World} {b : Nat} {l : List UInt8} (h : Wr W b l) (hb : Below W.heap.size W W') : Wr W' b l := by
  obtain ⟨A, c, h1, h2⟩ := h
  exact ⟨A, c, (hb.block b (Array.getElem?_eq_some_iff.1 h1).1).trans h1, own_on h2 hb⟩
theorem Wr.appended {W w1 : World} {b : Nat} {l m : List UInt8} {A : Option Addr} {c : Nat} {v : Value} {o : Obj}
    (h1 : W.heap[b]? = some (.cells #[.slice A l.length c] 65 (0, 0))) (h2 : W.ownsRow (b + 1) 5 1 (.slice A l.length c) l.length (bytes l))
    (h3 : w1.ownsRow (b + 1) 5 1 v (l.length + m.length) (bytes l ++ bytes m)) (hg : (W.alloc o).grownBy w1 (Value.slice A l.length c).ownBlock) :
    w1.heap[b]? = some (.cells #[.slice A l.length c] 65 (0, 0)) ∧ Wr (w1.setCell ⟨b, 0, none⟩ v) b (l ++ m) ∧ Below b W (w1.setCell ⟨b, 0, none⟩ v) := by
  have hlt := (Array.getElem?_eq_some_iff.1 h1).1
  have hne : some b ≠ (Value.slice A l.length c).ownBlock := fun e => by have := (h2.lt b e.symm).1; omega
  have q1 : w1.heap[b]? = some (.cells #[.slice A l.length c] 65 (0, 0)) := by
    rw [hg.block b (by simp; omega) hne, heap_alloc_old _ _ hlt]; exact h1
  obtain ⟨A', c', rfl, _, _, _⟩ := own_slice h3
  refine ⟨q1, ⟨A', c', ?_, ?_⟩, ?_⟩
  · rw [List.length_append]; exact heap_set _ _ _ _ _ _ _ q1
  · rw [List.length_append, bytes_append]
    refine h3.kept (row := some b) ⟨rfl, rfl, rfl, by simp [World.setCell], fun i _ hne => by
      simp only [World.setCell, Array.getElem?_modify]
      rw [if_neg (fun e => hne (by rw [e]))]⟩ ?_
    refine Or.inr fun e => ?_
    have := (h3.lt b e).1
    omega
  · refine (((Below.refl b W).alloc (by omega) o).grown hg (by simp; omega) fun i hi => ?_).setCell (p := ⟨b, 0, none⟩) (Nat.le_refl _) _
    have := (h2.lt i hi).1
    omega

theorem four_any (b n : Nat) (l : List UInt8) (w : World) (hn : n < 4294967296) (h : Wr w b l) (hl : l.length ≤ 1000) :
    Calls Tryd.prog 23 #[.pointer (some ⟨b, 0, none⟩), .int .u32 (n : Int)] w fun e w' => e = .returned (.tuple #[]) ∧ Wr w' b (l ++ be4 n) ∧ Below b w w' := by
  obtain ⟨i0, hi, hz0, hz1, hz2⟩ := info_parts u8_info
  have hlt := h.lt
  obtain ⟨A, c, h1, h2⟩ := h
  have H1 := hide h1
  have H2 := hide h2
  have c0 := cell_of_row _ _ 0 _ _ _ h1
  have f0 := frozen_of_row _ _ 0 _ _ h1
  have HN := hide hn
  clear h1 h2 hn
  go_enter Tryd.func23, Tryd.ntmps23
  go_wp2_with (at_builtin; refine wpList_append_reads rfl (.tmp 9) (.tmp 21) _ rfl (b + 1) 5 i0 (.int .u8 0) 1 1 Tryd.underlying37 hi hz0 hz1 hz2 rfl (by omega) (.slice A l.length c) l.length (bytes l) rfl (H2.out.alloc _) _ (some ⟨w.heap.size, 0, none⟩) 4 4 (bytes (be4 n)) rfl (RB.lit w 5 (fr := (0, 0)) _ (be4 n) 4 rfl (be4_cells n)) bytes_one (by unfold maxLen; omega) (by omega) (by simp; omega) ?_; intro v2 w2 hown2 hg2 hat2; obtain ⟨q1, q2, q3⟩ := Wr.appended (m := be4 n) H1.out H2.out hown2 hg2; have c1 := cell_of_row _ _ 0 _ _ _ q1; have f1 := frozen_of_row _ _ 0 _ _ q1; have Q := hide (And.intro q2 q3); clear q1 q2 q3; obtain ⟨A2, c2, rfl, hc2, hm2, hr2⟩ := own_slice hown2)
  go_end0
  exact ⟨rfl, Q.out.1, Q.out.2⟩
/-- the bytes of what is known -/
def infBytes (i : Inf) : List UInt8 := be4 i.gen ++ be4 i.mark ++ be4 (i.seq / 4294967296) ++ be4 (i.seq % 4294967296) ++ [if i.del then 1 else 0] ++ be4 i.at_.toNat
def EncAs (i : Inf) (w : World) (e : Ending) (w' : World) : Prop :=
  Below w.heap.size w w' ∧ if mayB i then (∃ A c, e = .returned (.tuple #[.slice A 21 c, .int .i64 0]) ∧ 21 ≤ c ∧ c ≤ maxLen ∧ RB w' A 21 (infBytes i)) else e = .returned (.tuple #[.slice none 0 0, .int .i64 292])

/-- a block of five cells -/
theorem five_on {W W' : World} {b B : Nat} {t : TypeId} {cs : Array Value} (h : W.heap[b]? = some (.cells cs t (0, 0))) (hb : Below B W W') (hl : b < B) : W'.heap[b]? = some (.cells cs t (0, 0)) := (hb.block b hl).trans h

set_option maxHeartbeats 4000000 in
theorem encode_any (i : Inf) (hi : i.Ok) (w : World) : Calls Tryd.prog 9 #[.agg i.cells] w (EncAs i w) := by
  have HI := hide hi
  have hmf : ∀ (fn : Fn) (first cap : Array Value) (w : World), (Instr.makeFunc fn first cap).run Tryd.prog w = .ok (.func fn first cap) w := fun _ _ _ _ => rfl
  obtain ⟨i0, hti, hz0, hz1, hz2⟩ := info_parts u8_info
  have HMAY := hide (may_any i hi)
  obtain ⟨g, m, q, d, a⟩ := i
  unfold Inf.cells at *
  dsimp only at *
  cases hm : mayB ⟨g, m, q, d, a⟩ with
  | false =>
    have HM := hide hm
    clear hi hm
    go_enter Tryd.func9, Tryd.ntmps9
    go_wp2_with fail
    refine Calls.mono (HMAY.out _) ?_
    rintro e w1 ⟨rfl, hb1⟩
    rw [HM.out]
    go_wp2_with fail
    go_ret2
    refine ⟨below_then (below_alloc w _) hb1, ?_⟩
    rw [HM.out]
    exact rfl
  | true =>
  have HM := hide hm
  have hq : q ≤ 1099511627776 ∧ 1 ≤ q := by
    unfold mayB at hm
    simp only [Bool.and_eq_true, decide_eq_true_eq] at hm
    exact ⟨hm.1.2.2, hm.1.2.1⟩
  have ha : 0 ≤ a ∧ a < 524288 := by
    unfold mayB at hm
    simp only [Bool.and_eq_true] at hm
    have h2 := hm.2
    cases d
    · simp only [Bool.false_eq_true, ite_false, Bool.and_eq_true, decide_eq_true_eq] at h2; omega
    · simp only [ite_true, decide_eq_true_eq] at h2; omega
  obtain ⟨a, rfl⟩ : ∃ k : Nat, a = (k : Int) := ⟨a.toNat, by omega⟩
  have HQ := hide hq
  have HA := hide ha
  have hcv1 : IntKind.u32.wrap ((q : Int) / 4294967296) = ((q / 4294967296 : Nat) : Int) := by unfold IntKind.wrap; simp [IntKind.signed, IntKind.bits]; omega
  have hcv2 : IntKind.u32.wrap (q : Int) = ((q % 4294967296 : Nat) : Int) := by unfold IntKind.wrap; simp [IntKind.signed, IntKind.bits]
  have hcv3 : IntKind.u32.wrap (a : Int) = (a : Int) := by unfold IntKind.wrap; simp [IntKind.signed, IntKind.bits]; omega
  clear hi hm hq ha
  go_enter Tryd.func9, Tryd.ntmps9
  go_wp2_with fail
  refine Calls.mono (HMAY.out _) ?_
  rintro e w1 ⟨rfl, hb1⟩
  rw [HM.out]
  have HB0 := hide (below_then (below_alloc w _) hb1)
  have hsz : w.heap.size + 1 ≤ w1.heap.size := by have := hb1.size; simpa using this
  have G0 := hide (((hb1.block w.heap.size (by simp)).trans (heap_alloc_new w _)))
  clear hb1
  have hlt : w.heap.size < w1.heap.size := by omega
  have HW0 : Hid (Wr (w1.alloc (.cells #[.slice none 0 0] 65)) w1.heap.size []) := hide ⟨none, 0, heap_alloc_new w1 _, World.ownsRow_nil _ _ _ _⟩
  have HB1' := hide (HB0.out.trans ((below_alloc w1 (.cells #[.slice none 0 0] 65)).mono (by omega)))
  have G0' := hide ((heap_alloc_old w1 (.cells #[.slice none 0 0] 65) hlt).trans G0.out)
  have e00 := cell_of_row _ _ 0 _ _ _ G0.out
  have e01 := cell_of_row _ _ 1 _ _ _ G0.out
  have e02 := cell_of_row _ _ 2 _ _ _ G0.out
  have e03 := cell_of_row _ _ 3 _ _ _ G0.out
  have e04 := cell_of_row _ _ 4 _ _ _ G0.out
  go_wp2_with fail
  refine Calls.mono (four_any w1.heap.size (g) ([]) _ HI.out.gen HW0.out (by simp)) ?_
  rintro e v1 ⟨rfl, hw, hb⟩
  have HW1 := hide hw
  have HB1 := hide (HB1'.out.trans (hb.mono (by omega)))
  have G1 := hide (five_on G0'.out hb (by omega))
  clear hw hb
  clear e00 e01 e02 e03 e04
  have e10 := cell_of_row _ _ 0 _ _ _ G1.out
  have e11 := cell_of_row _ _ 1 _ _ _ G1.out
  have e12 := cell_of_row _ _ 2 _ _ _ G1.out
  have e13 := cell_of_row _ _ 3 _ _ _ G1.out
  have e14 := cell_of_row _ _ 4 _ _ _ G1.out
  go_wp2_with fail
  refine Calls.mono (four_any w1.heap.size (m) (be4 g) _ HI.out.mark (by have := HW1.out; rwa [List.nil_append] at this) (by simp [be4])) ?_
  rintro e v2 ⟨rfl, hw, hb⟩
  have HW2 := hide hw
  have HB2 := hide (HB1.out.trans (hb.mono (by omega)))
  have G2 := hide (five_on G1.out hb (by omega))
  clear hw hb
  clear e10 e11 e12 e13 e14
  have e20 := cell_of_row _ _ 0 _ _ _ G2.out
  have e21 := cell_of_row _ _ 1 _ _ _ G2.out
  have e22 := cell_of_row _ _ 2 _ _ _ G2.out
  have e23 := cell_of_row _ _ 3 _ _ _ G2.out
  have e24 := cell_of_row _ _ 4 _ _ _ G2.out
  go_wp2_with fail
  refine Calls.mono (four_any w1.heap.size (q / 4294967296) (be4 g ++ be4 m) _ (by have := HQ.out; omega) HW2.out (by simp [be4])) ?_
  rintro e v3 ⟨rfl, hw, hb⟩
  have HW3 := hide hw
  have HB3 := hide (HB2.out.trans (hb.mono (by omega)))
  have G3 := hide (five_on G2.out hb (by omega))
  clear hw hb
  clear e20 e21 e22 e23 e24
  have e30 := cell_of_row _ _ 0 _ _ _ G3.out
  have e31 := cell_of_row _ _ 1 _ _ _ G3.out
  have e32 := cell_of_row _ _ 2 _ _ _ G3.out
  have e33 := cell_of_row _ _ 3 _ _ _ G3.out
  have e34 := cell_of_row _ _ 4 _ _ _ G3.out
  go_wp2_with fail
  refine Calls.mono (four_any w1.heap.size (q % 4294967296) (be4 g ++ be4 m ++ be4 (q / 4294967296)) _ (by omega) HW3.out (by simp [be4])) ?_
  rintro e v4 ⟨rfl, hw, hb⟩
  have HW4 := hide hw
  have HB4 := hide (HB3.out.trans (hb.mono (by omega)))
  have G4 := hide (five_on G3.out hb (by omega))
  clear hw hb
  clear e30 e31 e32 e33 e34
  have e40 := cell_of_row _ _ 0 _ _ _ G4.out
  have e41 := cell_of_row _ _ 1 _ _ _ G4.out
  have e42 := cell_of_row _ _ 2 _ _ _ G4.out
  have e43 := cell_of_row _ _ 3 _ _ _ G4.out
  have e44 := cell_of_row _ _ 4 _ _ _ G4.out
  have hs4 := HB4.out.size
  obtain ⟨A, c, h1, h2⟩ := HW4.out
  have K1 := hide h1
  have K2 := hide h2
  have hl4 : w1.heap.size < v4.heap.size := HW4.out.lt
  clear h1 h2
  cases d with
  | true =>
    have k0 := cell_of_row _ _ 0 _ _ _ K1.out
    have kf := frozen_of_row _ _ 0 _ _ K1.out
    go_wp2_with (at_builtin; refine wpList_append_reads rfl (.tmp 42) (.tmp 44) _ rfl (w1.heap.size + 1) 5 i0 (.int .u8 0) 1 1 Tryd.underlying37 hti hz0 hz1 hz2 rfl (by omega) (.slice A 16 c) 16 (bytes (be4 g ++ be4 m ++ be4 (q / 4294967296) ++ be4 (q % 4294967296))) rfl (K2.out.alloc _) _ (some ⟨v4.heap.size, 0, none⟩) 1 1 (bytes [1]) rfl (Reads.one _ _ _) bytes_one (by unfold maxLen; omega) (by omega) (by simp; omega) ?_; intro v5 w5 hown5 hg5 hat5; obtain ⟨q1, q2, q3⟩ := Wr.appended (l := be4 g ++ be4 m ++ be4 (q / 4294967296) ++ be4 (q % 4294967296)) (m := [1]) K1.out K2.out hown5 hg5; have k1 := cell_of_row _ _ 0 _ _ _ q1; have kf1 := frozen_of_row _ _ 0 _ _ q1; have G5 := hide (five_on G4.out q3 (by omega)); have QW := hide q2; have QB := hide (HB4.out.trans (q3.mono (by omega))); clear q1 q2 q3 e40 e41 e42 e43 e44; obtain ⟨A5, c5, rfl, hc5, hm5, hr5⟩ := own_slice hown5; clear hown5 hg5 hat5 hr5; have e54 := cell_of_row _ _ 4 _ _ _ G5.out; generalize hV : w5.setCell ⟨w1.heap.size, 0, none⟩ (.slice A5 (16 + 1) c5) = v5 at *)
    clear hV k1 kf1
    refine Calls.mono (four_any w1.heap.size a (be4 g ++ be4 m ++ be4 (q / 4294967296) ++ be4 (q % 4294967296) ++ [1]) _ (by have := HA.out; omega) QW.out (by simp [be4])) ?_
    rintro e v6 ⟨rfl, hw, hb⟩
    obtain ⟨A6, c6, h61, h62⟩ := hw
    have HRB := hide (show RB v6 A6 21 (be4 g ++ be4 m ++ be4 (q / 4294967296) ++ be4 (q % 4294967296) ++ [1] ++ be4 a) from Reads.of_own h62)
    have HB6 := hide (QB.out.trans (hb.mono (by omega)))
    have HCC := hide (show 21 ≤ c6 ∧ c6 ≤ maxLen by
      obtain ⟨A', c', he, hc', hm', _⟩ := own_slice h62
      injection he with _ _ he
      subst he
      exact ⟨hc', hm'⟩)
    have z0 := cell_of_row _ _ 0 _ _ _ h61
    clear hb h61 h62 e54 G5 QW QB K1 K2 k0 kf HW1 HW2 HW3 HW4 G0 G0' G1 G2 G3 G4 HB0 HB1 HB1' HB2 HB3 HB4
    go_wp2_with fail
    go_ret2
    refine ⟨HB6.out, ?_⟩
    rw [HM.out]
    refine ⟨A6, c6, rfl, HCC.out.1, HCC.out.2, ?_⟩
    exact HRB.out
  | false =>
    have k0 := cell_of_row _ _ 0 _ _ _ K1.out
    have kf := frozen_of_row _ _ 0 _ _ K1.out
    go_wp2_with (at_builtin; refine wpList_append_reads rfl (.tmp 42) (.tmp 44) _ rfl (w1.heap.size + 1) 5 i0 (.int .u8 0) 1 1 Tryd.underlying37 hti hz0 hz1 hz2 rfl (by omega) (.slice A 16 c) 16 (bytes (be4 g ++ be4 m ++ be4 (q / 4294967296) ++ be4 (q % 4294967296))) rfl (K2.out.alloc _) _ (some ⟨v4.heap.size, 0, none⟩) 1 1 (bytes [0]) rfl (Reads.one _ _ _) bytes_one (by unfold maxLen; omega) (by omega) (by simp; omega) ?_; intro v5 w5 hown5 hg5 hat5; obtain ⟨q1, q2, q3⟩ := Wr.appended (l := be4 g ++ be4 m ++ be4 (q / 4294967296) ++ be4 (q % 4294967296)) (m := [0]) K1.out K2.out hown5 hg5; have k1 := cell_of_row _ _ 0 _ _ _ q1; have kf1 := frozen_of_row _ _ 0 _ _ q1; have G5 := hide (five_on G4.out q3 (by omega)); have QW := hide q2; have QB := hide (HB4.out.trans (q3.mono (by omega))); clear q1 q2 q3 e40 e41 e42 e43 e44; obtain ⟨A5, c5, rfl, hc5, hm5, hr5⟩ := own_slice hown5; clear hown5 hg5 hat5 hr5; have e54 := cell_of_row _ _ 4 _ _ _ G5.out; generalize hV : w5.setCell ⟨w1.heap.size, 0, none⟩ (.slice A5 (16 + 1) c5) = v5 at *)
    clear hV k1 kf1
    refine Calls.mono (four_any w1.heap.size a (be4 g ++ be4 m ++ be4 (q / 4294967296) ++ be4 (q % 4294967296) ++ [0]) _ (by have := HA.out; omega) QW.out (by simp [be4])) ?_
    rintro e v6 ⟨rfl, hw, hb⟩
    obtain ⟨A6, c6, h61, h62⟩ := hw
    have HRB := hide (show RB v6 A6 21 (be4 g ++ be4 m ++ be4 (q / 4294967296) ++ be4 (q % 4294967296) ++ [0] ++ be4 a) from Reads.of_own h62)
    have HB6 := hide (QB.out.trans (hb.mono (by omega)))
    have HCC := hide (show 21 ≤ c6 ∧ c6 ≤ maxLen by
      obtain ⟨A', c', he, hc', hm', _⟩ := own_slice h62
      injection he with _ _ he
      subst he
      exact ⟨hc', hm'⟩)
    have z0 := cell_of_row _ _ 0 _ _ _ h61
    clear hb h61 h62 e54 G5 QW QB K1 K2 k0 kf HW1 HW2 HW3 HW4 G0 G0' G1 G2 G3 G4 HB0 HB1 HB1' HB2 HB3 HB4
    go_wp2_with fail
    go_ret2
    refine ⟨HB6.out, ?_⟩
    rw [HM.out]
    refine ⟨A6, c6, rfl, HCC.out.1, HCC.out.2, ?_⟩
    exact HRB.out
end Go.Proofs.YtmkkbomkonociaaDoor
