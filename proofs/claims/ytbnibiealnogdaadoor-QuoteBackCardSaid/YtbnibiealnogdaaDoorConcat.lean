/- Walks of the library's functions on slices of bytes: Grow at nil, Concat of two. -/
import Derived.Test.YtbnibiealnogdaaDoorSlices
namespace Go.Proofs.YtbnibiealnogdaaDoor
open Go.RowKit

theorem run_append_zeros {P : Program} (W : World) (t ty e ti : TypeId) (i : TypeInfo) (z : Value) (ht : P.underlying t = some (.slice e)) (hti : P.underlying ti = some (.int .i64)) (hi : P.info? e = some i) (hz : i.zero = some z) (hsz : i.size = 1) (hby : i.bytes = 1)
    (n : Nat) (h0 : 0 < n) (hn : n ≤ 1048576) :
    (Builtin.append_ #[t, ti] ty #[.slice none 0 0, .int .i64 (n : Int)]).run P W =
      .ok (.slice (some ⟨W.heap.size, 0, none⟩) n (grownCap W n 0 e)) (W.drew.alloc (.cells (Builtin.zeroCells z.cells n ++ Builtin.zeroCells z.cells (grownCap W n 0 e - n)) e)) := by
  have hn0 : n ≠ 0 := by omega
  have hw : IntKind.i64.wrap (n : Int) = n := by rw [IntKind.wrap_i64]; omega
  have h1 : ¬ ((n : Int) < 0) := by omega
  have h2 : ¬ (281474976710656 < (n : Int)) := by omega
  have h63' : ¬ (9223372036854775807 < (n : Int)) := by omega
  have hmax : max (n : Int) 0 = n := by omega
  have h48' : ¬ (281474976710656 < Builtin.nextslicecap n 0) := by rw [nextslicecap_zero h0]; omega
  simp [Builtin.append_, run_underlying ht, run_underlying hti, sizeOf, typeInfo, zeroValue, hi, hz, hsz, hby, hw, h1, h2, hn0, h63', h48', Question.forced, newRow, grownCap, asInt, asIntOf, hmax, run_firstCells_none]

theorem int_under : Tryd.prog.underlying 3 = some (.int .i64) := Tryd.underlying3

set_option maxRecDepth 100000 in
theorem grow_any (n : Nat) (w : World) (hn : n ≤ 1048576) :
    Calls Tryd.prog 42 #[.slice none 0 0, .int .i64 n] w fun e w' => ∃ v, e = .returned v ∧ w'.ownsRow w.heap.size 5 1 v 0 [] ∧ Below w.heap.size w w' := by
  obtain ⟨i0, hi, hz0, hz1, hz2⟩ := info_parts u8_info
  by_cases h0 : n = 0
  · subst h0
    go_enter Tryd.func42, Tryd.ntmps42
    go_wp2
    go_ret
    exact ⟨_, rfl, World.ownsRow_nil _ _ _ _, Below.refl _ _⟩
  · have hrun := run_append_zeros (P := Tryd.prog) w 29 29 5 3 i0 _ Tryd.underlying29 Tryd.underlying3 hi hz0 hz1 hz2 n (by omega) hn
    have hcap := grownCap_le_maxLen w n 0 5 (by unfold maxLen; omega)
    have hge := grownCap_ge w n 0 5
    generalize grownCap w n 0 5 = cap at *
    have hpos : (0 : Int) < (n : Int) := by omega
    have HC := hide hcap
    clear hcap h0
    go_enter Tryd.func42, Tryd.ntmps42
    go_wp2_with (at_builtin; refine wpList_append_run rfl (.tmp 20) (.tmp 21) _ rfl _ _ _ _ rfl rfl hrun ?_)
    go_ret
    refine ⟨_, rfl, ?_, ((Below.refl _ w).drew).alloc (Nat.le_refl _) _⟩
    exact World.ownsRow_made w.drew _ cap (Nat.le_refl _) HC.out (by simp [Builtin.zeroCells]; omega)

/-- a row of slices of bytes: where each lies, its length, its capacity, what it reads as -/
structure Part where
  A : Option Addr
  n : Nat
  c : Nat
  l : List UInt8
def Parts (w : World) (g : Nat) (L : List Part) : Prop := ∀ i (h : i < L.length), w.cell? ⟨g, i, none⟩ = some (.slice L[i].A L[i].n L[i].c) ∧ RB w L[i].A L[i].n L[i].l
def lens (L : List Part) (i : Nat) : Nat := ((L.take i).map Part.n).sum
def cat (L : List Part) (i : Nat) : List UInt8 := (L.take i).flatMap Part.l
theorem lens_succ (L : List Part) (i : Nat) (h : i < L.length) : lens L (i + 1) = lens L i + L[i].n := by
  unfold lens
  rw [List.take_succ_eq_append_getElem h, List.map_append, List.sum_append]
  simp
theorem cat_succ (L : List Part) (i : Nat) (h : i < L.length) : cat L (i + 1) = cat L i ++ L[i].l := by
  unfold cat
  rw [List.take_succ_eq_append_getElem h, List.flatMap_append]
  simp
theorem lens_mono (L : List Part) (i d : Nat) : lens L i ≤ lens L (i + d) := by
  induction d with
  | zero => exact Nat.le_refl _
  | succ d ih =>
    refine Nat.le_trans ih ?_
    by_cases h : i + d < L.length
    · rw [← Nat.add_assoc, lens_succ L _ h]; omega
    · unfold lens
      rw [List.take_of_length_le (by omega), List.take_of_length_le (by omega)]
      exact Nat.le_refl _
theorem lens_le (L : List Part) (i N : Nat) (h : i ≤ N) : lens L i ≤ lens L N := by
  have := lens_mono L i (N - i)
  rwa [Nat.add_sub_cancel' h] at this

set_option maxRecDepth 100000 in
theorem concat_any (g N c : Nat) (L : List Part) (w : World) (hL : L.length = N) (hp : Parts w g L) (hN : N ≤ 1024) (hs : lens L N ≤ 65536) :
    Calls Tryd.prog 24 #[.slice (some ⟨g, 0, none⟩) N c] w fun e w' => ∃ v, e = .returned v ∧ w'.ownsRow w.heap.size 5 1 v (lens L N) (bytes (cat L N)) ∧ Below w.heap.size w w' := by
  obtain ⟨i0, hi, hz0, hz1, hz2⟩ := info_parts u8_info
  have HL := hide hL
  have HP := hide hp
  clear hL hp
  go_enter Tryd.func24, Tryd.ntmps24
  go_wp2
  go_loop [3, 11] (fun s i => ∃ j : Nat, j ≤ N ∧ i = .int .i64 j ∧ s = .int .i64 (lens L j : Nat)) (fun _ i => N - (intOf i).toNat)
  case atStart => exact ⟨0, Nat.zero_le _, rfl, rfl⟩
  case round =>
    obtain ⟨j, hj, rfl, rfl⟩ := hrel
    have hjl := lens_le L j N hj
    by_cases hlt : j < N
    · have hjL : j < L.length := by rw [HL.out]; exact hlt
      obtain ⟨hc, _⟩ := HP.out j hjL
      have hls := hide (lens_succ L j hjL)
      have hnext := lens_le L (j + 1) N (by omega)
      have hsum : lens L j + L[j].n ≤ 65536 := by have := hls.out; omega
      clear hnext
      generalize L[j].A = A at *
      generalize L[j].n = n at *
      generalize L[j].c = cc at *
      generalize hlj : lens L j = s at *
      go_wp2
      go_round
      case rel => exact ⟨j + 1, by omega, by go_num, by rw [hls.out]; go_num⟩
      case measure => simp [intOf]; omega
    · obtain rfl : j = N := by omega
      go_wp2_with fail
      refine Calls.mono (grow_any _ _ (by omega)) ?_
      rintro e w1 ⟨v1, rfl, ho1, hb1⟩
      go_wp2
      go_loopw [6, 27] (fun v i wr => ∃ k : Nat, k ≤ j ∧ i = .int .i64 k ∧ Hid (wr.ownsRow w.heap.size 5 1 v (lens L k) (bytes (cat L k))) ∧ Hid (Below w.heap.size w wr)) (fun _ i _ => j - (intOf i).toNat)
      case atStart => exact ⟨0, Nat.zero_le _, rfl, hide ho1, hide hb1⟩
      case round =>
        clear ho1 hb1
        obtain ⟨k, hk, rfl, ho, hb⟩ := hrel
        by_cases hltk : k < j
        · have hkL : k < L.length := by rw [HL.out]; exact hltk
          obtain ⟨hc0, hr0⟩ := HP.out k hkL
          have hc := keep_cell hb.out hc0
          have hr := hide (hr0.on hb.out)
          have hls := hide (lens_succ L k hkL)
          have hcs := hide (cat_succ L k hkL)
          have hnext := lens_le L (k + 1) j (by omega)
          have hsum : lens L k + L[k].n ≤ 65536 := by have := hls.out; omega
          have hbz := hb.out.size
          clear hnext hc0 hr0
          generalize L[k].A = A at *
          generalize L[k].n = n at *
          generalize L[k].c = cc at *
          generalize L[k].l = l at *
          go_wp2_with (at_builtin; refine wpList_append_reads rfl (.tmp 31) (.tmp 32) _ rfl w.heap.size 5 i0 (.int .u8 0) 1 1 Tryd.underlying29 hi hz0 hz1 hz2 rfl (by omega) u6 (lens L k) (bytes (cat L k)) rfl ho.out wr.heap.size A n cc _ rfl hr.out bytes_one (by unfold maxLen; omega) (by omega) hbz ?_; intro v3 w3 hown3 hg3 hat3)
          go_roundw
          case rel =>
            refine ⟨k + 1, by omega, by go_num, hide ?_, hide ?_⟩
            · rw [hls.out, hcs.out, bytes_append]; exact hown3
            · exact below_append hb.out ho.out (Nat.le_refl _) hg3
          case measure => simp [intOf]; omega
        · obtain rfl : k = j := by omega
          go_wp2
          go_ret
          exact ⟨u6, rfl, ho.out, hb.out⟩
end Go.Proofs.YtbnibiealnogdaaDoor
